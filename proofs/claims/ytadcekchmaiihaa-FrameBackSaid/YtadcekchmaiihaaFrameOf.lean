import Derived.Test.YtadcekchmaiihaaPAx
import Derived.Test.YtadcekchmaiihaaFrameMath
/- What the program's own records tell. -/
namespace Go.Proofs.Ytadcekchmaiihaa.FrameOf
open Go Go.RowKit Go.Proofs.Ytadcekchmaiihaa.PA Go.Proofs.YtadcekchmaiihaaW.PrintWords Go.Proofs.YtadcekchmaiihaaW.PrintLast Go.Proofs.YtadcekchmaiihaaW.PrintMore Go.Proofs.Ytadcekchmaiihaa.Crc Go.Proofs.Ytadcekchmaiihaa.CrcOf Go.Proofs.Ytadcekchmaiihaa.Frame Go.Proofs.Ytadcekchmaiihaa.Pure

theorem put_f {b : List Int} {n : Int} (h : b.length ≤ 140737488355000) : frame_put.f b n = some (b ++ le4 n) := by
  rw [frame_put.f, Option.bind_some, if_pos (by simp only [List.length_cons, List.length_nil]; omega)]; rfl
theorem upd_sum {a r : List Int} {k : Nat} (ha : Bytes a) (hr : Bytes r) (hm : r.length ≤ 140737488351232) (hk : 10 * r.length + 1 ≤ k) :
    crc_Update.f k ((M ^^^ run M a : Nat) : Int) r = some ((sum (a ++ r) : Nat) : Int) := by
  rw [upd' (xor_lt (by decide) (run_lt (by decide) ha)) hr hm hk, xor_self_l]
  unfold Frame.sum
  rw [run_append]
theorem Put_f {k : Nat} {b r : List Int} (hr : Bytes r) (hl : r.length ≤ 100000) (hb : b.length ≤ 100000000) (hk : 10 * r.length + 50 ≤ k) :
    frame_Put.f k b r = some (b ++ enc r) := by
  rw [frame_Put.f, put_f (by decide), List.nil_append, Option.bind_some]
  show (if b.length + (hd r).length < 140737488355328 then _ else _) = _
  rw [hd_length, if_pos (by omega)]
  show ((crc_Sum.f k (hd r)).bind _) = _
  rw [sum' (hd_bytes r) (by rw [hd_length]; omega) (by rw [hd_length]; omega), Option.bind_some, upd_sum (hd_bytes r) hr (by omega) (by omega), Option.bind_some]
  show ((frame_put.f (b ++ hd r) _).bind _) = _
  rw [put_f (by rw [List.length_append, hd_length]; omega), Option.bind_some, if_pos (by simp only [List.length_append, hd_length, le4_length]; omega)]
  simp [enc]
theorem get_f {b : List Int} (hb : Bytes b) (h : 4 ≤ b.length) : frame_get.f b = some (g b) := by
  rw [frame_get.f, if_pos (by omega), if_pos (by omega), if_pos (by omega), if_pos (by omega)]
  have e : ∀ i : Nat, i < 4 → 0 ≤ rd b (i : Int) ∧ rd b (i : Int) < 256 := fun i hi => by
    rw [rd_at (by omega)]; exact hb _ (List.getElem_mem _)
  have e0 := e 0 (by decide); have e1 := e 1 (by decide); have e2 := e 2 (by decide); have e3 := e 3 (by decide)
  simp only [Int.cast_ofNat_Int] at e0 e1 e2 e3
  unfold g
  change 0 ≤ rd b 0 ∧ rd b 0 < 256 at e0
  change 0 ≤ rd b 1 ∧ rd b 1 < 256 at e1
  change 0 ≤ rd b 2 ∧ rd b 2 < 256 at e2
  change 0 ≤ rd b 3 ∧ rd b 3 < 256 at e3
  generalize rd b 0 = x0 at *
  generalize rd b 1 = x1 at *
  generalize rd b 2 = x2 at *
  generalize rd b 3 = x3 at *
  have jn : ∀ (i : Nat) (x y : Int), 0 ≤ x → x % 2 ^ i = 0 → x < 4294967296 → 0 ≤ y → y < 2 ^ i → y < 4294967296 → Go.bits .or .u32 x y = x + y := fun i x y h0 h1 h2 h3 h4 h5 =>
    bits_join .u32 32 (by decide) (fun n h0 h1 => by rw [IntKind.wrap_u32]; omega) i x y h0 h1 (by omega) h3 h4 (by omega)
  have sw : ∀ (x y : Int) (m n : Nat), x = m → y = n → m < 4294967296 → n < 4294967296 → Go.bits .or .u32 x y = Go.bits .or .u32 y x := fun x y m n hx hy hm hn => by
    subst hx; subst hy
    rw [(bits_nat .u32 32 (by decide) (fun n h0 h1 => by rw [IntKind.wrap_u32]; omega) m n hm hn).2, (bits_nat .u32 32 (by decide) (fun n h0 h1 => by rw [IntKind.wrap_u32]; omega) n m hn hm).2, Nat.or_comm]
  have f1 : Go.bits .or .u32 (x0 % 4294967296) ((x1 % 4294967296) * 256 % 4294967296) = x0 + 256 * x1 := by
    rw [sw _ _ x0.toNat (256 * x1).toNat (by omega) (by omega) (by omega) (by omega), jn 8 _ _ (by omega) (by omega) (by omega) (by omega) (by omega) (by omega)]; omega
  have f2 : Go.bits .or .u32 (x0 + 256 * x1) ((x2 % 4294967296) * 65536 % 4294967296) = x0 + 256 * x1 + 65536 * x2 := by
    rw [sw _ _ (x0 + 256 * x1).toNat (65536 * x2).toNat (by omega) (by omega) (by omega) (by omega), jn 16 _ _ (by omega) (by omega) (by omega) (by omega) (by omega) (by omega)]; omega
  have f3 : Go.bits .or .u32 (x0 + 256 * x1 + 65536 * x2) ((x3 % 4294967296) * 16777216 % 4294967296) = x0 + 256 * x1 + 65536 * x2 + 16777216 * x3 := by
    rw [sw _ _ (x0 + 256 * x1 + 65536 * x2).toNat (16777216 * x3).toNat (by omega) (by omega) (by omega) (by omega), jn 24 _ _ (by omega) (by omega) (by omega) (by omega) (by omega) (by omega)]; omega
  rw [f1, f2, f3]
theorem scan_l0 (f : Nat) : ∀ (k : Nat) (b : List Int) (acc : List (List Int)) (at_ : Nat), Bytes b → b.length ≤ 1000000 → at_ ≤ b.length → b.length < at_ + 8 * f →
    10 * b.length + 50 + f ≤ k → acc.length + f < 1000000 →
    frame_Scan.l0 k b acc (at_ : Int) = some (acc ++ (scn f (b.drop at_)).1, ((at_ + (scn f (b.drop at_)).2 : Nat) : Int)) := by
  induction f with
  | zero => intro k b acc at_ _ _ h1 h2; omega
  | succ f ih =>
    intro k b acc at_ hb hm h1 h2 hk ha
    obtain ⟨k, rfl⟩ : ∃ m, k = m + 1 := ⟨k - 1, by omega⟩
    have hl : (b.drop at_).length = b.length - at_ := List.length_drop
    have HH := Aside0.mk (And.intro h2 (And.intro hk ha))
    clear h2 hk ha
    have w1 : wrap64 ((b.length : Int) - (at_ : Int)) = (b.length : Int) - (at_ : Int) := w64 (by omega) (by omega)
    rw [frame_Scan.l0, w1]
    by_cases c1 : (b.drop at_).length < 8
    · rw [if_pos (by omega), scn_short c1]; simp
    rw [if_neg (by omega), if_pos (by omega), if_pos (by omega), Int.toNat_natCast, get_f (b_drop hb _) (by omega), Option.bind_some]
    obtain ⟨g0, g1⟩ := g_range (b_drop hb at_) (by omega)
    obtain ⟨n, hn⟩ : ∃ n : Nat, g (b.drop at_) = (n : Int) := ⟨(g (b.drop at_)).toNat, by omega⟩
    rw [hn] at g1 ⊢
    clear g0
    replace hn := Aside0.mk hn
    have w2 : wrap64 (n : Int) = (n : Int) := w64 (by omega) (by omega)
    have w3 : wrap64 ((b.length : Int) - (at_ : Int) - 8) = (b.length : Int) - (at_ : Int) - 8 := w64 (by omega) (by omega)
    rw [w2, w3, scn]
    clear w1 w2 w3
    by_cases c2 : (b.drop at_).length < 8 + n
    · have : Frame.step (b.drop at_) = none := by unfold Frame.step; rw [if_neg c1, hn.out, Int.toNat_natCast, if_pos c2]
      rw [if_pos (by omega), this]; simp
    have w4 : wrap64 ((at_ : Int) + 8) = ((at_ + 8 : Nat) : Int) := by rw [w64 (by omega) (by omega)]; omega
    have w5 : wrap64 (((at_ + 8 : Nat) : Int) + (n : Int)) = ((at_ + 8 + n : Nat) : Int) := by rw [w64 (by omega) (by omega)]; omega
    have w6 : wrap64 ((at_ : Int) + 4) = ((at_ + 4 : Nat) : Int) := by rw [w64 (by omega) (by omega)]; omega
    rw [if_neg (by omega), w4, if_pos (by omega), w5, if_pos (by omega), if_pos (by omega), Option.bind_some, w6, if_pos (by omega), if_pos (by omega), Int.toNat_natCast, Int.toNat_natCast, Int.toNat_natCast]
    clear w4 w5 w6
    have r1 : (b.take (at_ + 8 + n)).drop (at_ + 8) = ((b.drop at_).drop 8).take n := by
      rw [List.drop_drop, List.take_drop]
    have r2 : (b.take (at_ + 4)).drop at_ = (b.drop at_).take 4 := by rw [List.take_drop]
    have r3 : b.drop (at_ + 4) = (b.drop at_).drop 4 := by rw [List.drop_drop]
    have hb' := b_drop hb at_
    rw [r1, r2, r3]
    have hd1 : (b.drop at_).drop (8 + n) = b.drop (at_ + (8 + n)) := by rw [List.drop_drop]
    generalize b.drop at_ = c at *
    have s2 : 10 * n + 50 ≤ k := by have := HH.out.2.1; omega
    have l4 : (c.take 4).length = 4 := by rw [List.length_take]; omega
    have lr : ((c.drop 8).take n).length = n := by rw [List.length_take, List.length_drop]; omega
    rw [get_f (b_drop hb' 4) (by rw [List.length_drop]; omega), Option.bind_some, if_pos (by omega), sum' (b_take hb' 4) (by rw [l4]; decide) (by rw [l4]; omega), Option.bind_some,
      upd_sum (b_take hb' 4) (b_take (b_drop hb' 8) n) (by rw [lr]; omega) (by rw [lr]; omega), Option.bind_some]
    have es : Frame.step c = if g (c.drop 4) = ((sum (c.take 4 ++ (c.drop 8).take n) : Nat) : Int) then some ((c.drop 8).take n) else none := by
      unfold Frame.step; rw [if_neg c1, hn.out, Int.toNat_natCast, if_neg c2]
    by_cases c3 : g (c.drop 4) = ((sum (c.take 4 ++ (c.drop 8).take n) : Nat) : Int)
    · rw [if_pos c3] at es ⊢
      clear c3
      replace es := Aside0.mk es
      have w7 : wrap64 ((8 : Int) + (n : Int)) = ((8 + n : Nat) : Int) := by rw [w64 (by omega) (by omega)]; omega
      have w8 : wrap64 ((at_ : Int) + ((8 + n : Nat) : Int)) = ((at_ + (8 + n) : Nat) : Int) := by rw [w64 (by omega) (by omega)]; omega
      clear s2 g1
      obtain ⟨h2, hk, ha⟩ := HH.out
      rw [if_pos (by omega), w7, w8, ih k b _ (at_ + (8 + n)) hb hm (by omega) (by omega) (by omega) (by rw [List.length_append, List.length_singleton]; omega), es.out]
      simp only [lr, hd1, List.append_assoc, List.singleton_append]
      rw [Nat.add_assoc]
    · rw [if_neg c3] at es ⊢
      rw [es]; simp
theorem scan_f {k f : Nat} {b : List Int} (hb : Bytes b) (hm : b.length ≤ 1000000) (hf : b.length < 8 * f) (h2 : f < 1000000) (hk : 10 * b.length + 50 + f ≤ k) :
    frame_Scan.f k b = some ((scn f b).1, (((scn f b).2 : Nat) : Int)) := by
  have := scan_l0 f k b [] 0 hb hm (Nat.zero_le _) (by omega) hk (by simpa using h2)
  rw [frame_Scan.f]
  simpa using this
end Go.Proofs.Ytadcekchmaiihaa.FrameOf
