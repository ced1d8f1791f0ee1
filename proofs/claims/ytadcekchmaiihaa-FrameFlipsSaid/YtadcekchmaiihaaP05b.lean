/- Records: a number as four bytes, a record behind bytes, the records that bytes begin with. -/
import Derived.Test.YtadcekchmaiihaaP05a
namespace Go.Proofs.Ytadcekchmaiihaa.PE
set_option linter.unusedVariables false
open Go Go.RowKit Go.Proofs.Ytadcekchmaiihaa.Crc
theorem put_spec {b : List Int} {n : Int} (h : b.length ≤ 140737488351000) : frame_put b n = some (b ++ le4 n) := by
  have e : [IntKind.u8.wrap n, IntKind.u8.wrap (n.fdiv (2 ^ min (Int.toNat 8) IntKind.u32.bits)), IntKind.u8.wrap (n.fdiv (2 ^ min (Int.toNat 16) IntKind.u32.bits)), IntKind.u8.wrap (n.fdiv (2 ^ min (Int.toNat 24) IntKind.u32.bits))] = le4 n := by
    rw [show ((2 : Int) ^ min (Int.toNat 8) IntKind.u32.bits) = 256 from rfl, show ((2 : Int) ^ min (Int.toNat 16) IntKind.u32.bits) = 65536 from rfl, show ((2 : Int) ^ min (Int.toNat 24) IntKind.u32.bits) = 16777216 from rfl,
      Int.fdiv_eq_ediv_of_nonneg _ (by decide), Int.fdiv_eq_ediv_of_nonneg _ (by decide), Int.fdiv_eq_ediv_of_nonneg _ (by decide), wrap_u8, wrap_u8, wrap_u8, wrap_u8]; rfl
  rw [frame_put_eq, e, Bool.cond_decide, if_pos (show _ ≤ room by simp only [ilen_eq, room_eq, le4_length]; omega)]
theorem upd_sum {a r : List Int} (ha : Bytes a) (hr : Bytes r) (hm : r.length ≤ 140737488351232) : crc_Update ((sumv a : Nat) : Int) r = some ((sumv (a ++ r) : Nat) : Int) := by
  unfold sumv
  rw [upd_spec (xor_lt (by decide) (run_lt (by decide) ha)) hr hm, xor_self_l, run_append]
theorem Put_spec {b r : List Int} (hr : Bytes r) (hl : r.length ≤ 100000) (hb : b.length ≤ 100000000) : frame_Put b r = some (b ++ rec_ r) := by
  rw [frame_Put_eq, put_spec (by decide), List.nil_append, Option.bind_some, wrap_u32, ilen_eq r, show le4 ((r.length : Int) % 4294967296) = hd r from rfl, Bool.cond_decide, if_pos (show _ ≤ room by simp only [ilen_eq, room_eq, hd_length]; omega), sum_spec (hd_bytes r) (by rw [hd_length]; omega), Option.bind_some, upd_sum (hd_bytes r) hr (by omega), Option.bind_some, put_spec (by rw [List.length_append, hd_length]; omega), Option.bind_some, Bool.cond_decide, if_pos (show _ ≤ room by simp only [ilen_eq, room_eq, List.length_append, hd_length, le4_length]; omega)]
  simp only [rec_, List.append_assoc]
theorem get_spec {b : List Int} (hb : Bytes b) (h : 4 ≤ b.length) : frame_get b = some (g4 b) := by
  match b, h with
  | x0 :: x1 :: x2 :: x3 :: t, _ =>
    have e0 := hb x0 (by simp); have e1 := hb x1 (by simp); have e2 := hb x2 (by simp); have e3 := hb x3 (by simp)
    have jn : ∀ (i : Nat) (x y : Int), 0 ≤ x → x % 2 ^ i = 0 → x < 4294967296 → 0 ≤ y → y < 2 ^ i → y < 4294967296 → Go.bits .or .u32 x y = x + y := fun i x y h0 h1 h2 h3 h4 h5 =>
      bits_join .u32 32 (by decide) (fun n h0 h1 => by rw [IntKind.wrap_u32]; omega) i x y h0 h1 (by omega) h3 h4 (by omega)
    have sw : ∀ (x y : Int) (m n : Nat), x = m → y = n → m < 4294967296 → n < 4294967296 → Go.bits .or .u32 x y = Go.bits .or .u32 y x := fun x y m n hx hy hm hn => by
      subst hx; subst hy
      rw [(bits_nat .u32 32 (by decide) (fun n h0 h1 => by rw [IntKind.wrap_u32]; omega) m n hm hn).2, (bits_nat .u32 32 (by decide) (fun n h0 h1 => by rw [IntKind.wrap_u32]; omega) n m hn hm).2, Nat.or_comm]
    have f1 : Go.bits .or .u32 (x0 % 4294967296) ((x1 % 4294967296) * 256 % 4294967296) = x0 + 256 * x1 := by
      rw [sw _ _ x0.toNat (256 * x1).toNat (by omega) (by omega) (by omega) (by omega), jn 8 _ _ (by omega) (by omega) (by omega) (by omega) (by omega) (by omega)]; omega
    have f2 : Go.bits .or .u32 (x0 + 256 * x1) ((x2 % 4294967296) * 65536 % 4294967296) = x0 + 256 * x1 + 65536 * x2 := by
      rw [sw _ _ (x0 + 256 * x1).toNat (65536 * x2).toNat (by omega) (by omega) (by omega) (by omega), jn 16 _ _ (by omega) (by omega) (by omega) (by omega) (by omega) (by omega)]; omega
    have f3 : Go.bits .or .u32 (x0 + 256 * x1 + 65536 * x2) ((x3 % 4294967296) * 16777216 % 4294967296) = x0 + 256 * x1 + 65536 * x2 + 16777216 * x3 := by
      rw [sw _ _ (x0 + 256 * x1 + 65536 * x2).toNat (16777216 * x3).toNat (by omega) (by omega) (by omega) (by omega), jn 24 _ _ (by omega) (by omega) (by omega) (by omega) (by omega) (by omega)]; omega
    rw [frame_get_eq, show (x0 :: x1 :: x2 :: x3 :: t)[Int.toNat 0]? = some x0 from rfl, show (x0 :: x1 :: x2 :: x3 :: t)[Int.toNat 1]? = some x1 from rfl, show (x0 :: x1 :: x2 :: x3 :: t)[Int.toNat 2]? = some x2 from rfl, show (x0 :: x1 :: x2 :: x3 :: t)[Int.toNat 3]? = some x3 from rfl,
      Option.bind_some, Option.bind_some, Option.bind_some, Option.bind_some, bits_or, bits_or, bits_or,
      show ((2 : Int) ^ min (Int.toNat 8) IntKind.u32.bits) = 256 from rfl, show ((2 : Int) ^ min (Int.toNat 16) IntKind.u32.bits) = 65536 from rfl, show ((2 : Int) ^ min (Int.toNat 24) IntKind.u32.bits) = 16777216 from rfl]
    simp only [wrap_u32]
    rw [f1, f2, f3]; rfl
theorem scan_l0 (f : Nat) : ∀ (b : List Int) (acc : List (List Int)) (at_ : Nat), Bytes b → b.length ≤ 1000000 → at_ ≤ b.length → b.length < at_ + 8 * f → acc.length + f < 1000000 →
    frame_Scan_l90000 b (at_ : Int) acc = some (acc ++ (scn f (b.drop at_)).1, ((at_ + (scn f (b.drop at_)).2 : Nat) : Int)) := by
  induction f with
  | zero => intro b acc at_ _ _ h1 h2; omega
  | succ f ih =>
    intro b acc at_ hb hm h1 h2 ha
    have hl : (b.drop at_).length = b.length - at_ := List.length_drop
    have w1 : IntKind.i64.wrap ((b.length : Int) - (at_ : Int)) = (b.length : Int) - (at_ : Int) := wrap_i64 (by omega) (by omega)
    rw [frame_Scan_l90000_eq]
    simp -implicitDefEqProofs only [Bool.cond_decide, ilen_eq]
    rw [w1]
    by_cases c1 : (b.drop at_).length < 8
    · rw [if_pos (by omega), scn_none (step_short c1)]; simp
    rw [if_neg (by omega), if_pos (by omega), if_pos (by omega), if_pos (by omega), Int.toNat_natCast, Int.toNat_natCast, List.take_length, get_spec (b_drop hb _) (by omega), Option.bind_some]
    obtain ⟨g0, g1⟩ := g4_range (b_drop hb at_) (by omega)
    obtain ⟨n, hn⟩ : ∃ n : Nat, g4 (b.drop at_) = (n : Int) := ⟨(g4 (b.drop at_)).toNat, by omega⟩
    rw [hn] at g1 ⊢
    have w2 : IntKind.i64.wrap (n : Int) = (n : Int) := wrap_i64 (by omega) (by omega)
    have w3 : IntKind.i64.wrap ((b.length : Int) - (at_ : Int) - 8) = (b.length : Int) - (at_ : Int) - 8 := wrap_i64 (by omega) (by omega)
    rw [w2, w3, scn]
    by_cases c2 : (b.drop at_).length < 8 + n
    · have : step (b.drop at_) = none := by unfold step; rw [if_neg c1, hn, Int.toNat_natCast, if_pos c2]
      rw [if_pos (by omega), this]; simp
    have w4 : IntKind.i64.wrap ((at_ : Int) + 8) = ((at_ + 8 : Nat) : Int) := by rw [wrap_i64 (by omega) (by omega)]; omega
    have w5 : IntKind.i64.wrap (((at_ + 8 : Nat) : Int) + (n : Int)) = ((at_ + 8 + n : Nat) : Int) := by rw [wrap_i64 (by omega) (by omega)]; omega
    have w6 : IntKind.i64.wrap ((at_ : Int) + 4) = ((at_ + 4 : Nat) : Int) := by rw [wrap_i64 (by omega) (by omega)]; omega
    rw [if_neg (by omega), w4, w5, w6, if_pos (by omega), if_pos (by omega), if_pos (by omega), if_pos (by omega), if_pos (by omega), if_pos (by omega), if_pos (by omega), Int.toNat_natCast, Int.toNat_natCast, Int.toNat_natCast]
    have r1 : (b.take (at_ + 8 + n)).drop (at_ + 8) = ((b.drop at_).drop 8).take n := by
      rw [List.drop_drop, List.take_drop]
    have r2 : (b.take (at_ + 4)).drop at_ = (b.drop at_).take 4 := by rw [List.take_drop]
    have r3 : b.drop (at_ + 4) = (b.drop at_).drop 4 := by rw [List.drop_drop]
    have hb' := b_drop hb at_
    rw [r1, r2, r3]
    have hd1 : (b.drop at_).drop (8 + n) = b.drop (at_ + (8 + n)) := by rw [List.drop_drop]
    have w7 : IntKind.i64.wrap ((8 : Int) + (n : Int)) = ((8 + n : Nat) : Int) := by rw [wrap_i64 (by omega) (by omega)]; omega
    have w8 : IntKind.i64.wrap ((at_ : Int) + ((8 + n : Nat) : Int)) = ((at_ + (8 + n) : Nat) : Int) := by rw [wrap_i64 (by omega) (by omega)]; omega
    have nx := ih b (acc ++ [((b.drop at_).drop 8).take n]) (at_ + (8 + n)) hb hm (by omega) (by omega) (by rw [List.length_append, List.length_singleton]; omega)
    rw [w7, w8, nx]
    clear nx
    generalize b.drop at_ = c at *
    have l4 : (c.take 4).length = 4 := by rw [List.length_take]; omega
    have lr : ((c.drop 8).take n).length = n := by rw [List.length_take, List.length_drop]; omega
    rw [get_spec (b_drop hb' 4) (by rw [List.length_drop]; omega), Option.bind_some, if_pos (by omega), if_pos (by omega), if_pos (by omega), sum_spec (b_take hb' 4) (by rw [l4]; decide), Option.bind_some,
      upd_sum (b_take hb' 4) (b_take (b_drop hb' 8) n) (by rw [lr]; omega), Option.bind_some]
    have es : step c = if g4 (c.drop 4) = ((sumv (c.take 4 ++ (c.drop 8).take n) : Nat) : Int) then some ((c.drop 8).take n) else none := by
      unfold step; rw [if_neg c1, hn, Int.toNat_natCast, if_neg c2]
    by_cases c3 : g4 (c.drop 4) = ((sumv (c.take 4 ++ (c.drop 8).take n) : Nat) : Int)
    · rw [if_pos c3] at es
      rw [bne_no c3, cond_false, if_pos (show _ ≤ room by simp only [room_eq, List.length_singleton]; omega), es]
      simp only [lr, hd1, List.append_assoc, List.singleton_append]
      rw [Nat.add_assoc]
    · rw [if_neg c3] at es
      rw [bne_yes c3, cond_true, es]; simp
theorem scan_spec {f : Nat} {b : List Int} (hb : Bytes b) (hm : b.length ≤ 1000000) (hf : b.length < 8 * f) (h2 : f < 1000000) : frame_Scan b = some ((scn f b).1, (((scn f b).2 : Nat) : Int)) := by
  have := scan_l0 f b [] 0 hb hm (Nat.zero_le _) (by omega) (by simpa using h2)
  rw [frame_Scan_eq]
  simpa using this
end Go.Proofs.Ytadcekchmaiihaa.PE
