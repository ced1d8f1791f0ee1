import Derived.Test.YtadcekchmaiihaaFrameRefs
/- The reference's reading of records. -/
namespace Go.Proofs.Ytadcekchmaiihaa.FrameOf
open Go Go.RowKit Go.Proofs.Ytadcekchmaiihaa.PA Go.Proofs.YtadcekchmaiihaaW.PrintWords Go.Proofs.YtadcekchmaiihaaW.PrintLast Go.Proofs.YtadcekchmaiihaaW.PrintMore Go.Proofs.Ytadcekchmaiihaa.Crc Go.Proofs.Ytadcekchmaiihaa.CrcOf Go.Proofs.Ytadcekchmaiihaa.Frame Go.Proofs.Ytadcekchmaiihaa.Pure

theorem toList_loop (s : ByteArray) (d i : Nat) (r : List UInt8) (h : s.size - i = d) : ByteArray.toList.loop s i r = r.reverse ++ s.data.toList.drop i := by
  induction d generalizing i r with
  | zero =>
    have hs : s.size ≤ s.data.toList.length := by rw [Array.length_toList]; exact Nat.le_refl _
    have hs2 : s.data.toList.length = s.size := by rw [Array.length_toList]; rfl
    rw [ByteArray.toList.loop, if_neg (by omega), List.drop_eq_nil_of_le (by omega), List.append_nil]
  | succ d ih =>
    have hs2 : s.data.toList.length = s.size := by rw [Array.length_toList]; rfl
    have hlt : i < s.data.toList.length := by omega
    rw [ByteArray.toList.loop, if_pos (by omega), ih (i + 1) _ (by omega), List.drop_eq_getElem_cons hlt, List.reverse_cons, List.append_assoc]
    congr 1
    rw [List.singleton_append]
    congr 1
    have hd : i < s.data.size := by rw [← Array.length_toList]; exact hlt
    show s.data[i]! = _
    rw [getElem!_pos s.data i hd, Array.getElem_toList]
theorem toList_data (s : ByteArray) : s.toList = s.data.toList := by
  rw [ByteArray.toList, toList_loop s (s.size - 0) 0 [] rfl]; rfl
theorem str_inj {a b : List Int} (ha : Bytes a) (hb : Bytes b) (h : (strOfNums a).toList = (strOfNums b).toList) : a = b := by
  have h' : (strOfNums a).data.toList = (strOfNums b).data.toList := by rw [← toList_data, ← toList_data]; exact h
  rw [strOfNums_data, strOfNums_data] at h'
  have key : ∀ {l : List Int}, Bytes l → (l.map fun n => UInt8.ofNat n.toNat).map (fun c => (c.toNat : Int)) = l := by
    intro l hl
    rw [List.map_map]
    conv => rhs; rw [← List.map_id l]
    apply List.map_congr_left
    intro x hx
    have := hl x hx
    simp only [Function.comp, id, UInt8.toNat_ofNat']
    omega
  rw [← key ha, ← key hb, h']

theorem rsame_f {a b : List Int} (ha : Bytes a) (hb : Bytes b) : funicularref05_same.f a b = some (decide (b.length ≤ a.length ∧ a.take b.length = b)) := by
  rw [funicularref05_same.f]
  by_cases h : b.length ≤ a.length
  · rw [if_pos (by omega), if_pos (by omega), if_pos (by omega), Int.toNat_natCast]
    by_cases e : a.take b.length = b
    · rw [decide_eq_true (show b.length ≤ a.length ∧ a.take b.length = b from ⟨h, e⟩), e, beq_self_eq_true]
    · rw [decide_eq_false (fun q => e q.2)]
      congr 1
      exact beq_eq_false_iff_ne.mpr (fun q => e (str_inj (b_take ha _) hb q))
  · rw [if_neg (by omega), decide_eq_false (fun q => h q.1)]
/-- A record read is a record written. -/
theorem step_iff {b : List Int} (hb : Bytes b) (h8 : 8 ≤ b.length) (hm : b.length < 1000000) (hn : 8 + (g b).toNat ≤ b.length) :
    b.take (enc ((b.drop 8).take (g b).toNat)).length = enc ((b.drop 8).take (g b).toNat) ↔ g (b.drop 4) = ((Frame.sum (b.take 4 ++ (b.drop 8).take (g b).toNat) : Nat) : Int) := by
  obtain ⟨g0, g1⟩ := g_range hb (by omega)
  have h4 := le4_g hb (by omega)
  have hl4 : 4 ≤ (b.drop 4).length := by rw [List.length_drop]; omega
  have h5 := le4_g (b_drop hb 4) hl4
  obtain ⟨n, en⟩ : ∃ n : Nat, g b = (n : Int) := ⟨(g b).toNat, by omega⟩
  have hn' : 8 + n ≤ b.length := by rw [en, Int.toNat_natCast] at hn; exact hn
  rw [en] at h4
  rw [en, Int.toNat_natCast]
  have lr : ((b.drop 8).take n).length = n := by rw [List.length_take, List.length_drop]; omega
  have hr : hd ((b.drop 8).take n) = b.take 4 := by unfold hd; rw [lr, ← h4]; congr 1; omega
  have e2 : b = b.take 4 ++ ((b.drop 4).take 4 ++ ((b.drop 8).take n ++ b.drop (8 + n))) := by
    have a1 : (b.drop 8).take n ++ b.drop (8 + n) = b.drop 8 := by rw [← List.drop_drop, List.take_append_drop]
    have a2 : (b.drop 4).take 4 ++ b.drop 8 = b.drop 4 := by rw [show (8 : Nat) = 4 + 4 from rfl, ← List.drop_drop, List.take_append_drop]
    rw [a1, a2, List.take_append_drop]
  have e3 : b.take (8 + n) = b.take 4 ++ ((b.drop 4).take 4 ++ (b.drop 8).take n) := by
    have l4 : (b.take 4).length = 4 := by rw [List.length_take]; omega
    have l5 : ((b.drop 4).take 4).length = 4 := by rw [List.length_take]; omega
    have : (b.take 4 ++ ((b.drop 4).take 4 ++ (b.drop 8).take n)).length = 8 + n := by rw [List.length_append, List.length_append, l4, l5, lr]; omega
    have e2' : b = (b.take 4 ++ ((b.drop 4).take 4 ++ (b.drop 8).take n)) ++ b.drop (8 + n) := by
      rw [List.append_assoc, List.append_assoc]; exact e2
    exact (congrArg (List.take (8 + n)) e2').trans (List.take_left' this)
  rw [enc_length, lr, e3]
  unfold enc
  rw [hr, List.append_assoc, ← h5]
  have hs := sum_lt (b_app (b_take hb 4) (b_take (b_drop hb 8) n))
  obtain ⟨q0, q1⟩ := g_range (b_drop hb 4) hl4
  generalize Frame.sum (b.take 4 ++ (b.drop 8).take n) = s at hs ⊢
  constructor
  · intro h
    have h := List.append_cancel_left h
    have h := List.append_cancel_right h
    have e := g_le4 q0 q1 []
    rw [h, g_le4 (by omega) (by omega)] at e
    exact e.symm
  · intro h; rw [h]
theorem u64m (i : Int) : IntKind.u64.wrap i = i % 18446744073709551616 := by
  simp only [IntKind.wrap, IntKind.bits, IntKind.signed]; simp
theorem four_g {x0 x1 x2 x3 : Int} (h0 : 0 ≤ x0 ∧ x0 < 256) (h1 : 0 ≤ x1 ∧ x1 < 256) (h2 : 0 ≤ x2 ∧ x2 < 256) (h3 : 0 ≤ x3 ∧ x3 < 256) :
    IntKind.u64.wrap ((IntKind.u64.wrap ((IntKind.u64.wrap ((IntKind.u64.wrap x0) + (IntKind.u64.wrap (256 * (IntKind.u64.wrap x1))))) + (IntKind.u64.wrap (65536 * (IntKind.u64.wrap x2))))) + (IntKind.u64.wrap (16777216 * (IntKind.u64.wrap x3)))) = x0 + 256 * x1 + 65536 * x2 + 16777216 * x3 := by
  simp only [u64m]; omega
theorem rd_drop {b : List Int} {a i : Nat} (h : a + i < b.length) : rd (b.drop a) (i : Int) = rd b ((a + i : Nat) : Int) := by
  rw [rd_at h, rd_at (by rw [List.length_drop]; omega), List.getElem_drop]
theorem rscan_l0 (f : Nat) : ∀ (k : Nat) (b : List Int) (acc : List (List Int)) (at_ : Nat), Bytes b → b.length ≤ 1900 → at_ ≤ b.length → b.length < at_ + 8 * f →
    600000 + f ≤ k → acc.length + f < 1000000 →
    funicularref05_Scan.l0 k b acc (at_ : Int) = some (acc ++ (scn f (b.drop at_)).1, ((at_ + (scn f (b.drop at_)).2 : Nat) : Int)) := by
  induction f with
  | zero => intro k b acc at_ _ _ h1 h2; omega
  | succ f ih =>
    intro k b acc at_ hb hm h1 h2 hk ha
    obtain ⟨k, rfl⟩ : ∃ m, k = m + 1 := ⟨k - 1, by omega⟩
    have hl : (b.drop at_).length = b.length - at_ := List.length_drop
    have HH := Aside0.mk (And.intro h2 (And.intro hk ha))
    have hk2 : 599000 ≤ k := by omega
    clear h2 hk ha
    have w1 : wrap64 ((b.length : Int) - (at_ : Int)) = (b.length : Int) - (at_ : Int) := w64 (by omega) (by omega)
    rw [funicularref05_Scan.l0, w1]
    by_cases c1 : (b.drop at_).length < 8
    · rw [if_neg (by omega), scn_short c1]; simp
    have v1 : wrap64 ((at_ : Int) + 1) = ((at_ + 1 : Nat) : Int) := by rw [w64 (by omega) (by omega)]; omega
    have v2 : wrap64 ((at_ : Int) + 2) = ((at_ + 2 : Nat) : Int) := by rw [w64 (by omega) (by omega)]; omega
    have v3 : wrap64 ((at_ : Int) + 3) = ((at_ + 3 : Nat) : Int) := by rw [w64 (by omega) (by omega)]; omega
    have w4 : wrap64 ((at_ : Int) + 8) = ((at_ + 8 : Nat) : Int) := by rw [w64 (by omega) (by omega)]; omega
    rw [v1, v2, v3, w4]
    clear w1 v1 v2 v3 w4
    rw [if_pos (by omega), if_pos (by omega), if_pos (by omega), if_pos (by omega), if_pos (by omega), if_pos (by omega), if_pos (by omega), if_pos (by omega), if_pos (by omega)]
    have ex : ∀ i : Nat, i < 4 → 0 ≤ rd b ((at_ + i : Nat) : Int) ∧ rd b ((at_ + i : Nat) : Int) < 256 := fun i hi => by
      rw [rd_at (by omega)]; exact hb _ (List.getElem_mem _)
    obtain ⟨g0, g1⟩ := g_range (b_drop hb at_) (by omega)
    have eg : g (b.drop at_) = rd b (at_ : Int) + 256 * rd b ((at_ + 1 : Nat) : Int) + 65536 * rd b ((at_ + 2 : Nat) : Int) + 16777216 * rd b ((at_ + 3 : Nat) : Int) := by
      unfold g
      rw [show (0 : Int) = ((0 : Nat) : Int) from rfl, show (1 : Int) = ((1 : Nat) : Int) from rfl, show (2 : Int) = ((2 : Nat) : Int) from rfl, show (3 : Int) = ((3 : Nat) : Int) from rfl,
        rd_drop (by omega), rd_drop (by omega), rd_drop (by omega), rd_drop (by omega)]
      rfl
    rw [four_g (show 0 ≤ rd b (at_ : Int) ∧ rd b (at_ : Int) < 256 from ex 0 (by decide)) (ex 1 (by decide)) (ex 2 (by decide)) (ex 3 (by decide)), ← eg]
    clear ex eg
    obtain ⟨n, hn⟩ : ∃ n : Nat, g (b.drop at_) = (n : Int) := ⟨(g (b.drop at_)).toNat, by omega⟩
    rw [hn] at g1 ⊢
    clear g0
    replace hn := Aside0.mk hn
    have w2 : wrap64 (n : Int) = (n : Int) := w64 (by omega) (by omega)
    have w3 : IntKind.u64.wrap (wrap64 ((b.length : Int) - (at_ : Int) - 8)) = (b.length : Int) - (at_ : Int) - 8 := by rw [w64 (by omega) (by omega), u64w (by omega) (by omega)]
    rw [w2, w3, scn]
    clear w2 w3
    by_cases c2 : (b.drop at_).length < 8 + n
    · have : Frame.step (b.drop at_) = none := by unfold Frame.step; rw [if_neg c1, hn.out, Int.toNat_natCast, if_pos c2]
      rw [if_pos (by omega), this]; simp
    have w5 : wrap64 (((at_ + 8 : Nat) : Int) + (n : Int)) = ((at_ + 8 + n : Nat) : Int) := by rw [w64 (by omega) (by omega)]; omega
    rw [if_neg (by omega), w5]
    clear w5
    rw [if_pos (by omega), if_pos (by omega), if_pos (by omega), Option.bind_some, Int.toNat_natCast, Int.toNat_natCast, Int.toNat_natCast, if_pos (by omega)]
    have r1 : (b.take (at_ + 8 + n)).drop (at_ + 8) = ((b.drop at_).drop 8).take n := by
      rw [List.drop_drop, List.take_drop]
    have hb' := b_drop hb at_
    rw [r1]
    have hd1 : (b.drop at_).drop (8 + n) = b.drop (at_ + (8 + n)) := by rw [List.drop_drop]
    generalize b.drop at_ = c at *
    have lr : ((c.drop 8).take n).length = n := by rw [List.length_take, List.length_drop]; omega
    rw [One_f (b_take (b_drop hb' 8) n) (by rw [lr]; omega) (by rw [lr]; omega), Option.bind_some, rsame_f hb' (enc_bytes (b_take (b_drop hb' 8) n)), Option.bind_some]
    have si := step_iff hb' (by omega) (by omega) (by rw [hn.out, Int.toNat_natCast]; omega)
    rw [hn.out, Int.toNat_natCast] at si
    have es : Frame.step c = if g (c.drop 4) = ((Frame.sum (c.take 4 ++ (c.drop 8).take n) : Nat) : Int) then some ((c.drop 8).take n) else none := by
      unfold Frame.step; rw [if_neg c1, hn.out, Int.toNat_natCast, if_neg c2]
    by_cases c3 : g (c.drop 4) = ((Frame.sum (c.take 4 ++ (c.drop 8).take n) : Nat) : Int)
    · have st := decide_eq_true (show (enc ((c.drop 8).take n)).length ≤ c.length ∧ c.take (enc ((c.drop 8).take n)).length = enc ((c.drop 8).take n) from ⟨by rw [enc_length, lr]; omega, si.mpr c3⟩)
      rw [if_pos c3] at es
      clear c3 si
      rw [st]
      clear st
      replace es := Aside0.mk es
      obtain ⟨h2, hk, ha⟩ := HH.out
      rw [if_pos rfl, if_pos (by omega), show at_ + 8 + n = at_ + (8 + n) by omega, ih k b _ (at_ + (8 + n)) hb hm (by omega) (by omega) (by omega) (by rw [List.length_append, List.length_singleton]; omega), es.out]
      simp only [lr, hd1, List.append_assoc, List.singleton_append]
      rw [Nat.add_assoc]
    · have st := decide_eq_false (show ¬ ((enc ((c.drop 8).take n)).length ≤ c.length ∧ c.take (enc ((c.drop 8).take n)).length = enc ((c.drop 8).take n)) from fun q => c3 (si.mp q.2))
      rw [if_neg c3] at es
      rw [st, es]; simp
theorem rscan_f {k f : Nat} {b : List Int} (hb : Bytes b) (hm : b.length ≤ 1900) (hf : b.length < 8 * f) (h2 : f < 1000000) (hk : 600000 + f ≤ k) :
    funicularref05_Scan.f k b = some ((scn f b).1, (((scn f b).2 : Nat) : Int)) := by
  have := rscan_l0 f k b [] 0 hb hm (Nat.zero_le _) (by omega) hk (by simpa using h2)
  rw [funicularref05_Scan.f]
  simpa using this
theorem all_l0 (d : Nat) : ∀ (k : Nat) (l : List (List Int)) (i : Nat), l.length = i + d → l.length ≤ 1000000 → d + 1 ≤ k → funicularref05_SameAll.l0 k l l (i : Int) = some true := by
  induction d with
  | zero =>
    intro k l i hl hm hk
    obtain ⟨k, rfl⟩ : ∃ m, k = m + 1 := ⟨k - 1, by omega⟩
    rw [funicularref05_SameAll.l0, if_neg (by omega)]
  | succ d ih =>
    intro k l i hl hm hk
    obtain ⟨k, rfl⟩ : ∃ m, k = m + 1 := ⟨k - 1, by omega⟩
    have w : wrap64 ((i : Int) + 1) = ((i + 1 : Nat) : Int) := by rw [w64 (by omega) (by omega)]; omega
    rw [funicularref05_SameAll.l0, if_pos (by omega), if_pos (by omega), if_pos (by omega), if_pos rfl, w]
    exact ih k l (i + 1) (by omega) hm (by omega)
theorem all_f {k : Nat} (l : List (List Int)) (hm : l.length ≤ 1000000) (hk : l.length + 1 ≤ k) : funicularref05_SameAll.f k l l = some true := by
  rw [funicularref05_SameAll.f, if_pos rfl]
  exact all_l0 l.length k l 0 (by omega) hm hk
theorem scn_count (f : Nat) : ∀ b : List Int, (scn f b).1.length ≤ f := by
  induction f with
  | zero => intro b; exact Nat.le_refl _
  | succ f ih =>
    intro b
    unfold scn
    split
    · exact Nat.zero_le _
    · rename_i r hr
      have := ih (b.drop (8 + r.length))
      show (_ :: _).length ≤ _
      rw [List.length_cons]; omega
end Go.Proofs.Ytadcekchmaiihaa.FrameOf
