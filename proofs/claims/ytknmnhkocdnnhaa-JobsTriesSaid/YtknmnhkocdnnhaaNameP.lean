/- Names: what the program and the document say of a text. -/
import Derived.Test.YtknmnhkocdnnhaaX19
import Derived.Test.YtknmnhkocdnnhaaELib
namespace Go.Proofs.Ytknmnhkocdnnhaa.PE
set_option linter.unusedVariables false
def nmc (c : Int) : Bool := (decide (48 ≤ c) && decide (c ≤ 57)) || (decide (97 ≤ c) && decide (c ≤ 122))
def nameL : List Int → Bool
  | [] => false
  | c :: r => decide (97 ≤ c) && (c :: r).all nmc && decide ((c :: r).length ≤ 32)
def nameS (s : ByteArray) : Bool := nameL (bytesList s)
theorem bytesList_len (s : ByteArray) : (bytesList s).length = s.size := by unfold bytesList; rw [List.length_map]; rfl
theorem bytesList_at (s : ByteArray) (i : Nat) : (bytesList s)[i]? = (s.data[i]?).map fun b => (b.toNat : Int) := by unfold bytesList; rw [List.getElem?_map, Array.getElem?_toList]
theorem name_l0 {s : ByteArray} (hs : s.size ≤ 140737488351232) : ∀ (r : List Int) (i : Nat), (bytesList s).drop i = r → 0 < i → pack_Name_l0 s (bytesList s).length i (bytesList s) = some (r.all nmc && (decide (1 ≤ s.size) && decide (s.size ≤ 32))) := by
  have hlen := bytesList_len s
  intro r
  induction r with
  | nil =>
    intro i h hi
    have h1 := at_nil h
    rw [pack_Name_l0_eq, isize_eq]
    simp -implicitDefEqProofs only [Bool.cond_decide]
    rw [if_neg (by omega)]
    by_cases h2 : 1 ≤ s.size
    · rw [if_pos (by omega)]
      have : decide ((s.size : Int) ≤ 32) = decide (s.size ≤ 32) := by apply decide_eq_decide.2; omega
      rw [this]
      simp [h2]
    · rw [if_neg (by omega)]; simp [h2]
  | cons c r ih =>
    intro i h hi
    obtain ⟨h1, h2, h3⟩ := at_drop h
    rw [pack_Name_l0_eq, ilen_eq]
    simp -implicitDefEqProofs only [Bool.cond_decide, Int.toNat_natCast, h2, Option.bind_some]
    rw [if_pos (by omega), if_pos (by omega), if_pos (by omega), wrap_succ (by omega), ih (i + 1) h3 (by omega), beq_no (show ¬ (i : Int) = 0 by omega), List.all_cons]
    by_cases k1 : c ≥ 97
    · rw [if_pos k1]
      by_cases k2 : c ≤ 122
      · rw [decide_eq_true k2, Bool.not_true, cond_false, show nmc c = true by simp [nmc, show 97 ≤ c from k1, k2], Bool.true_and]
      · rw [decide_eq_false k2, Bool.not_false, cond_true, cond_false, if_neg (by omega), if_pos (by omega), show nmc c = false by simp [nmc, k2]; omega]
        rfl
    · rw [if_neg k1, cond_false]
      by_cases k2 : c < 48
      · rw [if_pos k2, show nmc c = false by simp [nmc]; omega]
        rfl
      · rw [if_neg k2]
        by_cases k3 : c > 57
        · rw [if_pos k3, show nmc c = false by simp [nmc]; omega]
          rfl
        · rw [if_neg k3, show nmc c = true by simp [nmc]; omega, Bool.true_and]
theorem name_spec {s : ByteArray} (hs : s.size ≤ 140737488351232) : pack_Name s = some (nameS s) := by
  have hlen := bytesList_len s
  rw [pack_Name_eq, ilen_eq, nameS]
  cases hl : bytesList s with
  | nil =>
    rw [hl] at hlen
    rw [pack_Name_l0_eq, isize_eq]
    simp -implicitDefEqProofs only [Bool.cond_decide]
    rw [if_neg (by simp), if_neg (by simp at hlen; omega)]
    rfl
  | cons c r =>
    have hd : (bytesList s).drop 0 = c :: r := hl
    obtain ⟨h1, h2, h3⟩ := at_drop hd
    have key := name_l0 hs r 1 h3 (by omega)
    rw [← hl, pack_Name_l0_eq, ilen_eq]
    simp -implicitDefEqProofs only [Bool.cond_decide]
    rw [if_pos (by omega), if_pos (by omega), if_pos (by omega), show Int.toNat 0 = 0 from rfl, h2, Option.bind_some, wrap_i64 (by omega) (by omega), beq_yes rfl]
    rw [show (0 : Int) + 1 = ((1 : Nat) : Int) by omega, key]
    have e2 : decide ((c :: r).length ≤ 32) = decide (s.size ≤ 32) := by rw [← hlen, hl]
    rw [hl, nameL, e2, List.all_cons, decide_eq_true (show 1 ≤ s.size by omega), Bool.true_and]
    by_cases k1 : c ≥ 97
    · rw [if_pos k1, decide_eq_true (show 97 ≤ c from k1), Bool.true_and]
      by_cases k2 : c ≤ 122
      · rw [decide_eq_true k2, Bool.not_true, cond_false, show nmc c = true by simp [nmc, show 97 ≤ c from k1, k2], Bool.true_and]
      · rw [decide_eq_false k2, Bool.not_false, cond_true, cond_true, show nmc c = false by simp [nmc, k2]; omega]
        rfl
    · rw [if_neg k1, cond_true, decide_eq_false (show ¬ 97 ≤ c from k1)]
      rfl
theorem refName_l0 {s : ByteArray} (hs : s.size ≤ 140737488351232) : ∀ (r : List Int) (i : Nat), (bytesList s).drop i = r → ref02_Name_l0 s i = some (r.all nmc) := by
  have hlen := bytesList_len s
  intro r
  induction r with
  | nil =>
    intro i h
    have h1 := at_nil h
    rw [ref02_Name_l0_eq, isize_eq]
    simp -implicitDefEqProofs only [Bool.cond_decide]
    rw [if_neg (by omega)]
    rfl
  | cons c r ih =>
    intro i h
    obtain ⟨h1, h2, h3⟩ := at_drop h
    rw [bytesList_at] at h2
    obtain ⟨v, hv, rfl⟩ := Option.map_eq_some_iff.1 h2
    rw [ref02_Name_l0_eq, isize_eq]
    simp -implicitDefEqProofs only [Bool.cond_decide, Int.toNat_natCast, hv, Option.bind_some, if_pos (show (i : Int) < s.size by omega), if_pos (show (0 : Int) ≤ i by omega)]
    rw [wrap_succ (by omega), ih (i + 1) h3, List.all_cons]
    generalize (v.toNat : Int) = c
    by_cases k1 : c ≥ 48
    · rw [if_pos k1]
      by_cases k2 : c ≥ 97
      · rw [if_pos k2, decide_eq_false (show ¬ c ≤ 57 by omega), Bool.not_false, cond_true]
        by_cases k3 : c ≤ 122
        · rw [decide_eq_true k3, Bool.not_true, cond_false, show nmc c = true by simp [nmc]; omega, Bool.true_and]
        · rw [decide_eq_false k3, Bool.not_false, cond_true, show nmc c = false by simp [nmc]; omega, Bool.false_and]
      · rw [if_neg k2]
        by_cases k3 : c ≤ 57
        · rw [decide_eq_true k3, Bool.not_true, cond_false, show nmc c = true by simp [nmc]; omega, Bool.true_and]
        · rw [decide_eq_false k3, Bool.not_false, cond_true, show nmc c = false by simp [nmc]; omega, Bool.false_and]
    · rw [if_neg k1, if_neg (show ¬ c ≥ 97 by omega), show nmc c = false by simp [nmc]; omega, Bool.false_and]
theorem refName_spec {s : ByteArray} (hs : s.size ≤ 140737488351232) : ref02_Name s = some (nameS s) := by
  have hlen := bytesList_len s
  rw [ref02_Name_eq, isize_eq, nameS]
  simp -implicitDefEqProofs only [Bool.cond_decide]
  cases hl : bytesList s with
  | nil =>
    rw [hl] at hlen
    rw [beq_yes (show (s.size : Int) = 0 by simp at hlen; omega)]
    rfl
  | cons c r =>
    have hd : (bytesList s).drop 0 = c :: r := hl
    obtain ⟨h1, h2, h3⟩ := at_drop hd
    have key := refName_l0 hs (bytesList s) 0 rfl
    rw [Int.natCast_zero] at key
    rw [bytesList_at] at h2
    obtain ⟨v, hv, rfl⟩ := Option.map_eq_some_iff.1 h2
    rw [beq_no (show ¬ (s.size : Int) = 0 by omega), cond_false, show Int.toNat 0 = 0 from rfl, hv, Option.bind_some, key, hl, nameL]
    have e2 : decide ((((v.toNat : Int)) :: r).length ≤ 32) = decide (s.size ≤ 32) := by rw [← hlen, hl]
    rw [e2]
    by_cases k1 : (s.size : Int) > 32
    · rw [if_pos k1, decide_eq_false (show ¬ s.size ≤ 32 by omega), Bool.and_false]
    · rw [if_neg k1, decide_eq_true (show s.size ≤ 32 by omega), Bool.and_true]
      by_cases k2 : (v.toNat : Int) < 97
      · rw [if_pos k2, decide_eq_false (show ¬ 97 ≤ (v.toNat : Int) by omega), Bool.false_and]
      · rw [if_neg k2, decide_eq_true (show 97 ≤ (v.toNat : Int) by omega), Bool.true_and]
end Go.Proofs.Ytknmnhkocdnnhaa.PE
