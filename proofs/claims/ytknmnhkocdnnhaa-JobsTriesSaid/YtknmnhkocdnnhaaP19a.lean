/- Jobs: which may be; where one stands. -/
import Derived.Test.YtknmnhkocdnnhaaNameP
import Derived.Test.YtknmnhkocdnnhaaPackP
namespace Go.Proofs.Ytknmnhkocdnnhaa.PE
set_option linter.unusedVariables false
abbrev J : Type := Int × Int × Int × ByteArray × Int × ByteArray × Int
def emp : ByteArray := ⟨#[]⟩
def E0 (s : ByteArray) : Bool := s.toList == (⟨#[]⟩ : ByteArray).toList
def inR (a b c : Int) : Bool := decide (b ≤ a) && decide (a ≤ c)
/-- May a job be? -/
def okJ (j : J) : Bool := inR j.1 1 1099511627776 && (inR j.2.1 1 1099511627776 && (inR j.2.2.1 1 1099511627776 && (inR j.2.2.2.2.1 0 9 && (inR j.2.2.2.2.2.2 0 1099511627776 && (nameS j.2.2.2.1 &&
  bif E0 j.2.2.2.2.2.1 then j.2.2.2.2.2.2 == 0 else bif nameS j.2.2.2.2.2.1 then decide (j.2.2.2.2.1 > 0) else false)))))
/-- Texts of a size that may be. -/
def TxJ (j : J) : Prop := j.2.2.2.1.size ≤ 140737488351232 ∧ j.2.2.2.2.2.1.size ≤ 140737488351232
theorem in_spec (a b c : Int) : ref19_in a b c = some (inR a b c) := by
  rw [ref19_in_eq, inR]
  by_cases h : a ≥ b
  · rw [decide_eq_true h, cond_true]; rfl
  · rw [decide_eq_false h, cond_false]; rfl
theorem ga (a x : Bool) : (bif !a then some false else some x) = some (a && x) := by cases a <;> rfl
theorem gc (a x : Bool) : (bif !a then false else x) = (a && x) := by cases a <;> rfl
theorem gb {α : Type} (c : Bool) (a b : α) : (bif c then some a else some b) = some (bif c then a else b) := by cases c <;> rfl
theorem job_spec {j : J} (h : TxJ j) : ref19_Job j.1 j.2.1 j.2.2.1 j.2.2.2.1 j.2.2.2.2.1 j.2.2.2.2.2.1 j.2.2.2.2.2.2 = some (okJ j) := by
  rw [ref19_Job_eq]
  simp -implicitDefEqProofs only [in_spec, Option.bind_some, refName_spec h.1, refName_spec h.2, gb, gc]
  rfl
/-- Jobs that may be, each behind the ones ahead of it. -/
def rising : Int → List J → Bool
  | _, [] => true
  | last, j :: r => okJ j && (decide (last < j.1) && rising j.1 r)
theorem okJ_range {j : J} (h : okJ j = true) : 1 ≤ j.1 ∧ j.1 ≤ 1099511627776 ∧ 0 ≤ j.2.2.2.2.1 ∧ j.2.2.2.2.1 ≤ 9 ∧ 0 ≤ j.2.2.2.2.2.2 ∧ j.2.2.2.2.2.2 ≤ 1099511627776 := by
  simp only [okJ, inR, Bool.and_eq_true, decide_eq_true_eq] at h
  exact ⟨h.1.1, h.1.2, h.2.2.2.1.1, h.2.2.2.1.2, h.2.2.2.2.1.1, h.2.2.2.2.1.2⟩
theorem refCheck_l0 {l : List J} (hl : l.length ≤ 1000000) (ht : ∀ j ∈ l, TxJ j) : ∀ (r : List J) (i : Nat) (last : Int), l.drop i = r → (i = 0 → last = 0) → (∀ k, i = k + 1 → ∃ j, l[k]? = some j ∧ j.1 = last) → ref19_Check_l0 l i = some (bif rising last r then 0 else 1) := by
  intro r
  induction r with
  | nil =>
    intro i last h _ _
    have h1 := at_nil h
    rw [ref19_Check_l0_eq, ilen_eq]
    simp -implicitDefEqProofs only [Bool.cond_decide]
    rw [if_neg (by omega)]
    rfl
  | cons x r ih =>
    intro i last h h0 hp
    obtain ⟨h1, h2, h3⟩ := at_drop h
    rw [ref19_Check_l0_eq, ilen_eq]
    simp -implicitDefEqProofs only [Bool.cond_decide, Int.toNat_natCast, h2, Option.bind_some, job_spec (ht x (List.mem_of_getElem? h2))]
    rw [if_pos (by omega), if_pos (by omega), wrap_succ (by omega), rising]
    cases hx : okJ x with
    | false => rfl
    | true =>
      have hr := okJ_range hx
      rw [Bool.not_true, cond_false, Bool.true_and]
      cases i with
      | zero =>
        rw [if_neg (by omega), ih 1 x.1 h3 (by omega) (fun k hk => ⟨x, by rw [show k = 0 by omega]; exact h2, rfl⟩), h0 rfl, decide_eq_true (show 0 < x.1 by omega), Bool.true_and]
      | succ k =>
        obtain ⟨j, hj1, hj2⟩ := hp k rfl
        rw [if_pos (by omega), wrap_i64 (by omega) (by omega), if_pos (by omega), show (((k + 1 : Nat) : Int) - 1).toNat = k by omega, hj1, Option.bind_some, if_pos (by omega)]
        by_cases hc : j.1 ≥ x.1
        · rw [if_pos hc, decide_eq_false (by omega)]; rfl
        · rw [if_neg hc, ih (k + 2) x.1 h3 (by omega) (fun m hm => ⟨x, by rw [show m = k + 1 by omega]; exact h2, rfl⟩), decide_eq_true (by omega), Bool.true_and]
theorem refCheck_spec {l : List J} (hl : l.length ≤ 1000000) (ht : ∀ j ∈ l, TxJ j) : ref19_Check l = some (bif rising 0 l then 0 else 1) := by
  have := refCheck_l0 hl ht l 0 0 rfl (fun _ => rfl) (fun k h => by omega)
  rw [ref19_Check_eq]
  exact this
theorem check_l0 {l : List J} (hl : l.length ≤ 1000000) (ht : ∀ j ∈ l, TxJ j) : ∀ (r : List J) (i : Nat) (last : Int), l.drop i = r → 0 ≤ last → jobs_Check_l0 last l l.length i = some (bif rising last r then 0 else 1) := by
  intro r
  induction r with
  | nil =>
    intro i last h _
    have h1 := at_nil h
    rw [jobs_Check_l0_eq]
    simp -implicitDefEqProofs only [Bool.cond_decide]
    rw [if_neg (by omega)]
    rfl
  | cons x r ih =>
    intro i last h h0
    obtain ⟨h1, h2, h3⟩ := at_drop h
    have htx := ht x (List.mem_of_getElem? h2)
    rw [jobs_Check_l0_eq]
    simp -implicitDefEqProofs only [Bool.cond_decide, Int.toNat_natCast, h2, Option.bind_some, name_spec htx.1, name_spec htx.2]
    rw [if_pos (by omega), if_pos (by omega), wrap_succ (by omega), rising]
    by_cases k1 : x.1 ≤ last
    · rw [if_pos k1, decide_eq_false (show ¬ last < x.1 by omega), Bool.false_and, Bool.and_false]; rfl
    rw [if_neg k1, ih (i + 1) x.1 h3 (by omega), decide_eq_true (show last < x.1 by omega), Bool.true_and]
    have e1 : (x.2.2.2.2.2.1.toList == (⟨#[]⟩ : ByteArray).toList) = E0 x.2.2.2.2.2.1 := rfl
    rw [e1, okJ, inR, inR, inR, inR, inR]
    generalize rising x.1 r = R
    generalize nameS x.2.2.2.1 = n1
    generalize nameS x.2.2.2.2.2.1 = n2
    generalize E0 x.2.2.2.2.2.1 = e0
    by_cases k2 : x.1 > 1099511627776
    · rw [if_pos k2, decide_eq_false (show ¬ x.1 ≤ 1099511627776 by omega)]; simp
    rw [if_neg k2, decide_eq_true (show 1 ≤ x.1 by omega), decide_eq_true (show x.1 ≤ 1099511627776 by omega)]
    by_cases k3 : x.2.1 < 1
    · rw [if_pos k3, decide_eq_false (show ¬ 1 ≤ x.2.1 by omega)]; simp
    rw [if_neg k3, decide_eq_true (show 1 ≤ x.2.1 by omega)]
    by_cases k4 : x.2.1 > 1099511627776
    · rw [if_pos k4, decide_eq_false (show ¬ x.2.1 ≤ 1099511627776 by omega)]; simp
    rw [if_neg k4, decide_eq_true (show x.2.1 ≤ 1099511627776 by omega)]
    by_cases k5 : x.2.2.1 < 1
    · rw [if_pos k5, decide_eq_false (show ¬ 1 ≤ x.2.2.1 by omega)]; simp
    rw [if_neg k5, decide_eq_true (show 1 ≤ x.2.2.1 by omega)]
    by_cases k6 : x.2.2.1 > 1099511627776
    · rw [if_pos k6, decide_eq_false (show ¬ x.2.2.1 ≤ 1099511627776 by omega)]; simp
    rw [if_neg k6, decide_eq_true (show x.2.2.1 ≤ 1099511627776 by omega)]
    cases n1 with
    | false => simp
    | true =>
    rw [Bool.not_true, cond_false]
    by_cases k7 : x.2.2.2.2.1 < 0
    · rw [if_pos k7, decide_eq_false (show ¬ 0 ≤ x.2.2.2.2.1 by omega)]
      cases e0 <;> cases n2 <;> simp
    rw [if_neg k7, decide_eq_true (show 0 ≤ x.2.2.2.2.1 by omega)]
    by_cases k8 : x.2.2.2.2.1 > 9
    · rw [if_pos k8, decide_eq_false (show ¬ x.2.2.2.2.1 ≤ 9 by omega)]
      cases e0 <;> cases n2 <;> simp
    rw [if_neg k8, decide_eq_true (show x.2.2.2.2.1 ≤ 9 by omega)]
    by_cases k9 : x.2.2.2.2.2.2 < 0
    · rw [if_pos k9, decide_eq_false (show ¬ 0 ≤ x.2.2.2.2.2.2 by omega)]
      cases e0 <;> cases n2 <;> simp
    rw [if_neg k9, decide_eq_true (show 0 ≤ x.2.2.2.2.2.2 by omega)]
    by_cases k10 : x.2.2.2.2.2.2 > 1099511627776
    · rw [if_pos k10, decide_eq_false (show ¬ x.2.2.2.2.2.2 ≤ 1099511627776 by omega)]
      cases e0 <;> cases n2 <;> simp
    rw [if_neg k10, decide_eq_true (show x.2.2.2.2.2.2 ≤ 1099511627776 by omega)]
    by_cases k11 : x.2.2.2.2.2.2 = 0 <;> by_cases k12 : x.2.2.2.2.1 = 0
    · rw [bne_no k11, beq_yes k11, beq_yes k12, decide_eq_false (show ¬ x.2.2.2.2.1 > 0 by omega)]
      cases e0 <;> cases n2 <;> cases R <;> rfl
    · rw [bne_no k11, beq_yes k11, beq_no k12, decide_eq_true (show x.2.2.2.2.1 > 0 by omega)]
      cases e0 <;> cases n2 <;> cases R <;> rfl
    · rw [bne_yes k11, beq_no k11, beq_yes k12, decide_eq_false (show ¬ x.2.2.2.2.1 > 0 by omega)]
      cases e0 <;> cases n2 <;> cases R <;> rfl
    · rw [bne_yes k11, beq_no k11, beq_no k12, decide_eq_true (show x.2.2.2.2.1 > 0 by omega)]
      cases e0 <;> cases n2 <;> cases R <;> rfl
theorem check_spec {l : List J} (hl : l.length ≤ 1000000) (ht : ∀ j ∈ l, TxJ j) : jobs_Check l = some (bif rising 0 l then 0 else 1) := by
  rw [jobs_Check_eq, ilen_eq]
  exact check_l0 hl ht l 0 0 rfl (Int.le_refl _)
theorem light_l0 {l : List J} (hl : l.length ≤ 200) : ∀ (r : List J) (i : Nat), l.drop i = r → ∃ v, law19_light_l0 l i = some v ∧ (v = true → ∀ j ∈ r, j.2.2.2.1.size ≤ 60 ∧ j.2.2.2.2.2.1.size ≤ 60) := by
  intro r
  induction r with
  | nil =>
    intro i h
    have h1 := at_nil h
    rw [law19_light_l0_eq, ilen_eq]
    simp -implicitDefEqProofs only [Bool.cond_decide]
    rw [if_neg (by omega)]
    exact ⟨true, rfl, fun _ j hj => by cases hj⟩
  | cons x r ih =>
    intro i h
    obtain ⟨h1, h2, h3⟩ := at_drop h
    rw [law19_light_l0_eq, ilen_eq]
    simp -implicitDefEqProofs only [Bool.cond_decide, Int.toNat_natCast, h2, Option.bind_some, isize_eq, if_pos (show (0 : Int) ≤ i by omega)]
    rw [if_pos (by omega), wrap_succ (by omega)]
    by_cases k1 : (x.2.2.2.1.size : Int) > 60
    · rw [if_pos k1]; exact ⟨false, rfl, fun h => by cases h⟩
    rw [if_neg k1]
    by_cases k2 : (x.2.2.2.2.2.1.size : Int) > 60
    · rw [if_pos k2]; exact ⟨false, rfl, fun h => by cases h⟩
    rw [if_neg k2]
    obtain ⟨v, hv1, hv2⟩ := ih (i + 1) h3
    refine ⟨v, hv1, fun h j hj => ?_⟩
    rcases List.mem_cons.1 hj with rfl | hj
    · exact ⟨by omega, by omega⟩
    · exact hv2 h j hj
/-- Jobs that are not more than is waited for. -/
def Lt (l : List J) : Prop := l.length ≤ 200 ∧ ∀ j ∈ l, j.2.2.2.1.size ≤ 60 ∧ j.2.2.2.2.2.1.size ≤ 60
theorem light19_spec (l : List J) : ∃ v, law19_light l = some v ∧ (v = true → Lt l) := by
  rw [law19_light_eq, ilen_eq]
  simp -implicitDefEqProofs only [Bool.cond_decide]
  by_cases k1 : (l.length : Int) > 200
  · rw [if_pos k1]; exact ⟨false, rfl, fun h => by cases h⟩
  · rw [if_neg k1]
    obtain ⟨v, hv1, hv2⟩ := light_l0 (l := l) (by omega) l 0 rfl
    exact ⟨v, hv1, fun h => ⟨by omega, hv2 h⟩⟩
theorem Lt.tx {l : List J} (h : Lt l) : ∀ j ∈ l, TxJ j := fun j hj => ⟨by have := (h.2 j hj).1; omega, by have := (h.2 j hj).2; omega⟩
theorem may19_spec (l : List J) : ∃ v, law19_may l = some v ∧ (v = true → Lt l ∧ rising 0 l = true) := by
  obtain ⟨v, h1, h2⟩ := light19_spec l
  rw [law19_may_eq, h1, Option.bind_some]
  cases v with
  | false => exact ⟨false, rfl, fun h => by cases h⟩
  | true =>
    have hl := h2 rfl
    rw [cond_true, refCheck_spec (by have := hl.1; omega) hl.tx, Option.bind_some]
    refine ⟨_, rfl, fun h => ⟨hl, ?_⟩⟩
    cases hr : rising 0 l with
    | true => rfl
    | false => rw [hr] at h; cases h
end Go.Proofs.Ytknmnhkocdnnhaa.PE
