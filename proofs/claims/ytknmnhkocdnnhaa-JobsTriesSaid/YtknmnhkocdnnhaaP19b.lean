/- Jobs: any one by its number; one more. -/
import Derived.Test.YtknmnhkocdnnhaaP19a
namespace Go.Proofs.Ytknmnhkocdnnhaa.PE
set_option linter.unusedVariables false
def zeroJ : J := (0, 0, 0, ⟨#[]⟩, 0, ⟨#[]⟩, 0)
def tup (j : J) (b : Bool) : Int × Int × Int × ByteArray × Int × ByteArray × Int × Bool := (j.1, j.2.1, j.2.2.1, j.2.2.2.1, j.2.2.2.2.1, j.2.2.2.2.2.1, j.2.2.2.2.2.2, b)
/-- Where a job of a number stands, or would stand. -/
def pos (t : Int) (l : List J) : Nat := l.findIdx fun j => decide (t ≤ j.1)
def get (t : Int) (l : List J) : Option J := match l[pos t l]? with
  | some j => if j.1 = t then some j else none
  | none => none
def getS (t : Int) (l : List J) : Int × Int × Int × ByteArray × Int × ByteArray × Int × Bool := match get t l with
  | some j => tup j true
  | none => tup zeroJ false
theorem rising_gt : ∀ {l : List J} {last : Int}, rising last l = true → ∀ j ∈ l, last < j.1
  | [], _, _, _, h => by cases h
  | x :: r, last, h, j, hj => by
    simp only [rising, Bool.and_eq_true, decide_eq_true_eq] at h
    rcases List.mem_cons.1 hj with rfl | hj
    · exact h.2.1
    · have := rising_gt h.2.2 j hj; omega
theorem rising_ok : ∀ {l : List J} {last : Int}, rising last l = true → ∀ j ∈ l, okJ j = true
  | [], _, _, _, h => by cases h
  | x :: r, last, h, j, hj => by
    simp only [rising, Bool.and_eq_true, decide_eq_true_eq] at h
    rcases List.mem_cons.1 hj with rfl | hj
    · exact h.1
    · exact rising_ok h.2.2 j hj
theorem rising_lt : ∀ {l : List J} {last : Int}, rising last l = true → ∀ (a b : Nat) (x y : J), l[a]? = some x → l[b]? = some y → a < b → x.1 < y.1
  | [], _, _, _, _, _, _, h, _, _ => by simp at h
  | z :: r, last, h, a, b, x, y, hx, hy, hab => by
    simp only [rising, Bool.and_eq_true, decide_eq_true_eq] at h
    cases b with
    | zero => omega
    | succ b =>
      cases a with
      | zero =>
        simp only [List.getElem?_cons_zero, Option.some.injEq] at hx
        simp only [List.getElem?_cons_succ] at hy
        subst hx
        exact rising_gt h.2.2 y (List.mem_of_getElem? hy)
      | succ a =>
        simp only [List.getElem?_cons_succ] at hx hy
        exact rising_lt h.2.2 a b x y hx hy (by omega)
theorem pos_eq {t : Int} {l : List J} {i : Nat} (hi : i ≤ l.length) (h1 : ∀ k x, k < i → l[k]? = some x → x.1 < t) (h2 : ∀ x, l[i]? = some x → t ≤ x.1) : pos t l = i := by
  unfold pos
  rcases Nat.lt_or_ge i l.length with h | h
  · refine (List.findIdx_eq h).2 ⟨decide_eq_true (h2 _ (List.getElem?_eq_getElem h)), fun k hk => decide_eq_false ?_⟩
    have := h1 k _ hk (List.getElem?_eq_getElem (by omega))
    omega
  · have : i = l.length := by omega
    subst this
    refine List.findIdx_eq_length.2 fun x hx => ?_
    obtain ⟨k, hk⟩ := List.getElem?_of_mem hx
    have := h1 k x (List.getElem?_eq_some_iff.1 hk).1 hk
    exact decide_eq_false (by omega)
theorem mid {i j : Nat} (h : i + j ≤ 1000000000) : IntKind.i64.wrap ((IntKind.u64.wrap (IntKind.i64.wrap ((i : Int) + j))).fdiv (2 ^ min (Int.toNat 1) IntKind.u64.bits)) = (((i + j) / 2 : Nat) : Int) := by
  rw [show ((2 : Int) ^ min (Int.toNat 1) IntKind.u64.bits) = 2 from rfl, wrap_i64 (x := (i : Int) + j) (by omega) (by omega), wrap_u64 (by omega) (by omega), Int.fdiv_eq_ediv_of_nonneg _ (by omega), wrap_i64 (by omega) (by omega)]
  omega
def found (t : Int) (l : List J) : Bool := match l[pos t l]? with
  | some j => decide (j.1 = t)
  | none => false
theorem search_l0 {l : List J} {t : Int} (hl : l.length ≤ 1000000) (hr : rising 0 l = true) : ∀ (d i j : Nat), j - i ≤ d → i ≤ j → j ≤ l.length → (∀ k x, k < i → l[k]? = some x → x.1 < t) → (∀ k x, j ≤ k → l[k]? = some x → t ≤ x.1) →
    jobs_Search_l0 l t l.length i j = some (((pos t l : Nat) : Int), found t l) := by
  intro d
  induction d with
  | zero =>
    intro i j hd hij hj h1 h2
    have : i = j := by omega
    subst this
    have hp := pos_eq hj h1 (fun x hx => h2 i x (Nat.le_refl _) hx)
    rw [jobs_Search_l0_eq, found, hp]
    simp -implicitDefEqProofs only [Bool.cond_decide]
    rw [if_neg (by omega)]
    rcases Nat.lt_or_ge i l.length with h | h
    · rw [if_pos (by omega), if_pos (by omega), Int.toNat_natCast, List.getElem?_eq_getElem h, Option.bind_some]
      have h3 := h2 i _ (Nat.le_refl _) (List.getElem?_eq_getElem h)
      rw [if_neg (by omega)]
      by_cases h4 : l[i].1 > t
      · rw [if_pos h4]; simp [show ¬ l[i].1 = t by omega]
      · rw [if_neg h4]; simp [show l[i].1 = t by omega]
    · rw [if_neg (by omega), List.getElem?_eq_none h]
  | succ d ih =>
    intro i j hd hij hj h1 h2
    by_cases he : i = j
    · exact ih i j (by omega) hij hj h1 h2
    · rw [jobs_Search_l0_eq, mid (by omega)]
      simp -implicitDefEqProofs only [Bool.cond_decide]
      have hm : (i + j) / 2 < l.length := by omega
      rw [if_pos (by omega), if_pos (by omega), Int.toNat_natCast, List.getElem?_eq_getElem hm, Option.bind_some, wrap_succ (by omega)]
      have hup : t ≤ (l[(i + j) / 2]).1 → jobs_Search_l0 l t l.length i (((i + j) / 2 : Nat) : Int) = some (((pos t l : Nat) : Int), found t l) := fun h3 => by
        refine ih i ((i + j) / 2) (by omega) (by omega) (by omega) h1 fun k x hk hx => ?_
        rcases Nat.lt_or_ge ((i + j) / 2) k with hk' | hk'
        · have := rising_lt hr _ _ _ _ (List.getElem?_eq_getElem hm) hx hk'; omega
        · have : k = (i + j) / 2 := by omega
          subst this
          rw [List.getElem?_eq_getElem hm] at hx
          cases hx; exact h3
      by_cases h3 : (l[(i + j) / 2]).1 < t
      · rw [if_pos h3]
        refine ih ((i + j) / 2 + 1) j (by omega) (by omega) hj (fun k x hk hx => ?_) h2
        rcases Nat.lt_or_ge k ((i + j) / 2) with hk' | hk'
        · have := rising_lt hr _ _ _ _ hx (List.getElem?_eq_getElem hm) hk'; omega
        · have : k = (i + j) / 2 := by omega
          subst this
          rw [List.getElem?_eq_getElem hm] at hx
          cases hx; exact h3
      · rw [if_neg h3, hup (by omega)]
        split <;> rfl
theorem find_spec {l : List J} {t : Int} (hl : l.length ≤ 1000000) (hr : rising 0 l = true) : jobs_find l t = some (((pos t l : Nat) : Int), found t l) := by
  have := search_l0 (t := t) hl hr l.length 0 l.length (by omega) (by omega) (Nat.le_refl _) (fun k x hk => by omega) (fun k x hk hx => by rw [List.getElem?_eq_none hk] at hx; cases hx)
  rw [Int.natCast_zero] at this
  rw [jobs_find_eq, jobs_Search_eq, ilen_eq, this]
  rfl
theorem get_spec {l : List J} {t : Int} (hl : l.length ≤ 1000000) (hr : rising 0 l = true) : jobs_Get l t = some (getS t l) := by
  rw [jobs_Get_eq, find_spec hl hr, Option.bind_some, getS, get, found]
  cases h : l[pos t l]? with
  | none => rfl
  | some j =>
    dsimp only
    by_cases e : j.1 = t
    · rw [decide_eq_true e, cond_true, if_pos e, decide_eq_true (show (0 : Int) ≤ ((pos t l : Nat) : Int) by omega), cond_true, Int.toNat_natCast, h]
      rfl
    · rw [decide_eq_false e, cond_false, if_neg e]
      rfl
theorem find_get : ∀ {l : List J} {last t : Int}, rising last l = true → l.find? (fun j => j.1 == t) = get t l
  | [], _, _, _ => rfl
  | x :: r, last, t, h => by
    have h' := h
    simp only [rising, Bool.and_eq_true, decide_eq_true_eq] at h
    rw [List.find?_cons]
    unfold get pos
    rw [List.findIdx_cons]
    by_cases e : t ≤ x.1
    · rw [decide_eq_true e, cond_true]
      simp only [List.getElem?_cons_zero]
      by_cases e2 : x.1 = t
      · rw [beq_yes e2, if_pos e2]
      · rw [beq_no e2, if_neg e2]
        refine List.find?_eq_none.2 fun j hj => ?_
        have := rising_gt h.2.2 j hj
        simp; omega
    · rw [decide_eq_false e, cond_false, beq_no (by omega)]
      simp only [List.getElem?_cons_succ]
      exact find_get h.2.2
theorem refGet_l0 {l : List J} {t : Int} {a b c d f : Int} {s u : ByteArray} (hl : l.length ≤ 1000000) : ∀ (r : List J) (i : Nat), l.drop i = r → ref19_Get_l0 l t i a b c s d u f = some (match r.find? (fun j => j.1 == t) with
  | some j => tup j true
  | none => tup zeroJ false) := by
  intro r
  induction r with
  | nil =>
    intro i h
    have h1 := at_nil h
    rw [ref19_Get_l0_eq, ilen_eq]
    simp -implicitDefEqProofs only [Bool.cond_decide]
    rw [if_neg (by omega)]
    rfl
  | cons x r ih =>
    intro i h
    obtain ⟨h1, h2, h3⟩ := at_drop h
    rw [ref19_Get_l0_eq, ilen_eq]
    simp -implicitDefEqProofs only [Bool.cond_decide, Int.toNat_natCast, h2, Option.bind_some, if_pos (show (0 : Int) ≤ i by omega)]
    rw [if_pos (by omega), wrap_succ (by omega), ih (i + 1) h3, List.find?_cons]
    cases (x.1 == t) <;> rfl
theorem refGet_spec {l : List J} {t : Int} (hl : l.length ≤ 1000000) (hr : rising 0 l = true) : ref19_Get l t = some (getS t l) := by
  have := refGet_l0 (t := t) (a := 0) (b := 0) (c := 0) (d := 0) (f := 0) (s := ⟨#[]⟩) (u := ⟨#[]⟩) hl l 0 rfl
  rw [Int.natCast_zero] at this
  rw [ref19_Get_eq, this, find_get hr, getS]
theorem same_l0 {l : List J} (hl : l.length ≤ 1000000) : ∀ (r : List J) (i : Nat), l.drop i = r → ref19_Same_l0 l l i = some true := by
  intro r
  induction r with
  | nil =>
    intro i h
    have h1 := at_nil h
    rw [ref19_Same_l0_eq, ilen_eq]
    simp -implicitDefEqProofs only [Bool.cond_decide]
    rw [if_neg (by omega)]
  | cons x r ih =>
    intro i h
    obtain ⟨h1, h2, h3⟩ := at_drop h
    rw [ref19_Same_l0_eq, ilen_eq]
    simp -implicitDefEqProofs only [Bool.cond_decide, Int.toNat_natCast, h2, Option.bind_some, if_pos (show (0 : Int) ≤ i by omega)]
    rw [if_pos (by omega), wrap_succ (by omega), ih (i + 1) h3]
    simp
theorem same_self19 {l : List J} (hl : l.length ≤ 1000000) : ref19_Same l l = some true := by
  have := same_l0 hl l 0 rfl
  rw [Int.natCast_zero] at this
  rw [ref19_Same_eq, this, bne_no rfl]
  rfl
theorem clone19 {l : List J} (hl : l.length ≤ 1000000) : jobs_Clone l = some l := by
  rw [jobs_Clone_eq, Bool.cond_decide, if_pos (show _ ≤ room by simp only [ilen_eq, room_eq]; omega)]
  rfl
/-- Jobs with one more. -/
def addS (l : List J) (j : J) : List J × Int := if (∃ x ∈ l, x.1 ≥ j.1) then ([], 10) else if okJ j = true then (l ++ [j], 0) else ([], 1)
end Go.Proofs.Ytknmnhkocdnnhaa.PE
