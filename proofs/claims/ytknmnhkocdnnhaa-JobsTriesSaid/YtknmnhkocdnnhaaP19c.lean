/- Jobs: one more; one less; another in its place. -/
import Derived.Test.YtknmnhkocdnnhaaP19b
namespace Go.Proofs.Ytknmnhkocdnnhaa.PE
set_option linter.unusedVariables false
theorem refAdd_l0 {l : List J} {j : J} (hl : l.length ≤ 1000000) (hj : TxJ j) : ∀ (r : List J) (i : Nat), l.drop i = r → ref19_Add_l0 l i j.1 j.2.1 j.2.2.1 j.2.2.2.1 j.2.2.2.2.1 j.2.2.2.2.2.1 j.2.2.2.2.2.2 = some (if (∃ x ∈ r, x.1 ≥ j.1) then ([], 10) else if okJ j = true then (l ++ [j], 0) else ([], 1)) := by
  intro r
  induction r with
  | nil =>
    intro i h
    have h1 := at_nil h
    rw [ref19_Add_l0_eq, ilen_eq]
    simp -implicitDefEqProofs only [Bool.cond_decide, job_spec hj, Option.bind_some]
    rw [if_neg (by omega), if_neg (show ¬ ∃ x ∈ ([] : List J), x.1 ≥ j.1 from fun ⟨x, hx, _⟩ => by cases hx)]
    cases hk : okJ j with
    | false => rfl
    | true =>
      rw [Bool.not_true, cond_false, if_pos (show _ ≤ room by rw [room_eq]; omega), if_pos (show _ ≤ room by simp only [ilen_eq, List.length_cons, List.length_nil, List.nil_append, room_eq]; omega), if_pos rfl]
      rfl
  | cons x r ih =>
    intro i h
    obtain ⟨h1, h2, h3⟩ := at_drop h
    rw [ref19_Add_l0_eq, ilen_eq]
    simp -implicitDefEqProofs only [Bool.cond_decide, Int.toNat_natCast, h2, Option.bind_some]
    rw [if_pos (by omega), if_pos (by omega), wrap_succ (by omega), ih (i + 1) h3]
    by_cases e : x.1 ≥ j.1
    · rw [if_pos e, if_pos ⟨x, List.mem_cons_self .., e⟩]
    · rw [if_neg e]
      by_cases e2 : ∃ y ∈ r, y.1 ≥ j.1
      · rw [if_pos e2, if_pos (let ⟨y, hy, hz⟩ := e2; ⟨y, List.mem_cons_of_mem _ hy, hz⟩)]
      · rw [if_neg e2, if_neg (show ¬ ∃ y ∈ x :: r, y.1 ≥ j.1 from fun ⟨y, hy, hz⟩ => by rcases List.mem_cons.1 hy with rfl | hy; exact e hz; exact e2 ⟨y, hy, hz⟩)]
theorem refAdd_spec {l : List J} {j : J} (hl : l.length ≤ 1000000) (hj : TxJ j) : ref19_Add l j.1 j.2.1 j.2.2.1 j.2.2.2.1 j.2.2.2.2.1 j.2.2.2.2.2.1 j.2.2.2.2.2.2 = some (addS l j) := by
  have := refAdd_l0 hl hj l 0 rfl
  rw [Int.natCast_zero] at this
  rw [ref19_Add_eq, this, addS]
theorem one_check {j : J} (hj : TxJ j) : jobs_Check [j] = some (bif okJ j then 0 else 1) := by
  rw [check_spec (by simp) (fun x hx => by rw [List.mem_singleton.1 hx]; exact hj), rising, rising, Bool.and_true]
  cases hk : okJ j with
  | false => rfl
  | true => have := okJ_range hk; rw [decide_eq_true (by omega)]; rfl
theorem take_app {l : List J} {j : J} : List.take (l.length + (0 + 1) - l.length) (List.drop l.length (l ++ [j])) = [j] := by
  rw [List.drop_left, show l.length + (0 + 1) - l.length = 1 by omega]
  rfl
theorem add_tail {l : List J} {j : J} (hl : l.length ≤ 1000000) (hj : TxJ j) : ∀ (g : List J → Option (List J × Int)), (g l = bif decide ((ilen l + ilen [j]) * 72 ≤ room)
      then bif decide (0 ≤ ilen l)
        then bif decide (ilen l ≤ ilen (l ++ [j]))
          then bif decide (ilen (l ++ [j]) ≤ ilen (l ++ [j]))
            then bif ((ilen l).toNat + ((ilen (l ++ [j])).toNat - (ilen l).toNat)).ble (l ++ [j]).length
              then (jobs_Check (List.take ((ilen (l ++ [j])).toNat - (ilen l).toNat) (List.drop (ilen l).toNat (l ++ [j])))).bind fun val14 =>
                bif val14 != 0
                  then some (([]), (val14))
                  else some ((l ++ [j]), (0))
              else none
            else bif decide (ilen (l ++ [j]) ≤ ((max (max 0 l.length) (l.length + [j].length) : Nat) : Int))
              then bif ((ilen l).toNat + ((ilen (l ++ [j])).toNat - (ilen l).toNat)).ble (l ++ [j]).length
                then (jobs_Check (List.take ((ilen (l ++ [j])).toNat - (ilen l).toNat) (List.drop (ilen l).toNat (l ++ [j])))).bind fun val16 =>
                  bif val16 != 0
                    then some (([]), (val16))
                    else some ((l ++ [j]), (0))
                else none
              else none
          else none
        else none
      else none) → g l = some (if okJ j = true then (l ++ [j], 0) else ([], 1)) := by
  intro g hg
  rw [hg]
  simp -implicitDefEqProofs only [Bool.cond_decide, ilen_eq, List.length_append, List.length_cons, List.length_nil, Int.toNat_natCast, take_app, one_check hj, Option.bind_some]
  rw [if_pos (show _ ≤ room by rw [room_eq]; omega), if_pos (by omega), if_pos (by omega), if_pos (Int.le_refl _), Nat.ble_eq_true_of_le (by omega), cond_true]
  cases okJ j <;> rfl
theorem add_spec {l : List J} {j : J} (hl : l.length ≤ 1000000) (hr : rising 0 l = true) (hj : TxJ j) : jobs_Add l j.1 j.2.1 j.2.2.1 j.2.2.2.1 j.2.2.2.2.1 j.2.2.2.2.2.1 j.2.2.2.2.2.2 = some (addS l j) := by
  rw [jobs_Add_eq, clone19 hl, Option.bind_some]
  by_cases h : l.length = 0
  · rw [decide_eq_false (show ¬ ilen l > 0 by rw [ilen_eq]; omega), cond_false]
    rw [List.length_eq_zero_iff] at h
    refine (add_tail (j := j) hl hj (fun l => _) rfl).trans ?_
    subst h
    rw [addS, if_neg (show ¬ ∃ x ∈ ([] : List J), x.1 ≥ j.1 from fun ⟨x, hx, _⟩ => by cases hx)]
  · have hlt : l.length - 1 < l.length := by omega
    rw [decide_eq_true (show ilen l > 0 by rw [ilen_eq]; omega), cond_true, decide_eq_true (show 0 ≤ IntKind.i64.wrap (ilen l - 1) by rw [ilen_eq, wrap_i64 (by omega) (by omega)]; omega), cond_true,
      show (IntKind.i64.wrap (ilen l - 1)).toNat = l.length - 1 by rw [ilen_eq, wrap_i64 (by omega) (by omega)]; omega, List.getElem?_eq_getElem hlt, Option.bind_some, addS]
    by_cases e : l[l.length - 1].1 ≥ j.1
    · rw [decide_eq_true e, cond_true, if_pos ⟨_, List.getElem_mem hlt, e⟩]
    · rw [decide_eq_false e, cond_false, if_neg]
      · exact add_tail (j := j) hl hj (fun l => _) rfl
      · rintro ⟨x, hx, hz⟩
        obtain ⟨k, hk⟩ := List.getElem?_of_mem hx
        have hk1 := (List.getElem?_eq_some_iff.1 hk).1
        rcases Nat.lt_or_ge k (l.length - 1) with hq | hq
        · have := rising_lt hr _ _ _ _ hk (List.getElem?_eq_getElem hlt) hq; omega
        · have : k = l.length - 1 := by omega
          subst this
          rw [List.getElem?_eq_getElem hlt] at hk
          cases hk
          exact e hz
/-- Some jobs in the place of one of a number. -/
def putS (l : List J) (t : Int) (w : List J) : List J := l.flatMap fun j => if j.1 = t then w else [j]
theorem refput_l0 {l w : List J} {t : Int} (hl : l.length ≤ 1000) (hw : w.length ≤ 1) : ∀ (r : List J) (i : Nat) (o : List J), l.drop i = r → o.length ≤ i → ref19_put_l0 l t w i o = some (o ++ putS r t w) := by
  intro r
  induction r with
  | nil =>
    intro i o h ho
    have h1 := at_nil h
    rw [ref19_put_l0_eq, ilen_eq]
    simp -implicitDefEqProofs only [Bool.cond_decide]
    rw [if_neg (by omega), putS, List.flatMap_nil, List.append_nil]
  | cons x r ih =>
    intro i o h ho
    obtain ⟨h1, h2, h3⟩ := at_drop h
    rw [ref19_put_l0_eq, ilen_eq]
    simp -implicitDefEqProofs only [Bool.cond_decide, Int.toNat_natCast, h2, Option.bind_some]
    rw [if_pos (by omega), if_pos (by omega), wrap_succ (by omega), if_pos (show _ ≤ room by simp only [ilen_eq, List.length_cons, List.length_nil, room_eq]; omega), if_pos (by omega), if_pos (show _ ≤ room by simp only [ilen_eq, List.length_cons, List.length_nil, room_eq]; omega),
      ih (i + 1) (o ++ w) h3 (by rw [List.length_append]; omega), ih (i + 1) (o ++ [x]) h3 (by rw [List.length_append, List.length_singleton]; omega)]
    rw [putS, putS, List.flatMap_cons]
    by_cases e : x.1 = t
    · rw [beq_yes e, cond_true, if_pos e, List.append_assoc]
    · rw [beq_no e, cond_false, if_neg e, List.append_assoc]
theorem refput_spec {l w : List J} {t : Int} (hl : l.length ≤ 1000) (hw : w.length ≤ 1) : ref19_put l t w = some (putS l t w) := by
  have := refput_l0 (t := t) hl hw l 0 [] rfl (Nat.le_refl _)
  rw [Int.natCast_zero, List.nil_append] at this
  rw [ref19_put_eq, this]
theorem putS_none : ∀ {l : List J} {t : Int} {w : List J}, (∀ j ∈ l, j.1 ≠ t) → putS l t w = l
  | [], _, _, _ => rfl
  | x :: r, t, w, h => by
    rw [putS, List.flatMap_cons, if_neg (h x (List.mem_cons_self ..))]
    exact congrArg (x :: ·) (putS_none (l := r) fun j hj => h j (List.mem_cons_of_mem _ hj))
/-- Where it stands. -/
theorem put_at : ∀ {l : List J} {last t : Int} {w : List J} {p : Nat} {j : J}, rising last l = true → l[p]? = some j → j.1 = t → putS l t w = l.take p ++ w ++ l.drop (p + 1)
  | [], _, _, _, _, _, _, h, _ => by simp at h
  | x :: r, last, t, w, p, j, hr, h, hj => by
    simp only [rising, Bool.and_eq_true, decide_eq_true_eq] at hr
    cases p with
    | zero =>
      simp only [List.getElem?_cons_zero, Option.some.injEq] at h
      subst h
      rw [putS, List.flatMap_cons, if_pos hj]
      have := putS_none (l := r) (t := t) (w := w) fun y hy => by have := rising_gt hr.2.2 y hy; omega
      rw [putS] at this
      rw [this]; rfl
    | succ p =>
      simp only [List.getElem?_cons_succ] at h
      have hlt := rising_gt hr.2.2 j (List.mem_of_getElem? h)
      rw [putS, List.flatMap_cons, if_neg (by omega)]
      have := put_at (w := w) hr.2.2 h hj
      rw [putS] at this
      rw [this]; rfl
theorem set_at {l : List J} {p : Nat} {v : J} (h : p < l.length) : l.set p v = l.take p ++ [v] ++ l.drop (p + 1) := by
  rw [List.set_eq_take_append_cons_drop, if_pos h, List.append_assoc]; rfl
end Go.Proofs.Ytknmnhkocdnnhaa.PE
