/- Jobs: the laws of checking, lending and ending. -/
import Derived.Test.YtknmnhkocdnnhaaP19f
namespace Go.Proofs.Ytknmnhkocdnnhaa.PE
set_option linter.unusedVariables false
theorem wks : (law19_works.bind fun v => some v) = some true := by rw [works19]; rfl
theorem addS_len {l : List J} {j : J} : (addS l j).1.length ≤ l.length + 1 := by
  rw [addS]
  split
  · exact Nat.zero_le _
  · split
    · rw [List.length_append]; exact Nat.le_refl _
    · exact Nat.zero_le _
theorem jobsChecks_true {l : List J} {t : Int} {j : J} : law19_JobsChecks l t j.1 j.2.1 j.2.2.1 j.2.2.2.1 j.2.2.2.2.1 j.2.2.2.2.2.1 j.2.2.2.2.2.2 = some true := by
  obtain ⟨v, h1, h2⟩ := light19_spec l
  obtain ⟨u, g1, g2⟩ := light19_spec [j]
  have g1' : law19_light [(j.1, j.2.1, j.2.2.1, j.2.2.2.1, j.2.2.2.2.1, j.2.2.2.2.2.1, j.2.2.2.2.2.2)] = some u := g1
  rw [law19_JobsChecks_eq, h1, Option.bind_some, g1', wks, Option.bind_some]
  cases v with
  | false => rfl
  | true =>
  rw [Bool.not_true, cond_false]
  cases u with
  | false => rfl
  | true =>
  have hl := h2 rfl
  have hj := (g2 rfl).tx j (List.mem_singleton_self j)
  have hl1 := hl.1
  rw [Bool.not_true, cond_false, check_spec (by omega) hl.tx, Option.bind_some, refCheck_spec (by omega) hl.tx, Option.bind_some, bne_no rfl, cond_false, Option.bind_some]
  cases hr : rising 0 l with
  | false => rfl
  | true =>
  have ha := addS_len (l := l) (j := j)
  rw [cond_true, bne_no rfl, cond_false, get_spec (by omega) hr, Option.bind_some, refGet_spec (by omega) hr, Option.bind_some, add_spec (by omega) hr hj, Option.bind_some, refAdd_spec (by omega) hj, Option.bind_some, same_self19 (by omega), Option.bind_some]
  simp -implicitDefEqProofs only [beq_self_eq_true, Bool.and_self, cond_true]
theorem jobsChecks_says {l : List J} {t a b c : Int} {d : ByteArray} {e : Int} {f : ByteArray} {g : Int} : law19_JobsChecks l t a b c d e f g = some true := jobsChecks_true (j := (a, b, c, d, e, f, g))
theorem lendGo_len (kind w : ByteArray) (now until_ : Int) : ∀ (r : List J) (n : Nat), (lendGo kind w now until_ n r).1.length ≤ r.length ∧ (lendGo kind w now until_ n r).2.length = r.length
  | [], _ => ⟨Nat.le_refl _, rfl⟩
  | j :: r, n => by
    rw [lendGo]
    cases (decide (0 < n) && freeS kind now j) with
    | true => have := lendGo_len kind w now until_ r (n - 1); exact ⟨Nat.succ_le_succ this.1, congrArg (· + 1) this.2⟩
    | false => have := lendGo_len kind w now until_ r n; exact ⟨Nat.le_succ_of_le this.1, congrArg (· + 1) this.2⟩
theorem lendS_len (l : List J) (kind w : ByteArray) (now until_ k : Int) : (lendS l kind w now until_ k).1.length ≤ l.length ∧ (lendS l kind w now until_ k).2.1.length ≤ l.length := by
  have z : ∀ c : Int, (([], [], c) : List J × List J × Int).1.length ≤ l.length ∧ (([], [], c) : List J × List J × Int).2.1.length ≤ l.length := fun _ => ⟨Nat.zero_le _, Nat.zero_le _⟩
  have q := lendGo_len kind w now until_ l k.toNat
  rw [lendS]
  cases nameS kind <;> cases nameS w <;> cases decide (now < 0) <;> cases decide (until_ ≤ now) <;> cases decide (until_ > 1099511627776) <;> cases inR k 1 8 <;> first | exact z _ | exact ⟨Nat.le_of_eq q.2, q.1⟩
theorem jobsLends_true {l : List J} {kind w : ByteArray} {now until_ k : Int} : law19_JobsLends l kind w now until_ k = some true := by
  obtain ⟨v, h1, h2⟩ := may19_spec l
  rw [law19_JobsLends_eq, h1, Option.bind_some, wks, isize_eq, isize_eq]
  cases v with
  | false => rfl
  | true =>
  obtain ⟨hl, hr⟩ := h2 rfl
  have hl1 := hl.1
  rw [Bool.not_true, cond_false]
  by_cases k1 : (kind.size : Int) > 60
  · rw [decide_eq_true k1]; rfl
  rw [decide_eq_false k1, cond_false]
  by_cases k2 : (w.size : Int) > 60
  · rw [decide_eq_true k2]; rfl
  have hn := lendS_len l kind w now until_ k
  rw [decide_eq_false k2, cond_false, lend_spec (by omega) (by omega) (by omega), Option.bind_some, refLend_spec (by omega) (by omega) (by omega), Option.bind_some, beq_self_eq_true, cond_true, same_self19 (by omega), Option.bind_some, cond_true, same_self19 (by omega)]
  rfl
theorem putS_len {w : List J} (hw : w.length ≤ 1) (t : Int) : ∀ l : List J, (putS l t w).length ≤ l.length
  | [] => Nat.le_refl _
  | x :: r => by
    have := putS_len hw t r
    rw [putS] at this ⊢
    rw [List.flatMap_cons, List.length_append, List.length_cons]
    by_cases e : x.1 = t
    · rw [if_pos e]; omega
    · rw [if_neg e, List.length_singleton]; omega
theorem doneS_len (l : List J) (t now : Int) (who : ByteArray) : (doneS l t who now).1.length ≤ l.length := by
  rw [doneS]
  cases (hasS l t who now != 0) with
  | true => exact Nat.zero_le _
  | false =>
    rw [cond_false]
    cases get t l with
    | none => exact Nat.zero_le _
    | some j => exact putS_len (Nat.zero_le _) t l
theorem failS_len (l : List J) (t now : Int) (who : ByteArray) : (failS l t who now).1.length ≤ l.length := by
  rw [failS]
  cases (hasS l t who now != 0) with
  | true => exact Nat.zero_le _
  | false =>
    rw [cond_false]
    cases get t l with
    | none => exact Nat.zero_le _
    | some j => exact putS_len (Nat.le_refl _) t l
theorem againS_len (l : List J) (t k : Int) : (againS l t k).1.length ≤ l.length := by
  rw [againS]
  cases inR k 1 9 with
  | false => exact Nat.zero_le _
  | true =>
    rw [Bool.not_true, cond_false]
    cases get t l with
    | none => exact Nat.zero_le _
    | some j =>
      dsimp only
      cases decide (j.2.2.2.2.1 > 0) with
      | true => exact Nat.zero_le _
      | false => exact putS_len (Nat.le_refl _) t l
theorem jobsEnds_true {l : List J} {t now k : Int} {who : ByteArray} : law19_JobsEnds l t who now k = some true := by
  obtain ⟨v, h1, h2⟩ := may19_spec l
  rw [law19_JobsEnds_eq, h1, Option.bind_some, wks, isize_eq]
  cases v with
  | false => rfl
  | true =>
  obtain ⟨hl, hr⟩ := h2 rfl
  have hl1 := hl.1
  rw [Bool.not_true, cond_false]
  by_cases k1 : (who.size : Int) > 60
  · rw [decide_eq_true k1]; rfl
  have n1 := doneS_len l t now who
  have n2 := failS_len l t now who
  have n3 := againS_len l t k
  have n4 := List.length_filter_le (fun j : J => j.2.1 != k) l
  rw [decide_eq_false k1, cond_false, done_spec (by omega) hr, Option.bind_some, refDone_spec (by omega) hr, Option.bind_some, bne_no rfl, cond_false]
  simp -implicitDefEqProofs only [beq_self_eq_true, Bool.and_self, Bool.not_true, cond_false]
  rw [same_self19 (by omega), Option.bind_some, Bool.not_true, cond_false, fail_spec (by omega) hr, Option.bind_some, refFail_spec (by omega) hr, Option.bind_some, bne_no rfl, cond_false]
  simp -implicitDefEqProofs only [beq_self_eq_true, Bool.and_self, Bool.not_true, cond_false]
  rw [same_self19 (by omega), Option.bind_some, Bool.not_true, cond_false, again_spec (by omega) hr, Option.bind_some, refAgain_spec (by omega) hr, Option.bind_some, beq_self_eq_true, cond_true, same_self19 (by omega), Option.bind_some, cond_true,
    without_spec (by omega), Option.bind_some, refWithout_spec (by omega), Option.bind_some, same_self19 (by omega)]
  rfl
end Go.Proofs.Ytknmnhkocdnnhaa.PE
