/- Jobs: done, fail, again, without. -/
import Derived.Test.YtknmnhkocdnnhaaP19c
namespace Go.Proofs.Ytknmnhkocdnnhaa.PE
set_option linter.unusedVariables false
theorem del_res {D : List J} {n : Nat} {z : J} : List.take D.length D ++ List.replicate (min (n - D.length) (D.length - D.length)) z ++ List.drop (D.length + (n - D.length)) D = D := by
  rw [List.take_length, Nat.sub_self, Nat.min_zero, List.replicate_zero, List.append_nil, List.drop_eq_nil_of_le (by omega), List.append_nil]
theorem delete_spec {l : List J} {p : Nat} (hl : l.length ≤ 1000000) (hp : p < l.length) : jobs_Delete l p ((p + 1 : Nat) : Int) = some (l.take p ++ l.drop (p + 1)) := by
  have eA : List.take ((p : Int).toNat - Int.toNat 0) l = l.take p := by rw [Int.toNat_natCast]; rfl
  have eB : List.take ((ilen l).toNat - (((p + 1 : Nat) : Int)).toNat) (List.drop (((p + 1 : Nat) : Int)).toNat l) = l.drop (p + 1) := by
    rw [Int.toNat_natCast, ilen_eq, Int.toNat_natCast]
    exact List.take_of_length_le (by rw [List.length_drop]; omega)
  rw [jobs_Delete_eq, eA, eB]
  have hA : (l.take p).length = p := by rw [List.length_take]; omega
  have hB : (l.drop (p + 1)).length = l.length - (p + 1) := List.length_drop
  generalize l.take p = A at *
  generalize l.drop (p + 1) = B at *
  have hD : (A ++ B).length = l.length - 1 := by rw [List.length_append]; omega
  generalize A ++ B = D at *
  simp -implicitDefEqProofs only [Bool.cond_decide, ilen_eq, Int.toNat_natCast, hA, hB, hD]
  rw [if_pos (by omega), if_pos (by omega), if_pos (by omega), if_pos (Int.le_refl _), beq_no (by omega), cond_false, if_pos (by omega), if_pos (by omega), if_pos (Int.le_refl _), if_pos (by omega), if_pos (by omega), Nat.ble_eq_true_of_le (by omega), cond_true, Nat.ble_eq_true_of_le (by rw [show Int.toNat 0 = 0 from rfl]; omega), cond_true,
    if_pos (show _ ≤ room by rw [room_eq]; omega), if_pos (by omega), if_pos (by omega), if_neg (by omega), if_pos (by omega), Nat.ble_eq_true_of_le (by omega), cond_true, ← hD, del_res]
/-- Is one held by a worker at a time? -/
def hasS (l : List J) (t : Int) (who : ByteArray) (now : Int) : Int := match get t l with
  | none => 9
  | some j => bif who.toList == (⟨#[]⟩ : ByteArray).toList then 11 else bif !(j.2.2.2.2.2.1.toList == who.toList) then 11 else bif decide (now ≥ j.2.2.2.2.2.2) then 11 else 0
theorem get_some {l : List J} {t : Int} {j : J} (h : get t l = some j) : l[pos t l]? = some j ∧ j.1 = t := by
  unfold get at h
  cases h2 : l[pos t l]? with
  | none => rw [h2] at h; cases h
  | some x =>
    rw [h2] at h
    dsimp only at h
    by_cases e : x.1 = t
    · rw [if_pos e] at h; cases h; exact ⟨rfl, e⟩
    · rw [if_neg e] at h; cases h
theorem found_get (l : List J) (t : Int) : found t l = (get t l).isSome := by
  unfold found get
  cases l[pos t l]? with
  | none => rfl
  | some x =>
    dsimp only
    by_cases e : x.1 = t
    · rw [if_pos e, decide_eq_true e]; rfl
    · rw [if_neg e, decide_eq_false e]; rfl
theorem hasS_zero {l : List J} {t : Int} {who : ByteArray} {now : Int} (h : hasS l t who now = 0) : ∃ j, get t l = some j := by
  unfold hasS at h
  cases h2 : get t l with
  | none => rw [h2] at h; cases h
  | some x => exact ⟨x, rfl⟩
theorem held_spec {l : List J} {t now : Int} {who : ByteArray} (hl : l.length ≤ 1000000) (hr : rising 0 l = true) : ∃ i, jobs_held l t who now = some (i, hasS l t who now) ∧ (hasS l t who now = 0 → i = ((pos t l : Nat) : Int)) := by
  rw [jobs_held_eq, find_spec hl hr, Option.bind_some, found_get, hasS]
  cases h : get t l with
  | none => exact ⟨0, rfl, fun h => by cases h⟩
  | some j =>
    obtain ⟨h1, h2⟩ := get_some h
    simp -implicitDefEqProofs only [Bool.cond_decide, Int.toNat_natCast, h1, Option.bind_some, Option.isSome_some, Bool.not_true, cond_false]
    rw [if_pos (by omega), if_pos (by omega)]
    by_cases e3 : j.2.2.2.2.2.2 ≤ now
    · rw [if_pos e3, if_pos (show now ≥ j.2.2.2.2.2.2 from e3)]
      cases (j.2.2.2.2.2.1.toList == who.toList) <;> cases (who.toList == (⟨#[]⟩ : ByteArray).toList) <;> exact ⟨0, rfl, fun h => by cases h⟩
    · rw [if_neg e3, if_neg (show ¬ now ≥ j.2.2.2.2.2.2 from e3)]
      cases (j.2.2.2.2.2.1.toList == who.toList) <;> cases (who.toList == (⟨#[]⟩ : ByteArray).toList)
      · exact ⟨0, rfl, fun h => by cases h⟩
      · exact ⟨0, rfl, fun h => by cases h⟩
      · exact ⟨_, rfl, fun _ => rfl⟩
      · exact ⟨0, rfl, fun h => by cases h⟩
theorem refhas_spec {l : List J} {t now : Int} {who : ByteArray} (hl : l.length ≤ 1000000) (hr : rising 0 l = true) : ref19_has l t who now = some (hasS l t who now) := by
  rw [ref19_has_eq, refGet_spec hl hr, Option.bind_some, getS, hasS]
  cases h : get t l with
  | none => rfl
  | some j =>
    dsimp only [tup]
    rw [Bool.not_true, cond_false, gb, gb, gb]
    rfl
def tupI (j : J) (c : Int) : Int × Int × Int × ByteArray × Int × ByteArray × Int × Int := (j.1, j.2.1, j.2.2.1, j.2.2.2.1, j.2.2.2.2.1, j.2.2.2.2.2.1, j.2.2.2.2.2.2, c)
def doneS (l : List J) (t : Int) (who : ByteArray) (now : Int) : List J × Int × Int × Int × ByteArray × Int × ByteArray × Int × Int :=
  bif hasS l t who now != 0 then ([], tupI zeroJ (hasS l t who now)) else match get t l with
  | none => ([], tupI zeroJ 0)
  | some j => (putS l t [], tupI j 0)
def failJ (j : J) : J := (j.1, j.2.1, j.2.2.1, j.2.2.2.1, IntKind.i64.wrap (j.2.2.2.2.1 - 1), ⟨#[]⟩, 0)
def failS (l : List J) (t : Int) (who : ByteArray) (now : Int) : List J × Int × Int × Int × ByteArray × Int × ByteArray × Int × Int :=
  bif hasS l t who now != 0 then ([], tupI zeroJ (hasS l t who now)) else match get t l with
  | none => ([], tupI zeroJ 0)
  | some j => (putS l t [failJ j], tupI (failJ j) 0)
theorem refDone_spec {l : List J} {t now : Int} {who : ByteArray} (hl : l.length ≤ 1000) (hr : rising 0 l = true) : ref19_Done l t who now = some (doneS l t who now) := by
  rw [ref19_Done_eq, refhas_spec (by omega) hr, Option.bind_some, doneS]
  by_cases e : hasS l t who now = 0
  · obtain ⟨j, hj⟩ := hasS_zero e
    rw [bne_no e, cond_false, cond_false, refGet_spec (by omega) hr, Option.bind_some, refput_spec hl (by simp), Option.bind_some, getS, hj]
    rfl
  · rw [bne_yes e, cond_true, cond_true]; rfl
theorem refFail_spec {l : List J} {t now : Int} {who : ByteArray} (hl : l.length ≤ 1000) (hr : rising 0 l = true) : ref19_Fail l t who now = some (failS l t who now) := by
  rw [ref19_Fail_eq, refhas_spec (by omega) hr, Option.bind_some, failS]
  by_cases e : hasS l t who now = 0
  · obtain ⟨j, hj⟩ := hasS_zero e
    rw [bne_no e, cond_false, cond_false, refGet_spec (by omega) hr, Option.bind_some, refput_spec hl (by simp), Option.bind_some, getS, hj]
    rfl
  · rw [bne_yes e, cond_true, cond_true]; rfl
theorem done_spec {l : List J} {t now : Int} {who : ByteArray} (hl : l.length ≤ 1000) (hr : rising 0 l = true) : jobs_Done l t who now = some (doneS l t who now) := by
  obtain ⟨i, h1, h2⟩ := held_spec (t := t) (now := now) (who := who) (l := l) (by omega) hr
  rw [jobs_Done_eq, h1, Option.bind_some, doneS]
  by_cases e : hasS l t who now = 0
  · obtain ⟨j, hj⟩ := hasS_zero e
    obtain ⟨g1, g2⟩ := get_some hj
    have hp := (List.getElem?_eq_some_iff.1 g1).1
    simp -implicitDefEqProofs only [h2 e, e, hj, clone19 (show l.length ≤ 1000000 by omega), Option.bind_some, wrap_succ (show pos t l < 9223372036854775807 by omega), delete_spec (show l.length ≤ 1000000 by omega) hp, Int.toNat_natCast, g1, put_at hr g1 g2, List.append_nil]
    rw [decide_eq_true (by omega)]
    rfl
  · simp -implicitDefEqProofs only [bne_yes e, cond_true]; rfl
theorem set3 {l : List J} {p : Nat} {j : J} (h : l[p]? = some j) (v : J) : (l.set p v)[p]? = some v := by
  rw [List.getElem?_set_self (List.getElem?_eq_some_iff.1 h).1]
theorem fail_spec {l : List J} {t now : Int} {who : ByteArray} (hl : l.length ≤ 1000) (hr : rising 0 l = true) : jobs_Fail l t who now = some (failS l t who now) := by
  obtain ⟨i, h1, h2⟩ := held_spec (t := t) (now := now) (who := who) (l := l) (by omega) hr
  rw [jobs_Fail_eq, h1, Option.bind_some, failS]
  by_cases e : hasS l t who now = 0
  · obtain ⟨j, hj⟩ := hasS_zero e
    obtain ⟨g1, g2⟩ := get_some hj
    have hp := (List.getElem?_eq_some_iff.1 g1).1
    have s1 : ∀ v : J, (l.set (pos t l) v)[pos t l]? = some v := set3 g1
    have k0 : (0 : Int) ≤ ((pos t l : Nat) : Int) := by omega
    have k1 : ((pos t l : Nat) : Int) < (l.length : Int) := by omega
    simp -implicitDefEqProofs only [h2 e, e, hj, clone19 (show l.length ≤ 1000000 by omega), Option.bind_some, Int.toNat_natCast, g1, Bool.cond_decide, if_pos k0, ilen_eq, List.length_set, if_pos k1, s1, List.set_set, put_at hr g1 g2]
    rw [set_at hp]
    rfl
  · simp -implicitDefEqProofs only [bne_yes e, cond_true]; rfl
def againS (l : List J) (t k : Int) : List J × Int := bif !inR k 1 9 then ([], 2) else match get t l with
  | none => ([], 9)
  | some j => bif decide (j.2.2.2.2.1 > 0) then ([], 11) else (putS l t [(j.1, j.2.1, j.2.2.1, j.2.2.2.1, k, j.2.2.2.2.2)], 0)
theorem refAgain_spec {l : List J} {t k : Int} (hl : l.length ≤ 1000) (hr : rising 0 l = true) : ref19_Again l t k = some (againS l t k) := by
  rw [ref19_Again_eq, in_spec, Option.bind_some, againS]
  cases inR k 1 9 with
  | false => rfl
  | true =>
    rw [Bool.not_true, cond_false, cond_false, refGet_spec (by omega) hr, Option.bind_some, getS]
    cases h : get t l with
    | none => rfl
    | some j =>
      simp -implicitDefEqProofs only [tup, Bool.not_true, cond_false, refput_spec (t := t) hl (show [_].length ≤ 1 from Nat.le_refl _), Option.bind_some]
      rw [gb]
      rfl
theorem again_spec {l : List J} {t k : Int} (hl : l.length ≤ 1000) (hr : rising 0 l = true) : jobs_Again l t k = some (againS l t k) := by
  rw [jobs_Again_eq, find_spec (by omega) hr, Option.bind_some, againS, inR]
  simp -implicitDefEqProofs only [Bool.cond_decide]
  by_cases k1 : k < 1
  · rw [if_pos k1, decide_eq_false (show ¬ 1 ≤ k by omega)]; rfl
  rw [if_neg k1, decide_eq_true (show 1 ≤ k by omega)]
  by_cases k2 : k > 9
  · rw [if_pos k2, decide_eq_false (show ¬ k ≤ 9 by omega)]; rfl
  rw [if_neg k2, decide_eq_true (show k ≤ 9 by omega), found_get, Bool.and_self, Bool.not_true, cond_false]
  cases h : get t l with
  | none => rfl
  | some j =>
    obtain ⟨g1, g2⟩ := get_some h
    have hp := (List.getElem?_eq_some_iff.1 g1).1
    simp -implicitDefEqProofs only [clone19 (show l.length ≤ 1000000 by omega), Option.bind_some, Int.toNat_natCast, g1, ilen_eq, Option.isSome_some, Bool.not_true, cond_false]
    rw [if_pos (by omega)]
    by_cases e : j.2.2.2.2.1 > 0
    · rw [if_pos e, if_pos e]
    · rw [if_neg e, if_neg e, if_pos (by omega), if_pos (by omega), put_at hr g1 g2, set_at hp]
theorem refWithout_l0 {l : List J} {t : Int} (hl : l.length ≤ 1000000) : ∀ (r : List J) (i : Nat) (o : List J), l.drop i = r → o.length ≤ i → ref19_Without_l0 l t i o = some (o ++ r.filter fun j => j.2.1 != t) := by
  intro r
  induction r with
  | nil =>
    intro i o h ho
    have h1 := at_nil h
    rw [ref19_Without_l0_eq, ilen_eq]
    simp -implicitDefEqProofs only [Bool.cond_decide]
    rw [if_neg (by omega), List.filter_nil, List.append_nil]
  | cons x r ih =>
    intro i o h ho
    obtain ⟨h1, h2, h3⟩ := at_drop h
    rw [ref19_Without_l0_eq, ilen_eq]
    simp -implicitDefEqProofs only [Bool.cond_decide, Int.toNat_natCast, h2, Option.bind_some]
    rw [if_pos (by omega), if_pos (by omega), wrap_succ (by omega), if_pos (by omega), if_pos (show _ ≤ room by simp only [ilen_eq, List.length_cons, List.length_nil, room_eq]; omega), List.filter_cons]
    cases (x.2.1 != t) with
    | true => rw [cond_true, if_pos rfl, ih (i + 1) (o ++ [x]) h3 (by rw [List.length_append, List.length_singleton]; omega), List.append_assoc]; rfl
    | false => rw [cond_false, if_neg (by decide), ih (i + 1) o h3 (by omega)]
theorem refWithout_spec {l : List J} {t : Int} (hl : l.length ≤ 1000000) : ref19_Without l t = some (l.filter fun j => j.2.1 != t) := by
  have := refWithout_l0 (t := t) hl l 0 [] rfl (Nat.le_refl _)
  rw [Int.natCast_zero, List.nil_append] at this
  rw [ref19_Without_eq, this]
end Go.Proofs.Ytknmnhkocdnnhaa.PE
