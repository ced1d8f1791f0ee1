/- Jobs: deleting by a token; lending. -/
import Derived.Test.YtknmnhkocdnnhaaP19d
namespace Go.Proofs.Ytknmnhkocdnnhaa.PE
set_option linter.unusedVariables false
theorem index_l0 {l : List J} {t : Int} (hl : l.length ≤ 1000000) : ∀ (r : List J) (i : Nat), l.drop i = r → (jobs_IndexFunc_l0 l t l.length i = some (-1) ∧ ∀ j ∈ r, (j.2.1 != t) = true) ∨ ∃ k j, jobs_IndexFunc_l0 l t l.length i = some ((k : Nat) : Int) ∧ l[k]? = some j ∧ (j.2.1 != t) = false ∧ ∀ m x, i ≤ m → m < k → l[m]? = some x → (x.2.1 != t) = true := by
  intro r
  induction r with
  | nil =>
    intro i h
    have h1 := at_nil h
    refine .inl ⟨?_, fun j hj => by cases hj⟩
    rw [jobs_IndexFunc_l0_eq]
    simp -implicitDefEqProofs only [Bool.cond_decide]
    rw [if_neg (by omega)]
  | cons x r ih =>
    intro i h
    obtain ⟨h1, h2, h3⟩ := at_drop h
    rw [jobs_IndexFunc_l0_eq]
    simp -implicitDefEqProofs only [Bool.cond_decide, Int.toNat_natCast, h2, Option.bind_some]
    rw [if_pos (by omega), if_pos (by omega), wrap_succ (by omega)]
    by_cases e : x.2.1 = t
    · rw [beq_yes e, cond_true]
      exact .inr ⟨i, x, rfl, h2, bne_no e, fun m y hm1 hm2 => by omega⟩
    · rw [beq_no e, cond_false]
      rcases ih (i + 1) h3 with ⟨q1, q2⟩ | ⟨k, j, q1, q2, q3, q4⟩
      · refine .inl ⟨q1, fun j hj => ?_⟩
        rcases List.mem_cons.1 hj with rfl | hj
        · exact bne_yes e
        · exact q2 j hj
      · refine .inr ⟨k, j, q1, q2, q3, fun m y hm1 hm2 hy => ?_⟩
        rcases Nat.lt_or_ge i m with hq | hq
        · exact q4 m y hq hm2 hy
        · have : m = i := by omega
          subst this
          rw [h2] at hy
          cases hy
          exact bne_yes e
theorem take_set_le {l : List J} {n m : Nat} {v : J} (h : m ≤ n) : (l.set n v).take m = l.take m := by
  apply List.ext_getElem?
  intro i
  rw [List.getElem?_take, List.getElem?_take]
  split
  · rw [List.getElem?_set_ne (by omega)]
  · rfl
theorem drop_set_lt {l : List J} {n m : Nat} {v : J} (h : n < m) : (l.set n v).drop m = l.drop m := by
  apply List.ext_getElem?
  intro i
  rw [List.getElem?_drop, List.getElem?_drop, List.getElem?_set_ne (by omega)]
theorem delf_l0 {l : List J} {t : Int} (hl : l.length ≤ 1000000) : ∀ (r : List J) (i w : Nat) (cur : List J), l.drop i = r → cur.drop i = r → cur.length = l.length → w < i → i ≤ l.length → cur.take w = (l.take i).filter (fun j => j.2.1 != t) → jobs_DeleteFunc_l0 t w i cur = some (l.filter fun j => j.2.1 != t) := by
  intro r
  induction r with
  | nil =>
    intro i w cur h hc hn hw hi ht
    have h1 := at_nil h
    rw [jobs_DeleteFunc_l0_eq]
    rw [List.take_of_length_le h1] at ht
    have hL : ∀ z : J, (List.take w cur ++ List.replicate (min (cur.length - w) (cur.length - w)) z ++ List.drop (w + (cur.length - w)) cur).length = cur.length := fun z => by
      rw [List.length_append, List.length_append, List.length_take, List.length_replicate, List.length_drop]; omega
    have hT : ∀ z : J, List.take w (List.take w cur ++ List.replicate (min (cur.length - w) (cur.length - w)) z ++ List.drop (w + (cur.length - w)) cur) = cur.take w := fun z => by
      rw [List.append_assoc, List.take_append_of_le_length (by rw [List.length_take]; omega), List.take_take, Nat.min_self]
    simp -implicitDefEqProofs only [Bool.cond_decide, ilen_eq, Int.toNat_natCast, show Int.toNat 0 = 0 from rfl, Nat.sub_zero, hL, hT]
    rw [if_neg (by omega), if_pos (by omega), if_pos (by omega), if_pos (Int.le_refl _), Nat.ble_eq_true_of_le (by omega), cond_true, if_pos (by omega), if_pos (by omega), Nat.ble_eq_true_of_le (by omega), cond_true, ht]
  | cons x r ih =>
    intro i w cur h hc hn hw hi ht
    obtain ⟨h1, h2, h3⟩ := at_drop h
    obtain ⟨c1, c2, c3⟩ := at_drop hc
    have hwl : w < cur.length := by omega
    have e1 : (l.take (i + 1)).filter (fun j => j.2.1 != t) = cur.take w ++ (if (x.2.1 != t) = true then [x] else []) := by
      rw [List.take_add_one, h2, Option.toList_some, List.filter_append, ht, List.filter_cons]
      rfl
    rw [jobs_DeleteFunc_l0_eq]
    simp -implicitDefEqProofs only [Bool.cond_decide, ilen_eq, Int.toNat_natCast, c2, Option.bind_some, List.getElem?_eq_getElem hwl]
    rw [if_pos (by omega), if_pos (by omega), if_pos (by omega), wrap_succ (show i < _ by omega), wrap_succ (show w < _ by omega)]
    by_cases e : x.2.1 = t
    · rw [beq_yes e, Bool.not_true, cond_false]
      rw [bne_no e] at e1
      exact ih (i + 1) w cur h3 c3 hn (by omega) (by omega) (by rw [e1, if_neg (by decide), List.append_nil])
    · rw [beq_no e, Bool.not_false, cond_true, if_pos (by omega), if_pos (by omega)]
      rw [bne_yes e] at e1
      refine ih (i + 1) (w + 1) (cur.set w x) h3 ?_ ?_ (by omega) (by omega) ?_
      · rw [drop_set_lt (by omega)]; exact c3
      · rw [List.length_set]; exact hn
      · rw [e1, if_pos rfl, List.take_add_one, take_set_le (Nat.le_refl _), List.getElem?_set_self hwl]; rfl
theorem without_spec {l : List J} {t : Int} (hl : l.length ≤ 1000000) : jobs_Without l t = some (l.filter fun j => j.2.1 != t) := by
  rw [jobs_Without_eq, clone19 hl, Option.bind_some, jobs_DeleteFunc_eq, jobs_IndexFunc_eq, ilen_eq]
  rcases index_l0 (t := t) hl l 0 rfl with ⟨q1, q2⟩ | ⟨k, j, q1, q2, q3, q4⟩
  · rw [Int.natCast_zero] at q1
    rw [q1, Option.bind_some, beq_yes rfl, cond_true, Option.bind_some, List.filter_eq_self.2 q2]
  · rw [Int.natCast_zero] at q1
    have hk := (List.getElem?_eq_some_iff.1 q2).1
    rw [q1, Option.bind_some, beq_no (by omega), cond_false, wrap_succ (by omega), delf_l0 hl (l.drop (k + 1)) (k + 1) k l rfl rfl rfl (by omega) (by omega)]
    · rfl
    · rw [List.take_add_one, q2, Option.toList_some, List.filter_append, List.filter_cons, q3, if_neg (by decide), List.filter_nil, List.append_nil]
      refine (List.filter_eq_self.2 fun x hx => ?_).symm
      obtain ⟨m, hm⟩ := List.getElem?_of_mem hx
      have hm2 := (List.getElem?_eq_some_iff.1 hm).1
      rw [List.length_take] at hm2
      rw [List.getElem?_take_of_lt (by omega)] at hm
      exact q4 m x (Nat.zero_le _) (by omega) hm
/-- Lending. -/
def lendJ (j : J) (w : ByteArray) (until_ : Int) : J := (j.1, j.2.1, j.2.2.1, j.2.2.2.1, j.2.2.2.2.1, w, until_)
def freeS (kind : ByteArray) (now : Int) (j : J) : Bool := j.2.2.2.1.toList == kind.toList && (decide (j.2.2.2.2.1 > 0) && (j.2.2.2.2.2.1.toList == (⟨#[]⟩ : ByteArray).toList || decide (j.2.2.2.2.2.2 ≤ now)))
def lendGo (kind w : ByteArray) (now until_ : Int) : Nat → List J → List J × List J
  | _, [] => ([], [])
  | n, j :: r => bif decide (0 < n) && freeS kind now j then (lendJ j w until_ :: (lendGo kind w now until_ (n - 1) r).1, lendJ j w until_ :: (lendGo kind w now until_ (n - 1) r).2)
    else ((lendGo kind w now until_ n r).1, j :: (lendGo kind w now until_ n r).2)
theorem lendGo_zero (kind w : ByteArray) (now until_ : Int) : ∀ r : List J, lendGo kind w now until_ 0 r = ([], r)
  | [] => rfl
  | j :: r => by rw [lendGo, lendGo_zero kind w now until_ r]; rfl
theorem refLend_l0 {l : List J} {kind w : ByteArray} {now until_ k : Int} (hl : l.length ≤ 1000000) : ∀ (r : List J) (i : Nat) (g o : List J), l.drop i = r → g.length ≤ i → o.length ≤ i → (g.length : Int) ≤ k →
    ref19_Lend_l0 l kind w now until_ k i g o = some (o ++ (lendGo kind w now until_ (k - g.length).toNat r).2, g ++ (lendGo kind w now until_ (k - g.length).toNat r).1, 0) := by
  intro r
  induction r with
  | nil =>
    intro i g o h hg ho hk
    have h1 := at_nil h
    rw [ref19_Lend_l0_eq, ilen_eq]
    simp -implicitDefEqProofs only [Bool.cond_decide]
    rw [if_neg (by omega), lendGo, List.append_nil, List.append_nil]
  | cons x r ih =>
    intro i g o h hg ho hk
    obtain ⟨h1, h2, h3⟩ := at_drop h
    have rg : ∀ v : J, (ilen g + ilen [v]) * 72 ≤ room := fun v => by simp only [ilen_eq, List.length_cons, List.length_nil, room_eq]; omega
    have ro : ∀ v : J, (ilen o + ilen [v]) * 72 ≤ room := fun v => by simp only [ilen_eq, List.length_cons, List.length_nil, room_eq]; omega
    rw [ref19_Lend_l0_eq]
    have hil : ilen l = ((l.length : Nat) : Int) := ilen_eq l
    simp -implicitDefEqProofs only [Bool.cond_decide, Int.toNat_natCast, h2, Option.bind_some, if_pos (rg _), if_pos (ro _), hil]
    rw [if_pos (by omega), if_pos (by omega), wrap_succ (by omega)]
    have hno := ih (i + 1) g (o ++ [x]) h3 (by omega) (by rw [List.length_append, List.length_singleton]; omega) hk
    rw [hno, lendGo, freeS]
    by_cases k1 : (g.length : Int) < k
    · have hyes := ih (i + 1) (g ++ [lendJ x w until_]) (o ++ [lendJ x w until_]) h3 (by rw [List.length_append, List.length_singleton]; omega) (by rw [List.length_append, List.length_singleton]; omega) (by rw [List.length_append, List.length_singleton]; omega)
      rw [show (k - ((g ++ [lendJ x w until_]).length : Int)).toNat = (k - (g.length : Int)).toNat - 1 by rw [List.length_append, List.length_singleton]; omega] at hyes
      have k1' : ilen g < k := by rw [ilen_eq]; exact k1
      rw [if_pos k1', if_pos k1', decide_eq_true (show 0 < (k - (g.length : Int)).toNat by omega), Bool.true_and]
      rw [lendJ] at hyes
      rw [hyes]
      by_cases k2 : x.2.2.2.2.1 > 0 <;> by_cases k3 : x.2.2.2.2.2.2 ≤ now
      · rw [if_pos k2, if_pos k2, if_pos k3, decide_eq_true k2, decide_eq_true k3, List.append_assoc, List.append_assoc, List.append_assoc]
        cases (x.2.2.2.1.toList == kind.toList) <;> cases (x.2.2.2.2.2.1.toList == (⟨#[]⟩ : ByteArray).toList) <;> rfl
      · rw [if_pos k2, if_pos k2, if_neg k3, decide_eq_true k2, decide_eq_false k3, List.append_assoc, List.append_assoc, List.append_assoc]
        cases (x.2.2.2.1.toList == kind.toList) <;> cases (x.2.2.2.2.2.1.toList == (⟨#[]⟩ : ByteArray).toList) <;> rfl
      · rw [if_neg k2, if_neg k2, decide_eq_false k2, List.append_assoc]
        cases (x.2.2.2.1.toList == kind.toList) <;> cases (x.2.2.2.2.2.1.toList == (⟨#[]⟩ : ByteArray).toList) <;> rfl
      · rw [if_neg k2, if_neg k2, decide_eq_false k2, List.append_assoc]
        cases (x.2.2.2.1.toList == kind.toList) <;> cases (x.2.2.2.2.2.1.toList == (⟨#[]⟩ : ByteArray).toList) <;> rfl
    · have k1' : ¬ ilen g < k := by rw [ilen_eq]; exact k1
      rw [if_neg k1', if_neg k1', decide_eq_false (show ¬ 0 < (k - (g.length : Int)).toNat by omega), List.append_assoc]
      cases (x.2.2.2.2.2.1.toList == (⟨#[]⟩ : ByteArray).toList) <;> rfl
theorem get_mid {d r : List J} {x : J} : (d ++ x :: r)[d.length]? = some x := by rw [List.getElem?_append_right (Nat.le_refl _), Nat.sub_self]; rfl
theorem set_mid {d r : List J} {x v : J} : (d ++ x :: r).set d.length v = d ++ v :: r := by rw [List.set_append_right _ _ (Nat.le_refl _), Nat.sub_self]; rfl
theorem free_spec (j : J) (now : Int) : jobs_free j.1 j.2.1 j.2.2.1 j.2.2.2.1 j.2.2.2.2.1 j.2.2.2.2.2.1 j.2.2.2.2.2.2 now = some (decide (j.2.2.2.2.1 > 0) && (j.2.2.2.2.2.1.toList == (⟨#[]⟩ : ByteArray).toList || decide (j.2.2.2.2.2.2 ≤ now))) := by
  rw [jobs_free_eq]
  cases decide (j.2.2.2.2.1 > 0) <;> cases (j.2.2.2.2.2.1.toList == (⟨#[]⟩ : ByteArray).toList) <;> rfl
theorem lend_l1 {kind w : ByteArray} {now until_ k : Int} {n : Nat} (hn : n ≤ 1000000) : ∀ (r d g : List J), d.length + r.length = n → g.length ≤ d.length → (g.length : Int) ≤ k →
    jobs_Lend_l1 kind w now until_ k n d.length (d ++ r) g = some (d ++ (lendGo kind w now until_ (k - g.length).toNat r).2, g ++ (lendGo kind w now until_ (k - g.length).toNat r).1, 0) := by
  intro r
  induction r with
  | nil =>
    intro d g hd hg hk
    rw [List.length_nil] at hd
    rw [jobs_Lend_l1_eq]
    simp -implicitDefEqProofs only [Bool.cond_decide]
    rw [if_neg (by omega), lendGo, List.append_nil, List.append_nil]
  | cons x r ih =>
    intro d g hd hg hk
    rw [List.length_cons] at hd
    have rg : ∀ v : J, (ilen g + ilen [v]) * 72 ≤ room := fun v => by simp only [ilen_eq, List.length_cons, List.length_nil, room_eq]; omega
    have hno := ih (d ++ [x]) g (by rw [List.length_append, List.length_singleton]; omega) (by rw [List.length_append, List.length_singleton]; omega) hk
    have hyes := fun h => ih (d ++ [lendJ x w until_]) (g ++ [lendJ x w until_]) (by rw [List.length_append, List.length_singleton]; omega) (by rw [List.length_append, List.length_append, List.length_singleton]; omega) h
    rw [List.append_assoc, List.length_append, List.length_singleton] at hno
    rw [jobs_Lend_l1_eq]
    have hdn : ((d.length : Nat) : Int) < ((d.length + (r.length + 1) : Nat) : Int) := by omega
    have hil : ∀ v : J, ilen (d ++ v :: r) = ((d.length + (r.length + 1) : Nat) : Int) := fun v => by rw [ilen_eq, List.length_append, List.length_cons]
    simp -implicitDefEqProofs only [Bool.cond_decide, Int.toNat_natCast, get_mid, set_mid, Option.bind_some, if_pos (rg _), free_spec, hil, if_pos hdn]
    rw [if_pos (by omega), if_pos (by omega), wrap_succ (by omega)]
    by_cases k1 : (g.length : Int) = k
    · rw [beq_yes (show ilen g = k by rw [ilen_eq]; exact k1), cond_true, show (k - (g.length : Int)).toNat = 0 by omega, lendGo_zero, List.append_nil]
    rw [beq_no (show ¬ ilen g = k by rw [ilen_eq]; exact k1), cond_false, lendGo, freeS, decide_eq_true (show 0 < (k - (g.length : Int)).toNat by omega), Bool.true_and]
    have hy := hyes (by rw [List.length_append, List.length_singleton]; omega)
    rw [show (k - ((g ++ [lendJ x w until_]).length : Int)).toNat = (k - (g.length : Int)).toNat - 1 by rw [List.length_append, List.length_singleton]; omega, List.append_assoc, List.append_assoc, List.append_assoc, List.length_append, List.length_singleton, lendJ] at hy
    have hno' : jobs_Lend_l1 kind w now until_ k n ((d.length + 1 : Nat) : Int) (d ++ x :: r) g = _ := hno
    rw [hno']
    cases (x.2.2.2.1.toList == kind.toList) with
    | false => rw [List.append_assoc]; rfl
    | true =>
      rw [Bool.not_true, cond_false, Bool.true_and]
      generalize (decide (x.2.2.2.2.1 > 0) && (x.2.2.2.2.2.1.toList == (⟨#[]⟩ : ByteArray).toList || decide (x.2.2.2.2.2.2 ≤ now))) = b
      cases b with
      | false => rw [List.append_assoc]; rfl
      | true =>
        rw [Bool.not_true, cond_false]
        exact hy
theorem copy_all {l : List J} {z : J} : List.take (List.replicate l.length z).length l ++ List.drop l.length (List.replicate l.length z) = l := by
  rw [List.length_replicate, List.take_length, List.drop_eq_nil_of_le (by rw [List.length_replicate]; omega), List.append_nil]
def lendS (l : List J) (kind w : ByteArray) (now until_ k : Int) : List J × List J × Int :=
  bif !nameS kind then ([], [], 1) else bif !nameS w then ([], [], 1) else bif decide (now < 0) then ([], [], 2) else bif decide (until_ ≤ now) then ([], [], 2) else bif decide (until_ > 1099511627776) then ([], [], 2) else
  bif !inR k 1 8 then ([], [], 2) else ((lendGo kind w now until_ k.toNat l).2, (lendGo kind w now until_ k.toNat l).1, 0)
theorem lend_spec {l : List J} {kind w : ByteArray} {now until_ k : Int} (hl : l.length ≤ 1000000) (h1 : kind.size ≤ 140737488351232) (h2 : w.size ≤ 140737488351232) : jobs_Lend l kind w now until_ k = some (lendS l kind w now until_ k) := by
  rw [jobs_Lend_eq, name_spec h1, name_spec h2, Option.bind_some, lendS]
  cases nameS kind with
  | false => rfl
  | true =>
  rw [Bool.not_true, cond_false, cond_false, Option.bind_some]
  cases nameS w with
  | false => rfl
  | true =>
  rw [Bool.not_true, cond_false, cond_false]
  cases decide (now < 0) with
  | true => rfl
  | false =>
  rw [cond_false, cond_false]
  cases decide (until_ ≤ now) with
  | true => rfl
  | false =>
  rw [cond_false, cond_false]
  cases decide (until_ > 1099511627776) with
  | true => rfl
  | false =>
  rw [cond_false, cond_false, inR]
  simp -implicitDefEqProofs only [Bool.cond_decide]
  by_cases k1 : k < 1
  · rw [if_pos k1, decide_eq_false (show ¬ 1 ≤ k by omega)]; rfl
  rw [if_neg k1, decide_eq_true (show 1 ≤ k by omega), Bool.true_and]
  by_cases k2 : k > 8
  · rw [if_pos k2, decide_eq_false (show ¬ k ≤ 8 by omega)]; rfl
  have e1 : (ilen l).toNat = l.length := by rw [ilen_eq, Int.toNat_natCast]
  rw [if_neg k2, decide_eq_true (show k ≤ 8 by omega), Bool.not_true, cond_false, if_pos trivial, e1, copy_all, ilen_eq, if_pos (by omega), if_pos (show _ ∧ _ from ⟨rm (by omega), rm (by omega)⟩)]
  have := lend_l1 (kind := kind) (w := w) (now := now) (until_ := until_) (k := k) hl l [] [] (by rw [List.length_nil, Nat.zero_add]) (Nat.le_refl _) (by rw [List.length_nil]; omega)
  rw [List.nil_append, List.nil_append, List.nil_append, List.length_nil, Int.natCast_zero, Int.sub_zero] at this
  exact this
theorem refLend_spec {l : List J} {kind w : ByteArray} {now until_ k : Int} (hl : l.length ≤ 1000000) (h1 : kind.size ≤ 140737488351232) (h2 : w.size ≤ 140737488351232) : ref19_Lend l kind w now until_ k = some (lendS l kind w now until_ k) := by
  rw [ref19_Lend_eq, refName_spec h1, refName_spec h2, Option.bind_some, lendS, in_spec]
  cases nameS kind with
  | false => rfl
  | true =>
  rw [Bool.not_true, cond_false, cond_false, Option.bind_some]
  cases nameS w with
  | false => rfl
  | true =>
  rw [Bool.not_true, cond_false, cond_false]
  cases decide (now < 0) with
  | true => rfl
  | false =>
  rw [cond_false, cond_false]
  cases decide (until_ ≤ now) with
  | true => rfl
  | false =>
  rw [cond_false, cond_false]
  cases decide (until_ > 1099511627776) with
  | true => rfl
  | false =>
  rw [cond_false, cond_false, Option.bind_some]
  cases hk : inR k 1 8 with
  | false => rfl
  | true =>
  rw [Bool.not_true, cond_false, cond_false]
  have hk2 : 1 ≤ k := by
    rw [inR, Bool.and_eq_true, decide_eq_true_eq] at hk
    exact hk.1
  have := refLend_l0 (kind := kind) (w := w) (now := now) (until_ := until_) (k := k) hl l 0 [] [] rfl (Nat.le_refl _) (Nat.le_refl _) (by rw [List.length_nil]; omega)
  rw [List.nil_append, List.nil_append, List.length_nil, Int.natCast_zero, Int.sub_zero] at this
  exact this
end Go.Proofs.Ytknmnhkocdnnhaa.PE
