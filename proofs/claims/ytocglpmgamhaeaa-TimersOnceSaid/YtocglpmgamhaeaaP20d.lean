/- Timers: what is due, the next one, the others. -/
import Derived.Test.YtocglpmgamhaeaaP20c
namespace Go.Proofs.Ytocglpmgamhaeaa.PE
set_option linter.unusedVariables false
theorem index_l0 {l : List T} {t : Int} (hl : l.length ≤ 1000000) : ∀ (r : List T) (i : Nat), l.drop i = r → (timers_IndexFunc_l0 l t l.length i = some (-1) ∧ ∀ j ∈ r, (j.2.1 != t) = true) ∨ ∃ k j, timers_IndexFunc_l0 l t l.length i = some ((k : Nat) : Int) ∧ l[k]? = some j ∧ (j.2.1 != t) = false ∧ ∀ m x, i ≤ m → m < k → l[m]? = some x → (x.2.1 != t) = true := by
  intro r
  induction r with
  | nil =>
    intro i h
    have h1 := at_nil h
    refine .inl ⟨?_, fun j hj => by cases hj⟩
    rw [timers_IndexFunc_l0_eq]
    simp -implicitDefEqProofs only [Bool.cond_decide]
    rw [if_neg (by omega)]
  | cons x r ih =>
    intro i h
    obtain ⟨h1, h2, h3⟩ := at_drop h
    rw [timers_IndexFunc_l0_eq]
    simp -implicitDefEqProofs only [Bool.cond_decide, Int.toNat_natCast, h2, Option.bind_some]
    rw [if_pos (by omega), if_pos (by omega), wrap_succ (by omega)]
    by_cases e : x.2.1 = t
    · rw [beq_yes e, cond_true]
      exact .inr ⟨i, x, rfl, h2, bne_no e, fun m y hm1 hm2 => by omega⟩
    · rw [beq_no e, cond_false]
      rcases ih (i + 1) h3 with ⟨q1, q2⟩ | ⟨k, j, q1, q2, q3, q4⟩
      · refine .inl ⟨q1, fun j hj => ?_⟩
        rcases List.mem_cons.1 hj with rfl | hj
        · exact bne_yes e
        · exact q2 j hj
      · refine .inr ⟨k, j, q1, q2, q3, fun m y hm1 hm2 hy => ?_⟩
        rcases Nat.lt_or_ge i m with hq | hq
        · exact q4 m y hq hm2 hy
        · have : m = i := by omega
          subst this
          rw [h2] at hy
          cases hy
          exact bne_yes e
theorem take_set_le {l : List T} {n m : Nat} {v : T} (h : m ≤ n) : (l.set n v).take m = l.take m := by
  apply List.ext_getElem?
  intro i
  rw [List.getElem?_take, List.getElem?_take]
  split
  · rw [List.getElem?_set_ne (by omega)]
  · rfl
theorem drop_set_lt {l : List T} {n m : Nat} {v : T} (h : n < m) : (l.set n v).drop m = l.drop m := by
  apply List.ext_getElem?
  intro i
  rw [List.getElem?_drop, List.getElem?_drop, List.getElem?_set_ne (by omega)]
theorem delf_l0 {l : List T} {t : Int} (hl : l.length ≤ 1000000) : ∀ (r : List T) (i w : Nat) (cur : List T), l.drop i = r → cur.drop i = r → cur.length = l.length → w < i → i ≤ l.length → cur.take w = (l.take i).filter (fun j => j.2.1 != t) → timers_DeleteFunc_l0 t w i cur = some (l.filter fun j => j.2.1 != t) := by
  intro r
  induction r with
  | nil =>
    intro i w cur h hc hn hw hi ht
    have h1 := at_nil h
    rw [timers_DeleteFunc_l0_eq]
    rw [List.take_of_length_le h1] at ht
    have hL : ∀ z : T, (List.take w cur ++ List.replicate (min (cur.length - w) (cur.length - w)) z ++ List.drop (w + (cur.length - w)) cur).length = cur.length := fun z => by
      rw [List.length_append, List.length_append, List.length_take, List.length_replicate, List.length_drop]; omega
    have hT : ∀ z : T, List.take w (List.take w cur ++ List.replicate (min (cur.length - w) (cur.length - w)) z ++ List.drop (w + (cur.length - w)) cur) = cur.take w := fun z => by
      rw [List.append_assoc, List.take_append_of_le_length (by rw [List.length_take]; omega), List.take_take, Nat.min_self]
    simp -implicitDefEqProofs only [Bool.cond_decide, ilen_eq, Int.toNat_natCast, show Int.toNat 0 = 0 from rfl, Nat.sub_zero, hL, hT]
    rw [if_neg (by omega), if_pos (by omega), if_pos (by omega), if_pos (Int.le_refl _), Nat.ble_eq_true_of_le (by omega), cond_true, if_pos (by omega), if_pos (by omega), Nat.ble_eq_true_of_le (by omega), cond_true, ht]
  | cons x r ih =>
    intro i w cur h hc hn hw hi ht
    obtain ⟨h1, h2, h3⟩ := at_drop h
    obtain ⟨c1, c2, c3⟩ := at_drop hc
    have hwl : w < cur.length := by omega
    have e1 : (l.take (i + 1)).filter (fun j => j.2.1 != t) = cur.take w ++ (if (x.2.1 != t) = true then [x] else []) := by
      rw [List.take_add_one, h2, Option.toList_some, List.filter_append, ht, List.filter_cons]
      rfl
    rw [timers_DeleteFunc_l0_eq]
    simp -implicitDefEqProofs only [Bool.cond_decide, ilen_eq, Int.toNat_natCast, c2, Option.bind_some, List.getElem?_eq_getElem hwl]
    rw [if_pos (by omega), if_pos (by omega), if_pos (by omega), wrap_succ (show i < _ by omega), wrap_succ (show w < _ by omega)]
    by_cases e : x.2.1 = t
    · rw [beq_yes e, Bool.not_true, cond_false]
      rw [bne_no e] at e1
      exact ih (i + 1) w cur h3 c3 hn (by omega) (by omega) (by rw [e1, if_neg (by decide), List.append_nil])
    · rw [beq_no e, Bool.not_false, cond_true, if_pos (by omega), if_pos (by omega)]
      rw [bne_yes e] at e1
      refine ih (i + 1) (w + 1) (cur.set w x) h3 ?_ ?_ (by omega) (by omega) ?_
      · rw [drop_set_lt (by omega)]; exact c3
      · rw [List.length_set]; exact hn
      · rw [e1, if_pos rfl, List.take_add_one, take_set_le (Nat.le_refl _), List.getElem?_set_self hwl]; rfl
theorem without_spec {l : List T} {t : Int} (hl : l.length ≤ 1000000) : timers_Without l t = some (l.filter fun j => j.2.1 != t) := by
  rw [timers_Without_eq, clone20 hl, Option.bind_some, timers_DeleteFunc_eq, timers_IndexFunc_eq, ilen_eq]
  rcases index_l0 (t := t) hl l 0 rfl with ⟨q1, q2⟩ | ⟨k, j, q1, q2, q3, q4⟩
  · rw [Int.natCast_zero] at q1
    rw [q1, Option.bind_some, beq_yes rfl, cond_true, Option.bind_some, List.filter_eq_self.2 q2]
  · rw [Int.natCast_zero] at q1
    have hk := (List.getElem?_eq_some_iff.1 q2).1
    rw [q1, Option.bind_some, beq_no (by omega), cond_false, wrap_succ (by omega), delf_l0 hl (l.drop (k + 1)) (k + 1) k l rfl rfl rfl (by omega) (by omega)]
    · rfl
    · rw [List.take_add_one, q2, Option.toList_some, List.filter_append, List.filter_cons, q3, if_neg (by decide), List.filter_nil, List.append_nil]
      refine (List.filter_eq_self.2 fun x hx => ?_).symm
      obtain ⟨m, hm⟩ := List.getElem?_of_mem hx
      have hm2 := (List.getElem?_eq_some_iff.1 hm).1
      rw [List.length_take] at hm2
      rw [List.getElem?_take_of_lt (by omega)] at hm
      exact q4 m x (Nat.zero_le _) (by omega) hm
theorem refWithout_l0 {l : List T} {t : Int} (hl : l.length ≤ 1000000) : ∀ (r : List T) (i : Nat) (o : List T), l.drop i = r → o.length ≤ i → ref20_Without_l0 l t i o = some (o ++ r.filter fun j => j.2.1 != t) := by
  intro r
  induction r with
  | nil =>
    intro i o h ho
    have h1 := at_nil h
    rw [ref20_Without_l0_eq, ilen_eq]
    simp -implicitDefEqProofs only [Bool.cond_decide]
    rw [if_neg (by omega), List.filter_nil, List.append_nil]
  | cons x r ih =>
    intro i o h ho
    obtain ⟨h1, h2, h3⟩ := at_drop h
    rw [ref20_Without_l0_eq, ilen_eq]
    simp -implicitDefEqProofs only [Bool.cond_decide, Int.toNat_natCast, h2, Option.bind_some]
    rw [if_pos (by omega), if_pos (by omega), wrap_succ (by omega), if_pos (by omega), if_pos (show _ ≤ room by simp only [ilen_eq, List.length_cons, List.length_nil, room_eq]; omega), List.filter_cons]
    cases (x.2.1 != t) with
    | true => rw [cond_true, if_pos rfl, ih (i + 1) (o ++ [x]) h3 (by rw [List.length_append, List.length_singleton]; omega), List.append_assoc]; rfl
    | false => rw [cond_false, if_neg (by decide), ih (i + 1) o h3 (by omega)]
theorem refWithout_spec {l : List T} {t : Int} (hl : l.length ≤ 1000000) : ref20_Without l t = some (l.filter fun j => j.2.1 != t) := by
  have := refWithout_l0 (t := t) hl l 0 [] rfl (Nat.le_refl _)
  rw [Int.natCast_zero, List.nil_append] at this
  rw [ref20_Without_eq, this]
/-- How many are due. -/
def dueN (now : Int) (l : List T) : Nat := l.findIdx fun x => !decide (x.1 ≤ now)
theorem dueN_eq {now : Int} {l : List T} {i : Nat} (hi : i ≤ l.length) (h1 : ∀ k x, k < i → l[k]? = some x → x.1 ≤ now) (h2 : ∀ x, l[i]? = some x → ¬ x.1 ≤ now) : dueN now l = i := by
  unfold dueN
  rcases Nat.lt_or_ge i l.length with h | h
  · refine (List.findIdx_eq h).2 ⟨by rw [decide_eq_false (h2 _ (List.getElem?_eq_getElem h))]; rfl, fun k hk => ?_⟩
    rw [decide_eq_true (h1 k _ hk (List.getElem?_eq_getElem (by omega)))]; rfl
  · have : i = l.length := by omega
    subst this
    refine List.findIdx_eq_length.2 fun x hx => ?_
    obtain ⟨k, hk⟩ := List.getElem?_of_mem hx
    rw [decide_eq_true (h1 k x (List.getElem?_eq_some_iff.1 hk).1 hk)]; rfl
theorem lt_le {a b : T} (h : lt a b) : a.1 ≤ b.1 := by unfold lt at h; omega
theorem sdue_l0 {l : List T} {now : Int} (hl : l.length ≤ 1000000) (hr : up none l = true) : ∀ (d i j : Nat), j - i ≤ d → i ≤ j → j ≤ l.length → (∀ k x, k < i → l[k]? = some x → x.1 ≤ now) → (∀ k x, j ≤ k → l[k]? = some x → ¬ x.1 ≤ now) →
    timers_SearchDue_l0 l now l.length i j = some (((dueN now l : Nat) : Int), false) := by
  intro d
  induction d with
  | zero =>
    intro i j hd hij hj h1 h2
    have : i = j := by omega
    subst this
    have hp := dueN_eq hj h1 (fun x hx => h2 i x (Nat.le_refl _) hx)
    rw [timers_SearchDue_l0_eq, hp, decide_eq_false (show ¬ (i : Int) < (i : Int) by omega), cond_false]
    rcases Nat.lt_or_ge i l.length with h | h
    · rw [decide_eq_true (show (i : Int) < (l.length : Int) by omega), cond_true, decide_eq_true (show (0 : Int) ≤ (i : Int) by omega), cond_true, Int.toNat_natCast, List.getElem?_eq_getElem h, Option.bind_some]
      cases decide (l[i].1 ≤ now) <;> rfl
    · rw [decide_eq_false (show ¬ (i : Int) < (l.length : Int) by omega), cond_false]
  | succ d ih =>
    intro i j hd hij hj h1 h2
    by_cases he : i = j
    · exact ih i j (by omega) hij hj h1 h2
    · have hm : (i + j) / 2 < l.length := by omega
      rw [timers_SearchDue_l0_eq, mid (by omega), decide_eq_true (show (i : Int) < (j : Int) by omega), cond_true, decide_eq_true (show (0 : Int) ≤ (((i + j) / 2 : Nat) : Int) by omega), cond_true, Int.toNat_natCast, List.getElem?_eq_getElem hm, Option.bind_some, wrap_succ (by omega)]
      by_cases h3 : l[(i + j) / 2].1 ≤ now
      · rw [decide_eq_true h3, cond_true]
        refine ih ((i + j) / 2 + 1) j (by omega) (by omega) hj (fun k x hk hx => ?_) h2
        rcases Nat.lt_or_ge k ((i + j) / 2) with hk' | hk'
        · have := lt_le ((up_lt hr).2 _ _ _ _ hx (List.getElem?_eq_getElem hm) hk'); omega
        · have : k = (i + j) / 2 := by omega
          subst this
          rw [List.getElem?_eq_getElem hm] at hx
          cases hx; exact h3
      · rw [decide_eq_false h3, cond_false]
        refine ih i ((i + j) / 2) (by omega) (by omega) (by omega) h1 fun k x hk hx => ?_
        rcases Nat.lt_or_ge ((i + j) / 2) k with hk' | hk'
        · have := lt_le ((up_lt hr).2 _ _ _ _ (List.getElem?_eq_getElem hm) hx hk'); omega
        · have : k = (i + j) / 2 := by omega
          subst this
          rw [List.getElem?_eq_getElem hm] at hx
          cases hx; exact h3
theorem dueN_le (now : Int) (l : List T) : dueN now l ≤ l.length := List.findIdx_le_length
theorem due_spec {l : List T} {now : Int} (hl : l.length ≤ 1000000) (hr : up none l = true) : timers_Due l now = some (l.take (dueN now l), l.drop (dueN now l)) := by
  have := sdue_l0 (now := now) hl hr l.length 0 l.length (by omega) (by omega) (Nat.le_refl _) (fun k x hk => by omega) (fun k x hk hx => by rw [List.getElem?_eq_none hk] at hx; cases hx)
  rw [Int.natCast_zero] at this
  have hn := dueN_le now l
  rw [timers_Due_eq, timers_SearchDue_eq, ilen_eq, this, Option.bind_some]
  dsimp only
  rw [Int.toNat_natCast, Int.toNat_natCast, decide_eq_true (show (0 : Int) ≤ ((dueN now l : Nat) : Int) by omega), cond_true, decide_eq_true (show ((dueN now l : Nat) : Int) ≤ (l.length : Int) by omega), cond_true, List.take_length, show Int.toNat 0 = 0 from rfl, List.drop_zero,
    clone20 (by rw [List.length_take]; omega), Option.bind_some, cond_true, cond_true, decide_eq_true (Int.le_refl _), cond_true, clone20 (by rw [List.length_drop]; omega), Option.bind_some]
theorem refDue_l0 {l : List T} {now : Int} (hl : l.length ≤ 1000000) : ∀ (r : List T) (i : Nat) (o p : List T), l.drop i = r → o.length ≤ i → p.length ≤ i → ref20_Due_l0 l now i o p = some (o ++ r.filter (fun x => decide (x.1 ≤ now)), p ++ r.filter (fun x => !decide (x.1 ≤ now))) := by
  intro r
  induction r with
  | nil =>
    intro i o p h ho hp
    have h1 := at_nil h
    rw [ref20_Due_l0_eq, ilen_eq, decide_eq_false (by omega), cond_false, List.filter_nil, List.filter_nil, List.append_nil, List.append_nil]
  | cons x r ih =>
    intro i o p h ho hp
    obtain ⟨h1, h2, h3⟩ := at_drop h
    have ro : ∀ v : T, (ilen o + ilen [v]) * 24 ≤ room := fun v => by simp only [ilen_eq, List.length_cons, List.length_nil, room_eq]; omega
    have rp : ∀ v : T, (ilen p + ilen [v]) * 24 ≤ room := fun v => by simp only [ilen_eq, List.length_cons, List.length_nil, room_eq]; omega
    rw [ref20_Due_l0_eq, ilen_eq, decide_eq_true (show (i : Int) < _ by omega), cond_true, decide_eq_true (show (0 : Int) ≤ (i : Int) by omega), cond_true, Int.toNat_natCast, h2, Option.bind_some, wrap_succ (by omega), cond_true, Option.bind_some, decide_eq_true (ro _), cond_true, cond_true, Option.bind_some, decide_eq_true (rp _), cond_true,
      ih (i + 1) (o ++ [x]) p h3 (by rw [List.length_append, List.length_singleton]; omega) (by omega), ih (i + 1) o (p ++ [x]) h3 (by omega) (by rw [List.length_append, List.length_singleton]; omega), List.filter_cons, List.filter_cons]
    by_cases k : x.1 ≤ now
    · rw [decide_eq_true k, cond_true, if_pos rfl, if_neg (by decide), List.append_assoc]; rfl
    · rw [decide_eq_false k, cond_false, if_neg (by decide), if_pos (show (!false) = true from rfl), List.append_assoc]; rfl
theorem filter_due {now : Int} : ∀ {l : List T} {p : Option T}, up p l = true → l.filter (fun x => decide (x.1 ≤ now)) = l.take (dueN now l) ∧ l.filter (fun x => !decide (x.1 ≤ now)) = l.drop (dueN now l)
  | [], _, _ => ⟨rfl, rfl⟩
  | x :: r, p, h => by
    have hr : up (some x) r = true := by
      cases p with
      | none => have : (oneS x && up (some x) r) = true := h; rw [Bool.and_eq_true] at this; exact this.2
      | some q => have : (oneS x && (decide (lt q x) && up (some x) r)) = true := h; rw [Bool.and_eq_true, Bool.and_eq_true] at this; exact this.2.2
    unfold dueN
    rw [List.filter_cons, List.filter_cons, List.findIdx_cons]
    by_cases k : x.1 ≤ now
    · have := filter_due (now := now) hr
      unfold dueN at this
      rw [decide_eq_true k, if_pos rfl, if_neg (by decide), this.1, this.2]
      exact ⟨rfl, rfl⟩
    · rw [decide_eq_false k, if_neg (by decide), if_pos (show (!false) = true from rfl)]
      have hall := (up_lt hr).1 x rfl
      refine ⟨?_, ?_⟩
      · show List.filter _ r = []
        refine List.filter_eq_nil_iff.2 fun y hy => ?_
        have := lt_le (hall y hy)
        simp; omega
      · show x :: List.filter _ r = x :: r
        congr 1
        refine List.filter_eq_self.2 fun y hy => ?_
        have := lt_le (hall y hy)
        simp; omega
theorem refDue_spec {l : List T} {now : Int} (hl : l.length ≤ 1000000) (hr : up none l = true) : ref20_Due l now = some (l.take (dueN now l), l.drop (dueN now l)) := by
  have := refDue_l0 (now := now) hl l 0 [] [] rfl (Nat.le_refl _) (Nat.le_refl _)
  rw [Int.natCast_zero, (filter_due hr).1, (filter_due hr).2] at this
  rw [ref20_Due_eq, this]; rfl
end Go.Proofs.Ytocglpmgamhaeaa.PE
