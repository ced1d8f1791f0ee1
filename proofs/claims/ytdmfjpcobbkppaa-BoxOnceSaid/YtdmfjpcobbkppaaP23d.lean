/- What is taken, known to be there, on its way: the program's and the document's. -/
import Derived.Test.YtdmfjpcobbkppaaP23c
namespace Go.Proofs.Ytdmfjpcobbkppaa.PE
set_option linter.unusedVariables false
open Classical
abbrev Bx : Type := List Int × List TO × List Int
/-- A box that may be. -/
structure V (S : List Int) (O : List TO) (N : List Int) : Prop where
  s1 : 1 ≤ S.length
  s2 : S.length ≤ 64
  n : N.length = S.length
  oS : ∀ x ∈ S, okN x
  oN : ∀ x ∈ N, okN x
  o : O.length ≤ 256
  c : chk S none O
theorem v_iff {S N : List Int} {O : List TO} : checkS S O N = some 0 ↔ V S O N := by
  unfold checkS
  constructor
  · intro h
    split at h
    · cases h
    · rename_i h1
      split at h
      · cases h
      · rename_i h2
        by_cases hc : chk S none O
        · have h3 : (∀ x ∈ S, okN x) ∧ ∀ x ∈ N, okN x := Classical.byContradiction fun h => h1 (.inr (.inr (.inr h)))
          exact ⟨Nat.not_lt.1 fun h => h1 (.inl h), Nat.not_lt.1 fun h => h1 (.inr (.inl h)), Classical.byContradiction fun h => h1 (.inr (.inr (.inl h))), h3.1, h3.2, by omega, hc⟩
        · rw [res_no hc] at h; cases h
  · intro h
    obtain ⟨a, b, c, d, e, f, g⟩ := h
    rw [if_neg (fun h => by rcases h with h | h | h | h; all_goals first | omega | exact h c | exact h ⟨d, e⟩), if_neg (by omega), res_yes g]
theorem chk_each {S : List Int} : ∀ {r : List TO} {p : Option (Int × Int)}, chk S p r → (∀ o ∈ r, bnd S.length o) ∧ (∀ x, p = some x → ∀ o ∈ r, x.1 ≤ o.1)
  | [], _, _ => ⟨fun _ h => (by cases h), fun _ _ _ h => (by cases h)⟩
  | o :: r, p, h => by
    obtain ⟨h1, h2, h3⟩ : bnd S.length o ∧ relP S p o ∧ chk S (some (o.1, o.2.1)) r := by cases p <;> exact h
    obtain ⟨k1, k2⟩ := chk_each h3
    refine ⟨fun x hx => ?_, fun x hx y hy => ?_⟩
    · rcases List.mem_cons.1 hx with rfl | hx
      · exact h1
      · exact k1 x hx
    · have ho : x.1 ≤ o.1 := by
        subst hx
        rcases h2 with ⟨e, _⟩ | ⟨e, _⟩
        · omega
        · omega
      rcases List.mem_cons.1 hy with rfl | hy
      · exact ho
      · have := k2 _ rfl y hy
        simp only at this; omega
theorem V.sm {S N : List Int} {O : List TO} (h : V S O N) : Sm S O N := by
  have hn := h.n
  have h1 := h.s2
  have h2 := h.o
  exact ⟨by omega, by omega, by omega, fun e he => by have := ((chk_each h.c).1 e he).2.2.2; omega⟩
theorem getI {l : List Int} {t : Int} (h0 : 0 ≤ t) (h1 : t < l.length) : l[t.toNat]? = some (sAt l t) := sAt_get h0 h1
theorem okAt {l : List Int} (hl : ∀ x ∈ l, okN x) {t : Int} (h0 : 0 ≤ t) (h1 : t < l.length) : okN (sAt l t) := hl _ (List.mem_of_getElem? (getI h0 h1))
/-- What is taken. -/
def takeS (S : List Int) (O : List TO) (N : List Int) (f q : Int) : List Int × List TO × List Int × Bool × Int :=
  if f < 0 ∨ f ≥ N.length then ([], [], [], false, 9) else if q < 1 ∨ q > 1099511627776 then ([], [], [], false, 2) else if q > sAt N f + 1 then ([], [], [], false, 11)
  else if q ≤ sAt N f then (S, O, N, false, 0) else (S, O, N.set f.toNat q, true, 0)
theorem take_spec {S N : List Int} {O : List TO} (h : Sm S O N) (hN : ∀ x ∈ N, okN x) (f q : Int) : box_Take S O N f q = some (takeS S O N f q) := by
  rw [box_Take_eq]
  simp only [ilen_eq]
  unfold takeS
  by_cases h1 : f < 0
  · rw [decide_eq_true h1, if_pos (.inl h1)]; rfl
  by_cases h2 : f ≥ (N.length : Int)
  · rw [decide_eq_false h1, decide_eq_true h2, if_pos (.inr h2)]; rfl
  by_cases h3 : q < 1
  · rw [decide_eq_false h1, decide_eq_false h2, decide_eq_true h3, if_neg (by omega), if_pos (.inl h3)]; rfl
  by_cases h4 : q > 1099511627776
  · rw [decide_eq_false h1, decide_eq_false h2, decide_eq_false h3, decide_eq_true h4, if_neg (by omega), if_pos (.inr h4)]; rfl
  obtain ⟨k1, k2⟩ := okAt hN (t := f) (by omega) (by omega)
  rw [decide_eq_false h1, decide_eq_false h2, decide_eq_false h3, decide_eq_false h4, decide_eq_true (show (0 : Int) ≤ f by omega), getI (by omega) (by omega), if_neg (by omega), if_neg (by omega), copy_spec h]
  simp only [cond_false, cond_true, Option.bind_some]
  rw [wrap_i64 (by omega) (by omega), getI (l := N) (t := f) (by omega) (by omega), decide_eq_true (show f < (N.length : Int) by omega)]
  simp only [cond_true, Option.bind_some]
  by_cases h5 : q > sAt N f + 1
  · rw [decide_eq_true h5, if_pos h5]; rfl
  rw [decide_eq_false h5, if_neg h5]
  by_cases h6 : q ≤ sAt N f
  · rw [decide_eq_true h6, if_pos h6]; rfl
  · rw [decide_eq_false h6, if_neg h6]; rfl
theorem refTake_spec {S N : List Int} {O : List TO} (h : Sm S O N) (hN : ∀ x ∈ N, okN x) (f q : Int) : ref23_Take S O N f q = some (takeS S O N f q) := by
  obtain ⟨_, hn, _⟩ := h
  rw [ref23_Take_eq]
  simp only [ilen_eq, List.nil_append]
  unfold takeS
  by_cases h1 : f < 0
  · rw [decide_eq_true h1, if_pos (.inl h1)]; rfl
  by_cases h2 : f ≥ (N.length : Int)
  · rw [decide_eq_false h1, decide_eq_true h2, if_pos (.inr h2)]; rfl
  by_cases h3 : q < 1
  · rw [decide_eq_false h1, decide_eq_false h2, decide_eq_true h3, if_neg (by omega), if_pos (.inl h3)]; rfl
  by_cases h4 : q > 1099511627776
  · rw [decide_eq_false h1, decide_eq_false h2, decide_eq_false h3, decide_eq_true h4, if_neg (by omega), if_pos (.inr h4)]; rfl
  obtain ⟨k1, k2⟩ := okAt hN (t := f) (by omega) (by omega)
  rw [decide_eq_false h1, decide_eq_false h2, decide_eq_false h3, decide_eq_false h4, decide_eq_true (show (0 : Int) ≤ f by omega), getI (by omega) (by omega), if_neg (by omega), if_neg (by omega), wrap_i64 (x := q - 1) (by omega) (by omega),
    decide_eq_true (show (0 + (N.length : Int)) * 8 ≤ room by rw [room_eq]; omega), decide_eq_true (show f < (N.length : Int) by omega)]
  simp only [cond_false, cond_true, Option.bind_some]
  by_cases h5 : q > sAt N f + 1
  · rw [decide_eq_true (show q - 1 > sAt N f by omega), if_pos h5]; rfl
  rw [decide_eq_false (show ¬ q - 1 > sAt N f by omega), if_neg h5]
  by_cases h6 : q ≤ sAt N f
  · rw [decide_eq_true h6, if_pos h6]; rfl
  · rw [decide_eq_false h6, if_neg h6]; rfl
/-- What is on its way somewhere. -/
def pend (t m : Int) : List TO → List TO → List TO
  | a, [] => a
  | a, o :: r => if o.1 = t ∧ (a.length : Int) < m then pend t m (a ++ [o]) r else pend t m a r
theorem pend_l0 {S N : List Int} {O : List TO} (h : Sm S O N) (t m : Int) : ∀ (r : List TO) (i : Nat) (a : List TO), O.drop i = r → a.length ≤ i → box_Pending_l0 t m O O.length i a = some (pend t m a r) := by
  obtain ⟨_, _, h3, h4⟩ := h
  intro r
  induction r with
  | nil =>
    intro i a h _
    have h0 := at_nil h
    rw [box_Pending_l0_eq, decide_eq_false (by omega)]; rfl
  | cons o r ih =>
    intro i a h ha
    obtain ⟨k1, k2, k3⟩ := at_drop h
    rw [box_Pending_l0_eq]
    simp -implicitDefEqProofs only [ilen_eq, List.length_cons, List.length_nil]
    rw [decide_eq_true (show (i : Int) < (O.length : Int) by omega), decide_eq_true (show (0 : Int) ≤ i by omega)]
    simp -implicitDefEqProofs only [cond_true, Int.toNat_natCast, k2, Option.bind_some]
    rw [cloneB (h4 o (List.mem_of_getElem? k2)), wrap_succ (by omega), ih (i + 1) a k3 (by omega)]
    simp -implicitDefEqProofs only [Option.bind_some]
    rw [decide_eq_true (show ((a.length : Int) + ((0 + 1 : Nat) : Int)) * 40 ≤ room by rw [room_eq]; omega), ih (i + 1) (a ++ [(o.1, o.2.1, o.2.2)]) k3 (by rw [List.length_append]; simp only [List.length_cons, List.length_nil]; omega)]
    simp -implicitDefEqProofs only [cond_true]
    rw [pend]
    by_cases e : o.1 = t
    · rw [beq_yes e]
      by_cases e2 : (a.length : Int) < m
      · rw [decide_eq_true e2, if_pos ⟨e, e2⟩]; rfl
      · rw [decide_eq_false e2, if_neg fun h => e2 h.2]; rfl
    · rw [beq_no e, if_neg fun h => e h.1]; rfl
theorem pend_spec {S N : List Int} {O : List TO} (h : Sm S O N) (t m : Int) : box_Pending S O N t m = some (pend t m [] O) := by
  have := pend_l0 h t m O 0 [] rfl (Nat.le_refl _)
  rw [Int.natCast_zero] at this
  rw [box_Pending_eq, ilen_eq]; exact this
theorem refPend_l0 {S N : List Int} {O : List TO} (h : Sm S O N) (t m : Int) : ∀ (r : List TO) (i : Nat) (a : List TO), O.drop i = r → a.length ≤ i → ref23_Pending_l0 t m i S O N a = some (pend t m a r) := by
  obtain ⟨_, _, h3, h4⟩ := h
  intro r
  induction r with
  | nil =>
    intro i a h _
    have h0 := at_nil h
    rw [ref23_Pending_l0_eq, ilen_eq, decide_eq_false (by omega)]; rfl
  | cons o r ih =>
    intro i a h ha
    obtain ⟨k1, k2, k3⟩ := at_drop h
    rw [ref23_Pending_l0_eq]
    simp -implicitDefEqProofs only [ilen_eq, List.length_cons, List.length_nil]
    rw [decide_eq_true (show (i : Int) < (O.length : Int) by omega), decide_eq_true (show (0 : Int) ≤ i by omega)]
    simp -implicitDefEqProofs only [cond_true, Int.toNat_natCast, k2, Option.bind_some]
    rw [wrap_succ (by omega), ih (i + 1) a k3 (by omega)]
    rw [decide_eq_true (show ((a.length : Int) + ((0 + 1 : Nat) : Int)) * 40 ≤ room by rw [room_eq]; omega), ih (i + 1) (a ++ [o]) k3 (by rw [List.length_append]; simp only [List.length_cons, List.length_nil]; omega)]
    simp -implicitDefEqProofs only [cond_true]
    rw [pend]
    by_cases e : o.1 = t
    · rw [beq_yes e]
      by_cases e2 : (a.length : Int) < m
      · rw [decide_eq_true e2, if_pos ⟨e, e2⟩]; rfl
      · rw [decide_eq_false e2, if_neg fun h => e2 h.2]; rfl
    · rw [beq_no e, if_neg fun h => e h.1]
      cases decide ((a.length : Int) < m) <;> rfl
theorem refPend_spec {S N : List Int} {O : List TO} (h : Sm S O N) (t m : Int) : ref23_Pending S O N t m = some (pend t m [] O) := by
  have := refPend_l0 h t m O 0 [] rfl (Nat.le_refl _)
  rw [Int.natCast_zero] at this
  rw [ref23_Pending_eq]; exact this
theorem pend_len (t m : Int) : ∀ (r a : List TO), (pend t m a r).length ≤ a.length + r.length
  | [], a => by rw [pend]; simp
  | o :: r, a => by
    rw [pend]
    split
    · have := pend_len t m r (a ++ [o])
      rw [List.length_append] at this
      simp only [List.length_cons, List.length_nil] at this ⊢
      omega
    · have := pend_len t m r a
      simp only [List.length_cons]; omega
/-- What stays on its way. -/
def keep (t q : Int) (o : TO) : Bool := !(o.1 == t && decide (o.2.1 ≤ q))
theorem keep_yes {t q : Int} {o : TO} (h : ¬ (o.1 = t ∧ o.2.1 ≤ q)) : keep t q o = true := by
  unfold keep
  by_cases e : o.1 = t
  · rw [beq_yes e, decide_eq_false fun h2 => h ⟨e, h2⟩]; rfl
  · rw [beq_no e]; rfl
theorem keep_no {t q : Int} {o : TO} (h : o.1 = t ∧ o.2.1 ≤ q) : keep t q o = false := by
  unfold keep
  rw [beq_yes h.1, decide_eq_true h.2]; rfl
theorem indexO_l0 {l : List TO} {t q : Int} (hl : l.length ≤ 1000000) : ∀ (r : List TO) (i : Nat), l.drop i = r → (box_IndexFuncO_l0 l t q l.length i = some (-1) ∧ ∀ j ∈ r, keep t q j = true) ∨ ∃ k j, box_IndexFuncO_l0 l t q l.length i = some ((k : Nat) : Int) ∧ l[k]? = some j ∧ keep t q j = false ∧ ∀ m y, i ≤ m → m < k → l[m]? = some y → keep t q y = true := by
  intro r
  induction r with
  | nil =>
    intro i h
    have h1 := at_nil h
    refine .inl ⟨?_, fun j hj => (by cases hj)⟩
    rw [box_IndexFuncO_l0_eq, decide_eq_false (by omega)]; rfl
  | cons x r ih =>
    intro i h
    obtain ⟨h1, h2, h3⟩ := at_drop h
    rw [box_IndexFuncO_l0_eq, decide_eq_true (show (i : Int) < (l.length : Int) by omega), decide_eq_true (show (0 : Int) ≤ i by omega)]
    simp only [cond_true, Int.toNat_natCast, h2, Option.bind_some]
    rw [wrap_succ (by omega)]
    by_cases e : x.1 = t ∧ x.2.1 ≤ q
    · rw [beq_yes e.1, decide_eq_true e.2]
      exact .inr ⟨i, x, rfl, h2, keep_no e, fun m y hm1 hm2 => by omega⟩
    · have hgo : (bif x.1 == t then bif decide (x.2.1 ≤ q) then some (i : Int) else box_IndexFuncO_l0 l t q l.length ((i + 1 : Nat) : Int) else box_IndexFuncO_l0 l t q l.length ((i + 1 : Nat) : Int)) = box_IndexFuncO_l0 l t q l.length ((i + 1 : Nat) : Int) := by
        by_cases e1 : x.1 = t
        · rw [beq_yes e1, decide_eq_false fun h => e ⟨e1, h⟩]; rfl
        · rw [beq_no e1]; rfl
      rw [hgo]
      rcases ih (i + 1) h3 with ⟨q1, q2⟩ | ⟨k, j, q1, q2, q3, q4⟩
      · refine .inl ⟨q1, fun j hj => ?_⟩
        rcases List.mem_cons.1 hj with rfl | hj
        · exact keep_yes e
        · exact q2 j hj
      · refine .inr ⟨k, j, q1, q2, q3, fun m y hm1 hm2 hy => ?_⟩
        rcases Nat.lt_or_ge i m with hq | hq
        · exact q4 m y hq hm2 hy
        · have : m = i := by omega
          subst this
          rw [h2] at hy
          cases hy
          exact keep_yes e
theorem take_set_le {l : List TO} {n m : Nat} {v : TO} (h : m ≤ n) : (l.set n v).take m = l.take m := by
  apply List.ext_getElem?
  intro i
  rw [List.getElem?_take, List.getElem?_take]
  split
  · rw [List.getElem?_set_ne (by omega)]
  · rfl
theorem drop_set_lt {l : List TO} {n m : Nat} {v : TO} (h : n < m) : (l.set n v).drop m = l.drop m := by
  apply List.ext_getElem?
  intro i
  rw [List.getElem?_drop, List.getElem?_drop, List.getElem?_set_ne (by omega)]
theorem delf_l0 {l : List TO} {t q : Int} (hl : l.length ≤ 1000000) : ∀ (r : List TO) (i w : Nat) (cur : List TO), l.drop i = r → cur.drop i = r → cur.length = l.length → w < i → i ≤ l.length → cur.take w = (l.take i).filter (keep t q) → box_DeleteFunc_l0 t q w i cur = some (l.filter (keep t q)) := by
  intro r
  induction r with
  | nil =>
    intro i w cur h hc hn hw hi ht
    have h1 := at_nil h
    rw [box_DeleteFunc_l0_eq]
    rw [List.take_of_length_le h1] at ht
    have hL : ∀ z : TO, (List.take w cur ++ List.replicate (min (cur.length - w) (cur.length - w)) z ++ List.drop (w + (cur.length - w)) cur).length = cur.length := fun z => by
      rw [List.length_append, List.length_append, List.length_take, List.length_replicate, List.length_drop]; omega
    have hT : ∀ z : TO, List.take w (List.take w cur ++ List.replicate (min (cur.length - w) (cur.length - w)) z ++ List.drop (w + (cur.length - w)) cur) = cur.take w := fun z => by
      rw [List.append_assoc, List.take_append_of_le_length (by rw [List.length_take]; omega), List.take_take, Nat.min_self]
    simp -implicitDefEqProofs only [Bool.cond_decide, ilen_eq, Int.toNat_natCast, show Int.toNat 0 = 0 from rfl, Nat.sub_zero, hL, hT]
    rw [if_neg (by omega), if_pos (by omega), if_pos (by omega), if_pos (Int.le_refl _), Nat.ble_eq_true_of_le (by omega), cond_true, if_pos (by omega), if_pos (by omega), Nat.ble_eq_true_of_le (by omega), cond_true, ht]
  | cons x r ih =>
    intro i w cur h hc hn hw hi ht
    obtain ⟨h1, h2, h3⟩ := at_drop h
    obtain ⟨c1, c2, c3⟩ := at_drop hc
    have hwl : w < cur.length := by omega
    have e1 : (l.take (i + 1)).filter (keep t q) = cur.take w ++ (if keep t q x = true then [x] else []) := by
      rw [List.take_add_one, h2, Option.toList_some, List.filter_append, ht, List.filter_cons]
      rfl
    have del : keep t q x = false → box_DeleteFunc_l0 t q w ((i + 1 : Nat) : Int) cur = some (l.filter (keep t q)) := fun e => ih (i + 1) w cur h3 c3 hn (by omega) (by omega) (by rw [e1, if_neg (by rw [e]; decide), List.append_nil])
    have mov : keep t q x = true → box_DeleteFunc_l0 t q ((w + 1 : Nat) : Int) ((i + 1 : Nat) : Int) (cur.set w x) = some (l.filter (keep t q)) := fun e => by
      refine ih (i + 1) (w + 1) (cur.set w x) h3 ?_ ?_ (by omega) (by omega) ?_
      · rw [drop_set_lt (by omega)]; exact c3
      · rw [List.length_set]; exact hn
      · rw [e1, if_pos e, List.take_add_one, take_set_le (Nat.le_refl _), List.getElem?_set_self hwl]; rfl
    rw [box_DeleteFunc_l0_eq]
    simp -implicitDefEqProofs only [ilen_eq, Int.toNat_natCast, c2, Option.bind_some, List.getElem?_eq_getElem hwl]
    rw [decide_eq_true (show (i : Int) < (cur.length : Int) by omega), decide_eq_true (show (0 : Int) ≤ i by omega), decide_eq_true (show (0 : Int) ≤ w by omega), decide_eq_true (show (w : Int) < (cur.length : Int) by omega), wrap_succ (show i < _ by omega), wrap_succ (show w < _ by omega)]
    simp only [cond_true]
    by_cases e : x.1 = t
    · rw [beq_yes e]
      by_cases e2 : x.2.1 ≤ q
      · rw [decide_eq_true e2]
        exact del (keep_no ⟨e, e2⟩)
      · rw [decide_eq_false e2]
        exact mov (keep_yes fun h => e2 h.2)
    · rw [beq_no e]
      exact mov (keep_yes fun h => e h.1)
theorem del_spec {l : List TO} {t q : Int} (hl : l.length ≤ 1000000) : box_DeleteFunc l (t, q) = some (l.filter (keep t q)) := by
  rw [box_DeleteFunc_eq, box_IndexFuncO_eq, ilen_eq]
  rcases indexO_l0 (t := t) (q := q) hl l 0 rfl with ⟨q1, q2⟩ | ⟨k, j, q1, q2, q3, q4⟩
  · rw [Int.natCast_zero] at q1
    rw [q1, Option.bind_some, beq_yes rfl, cond_true, List.filter_eq_self.2 q2]
  · rw [Int.natCast_zero] at q1
    have hk := (List.getElem?_eq_some_iff.1 q2).1
    rw [q1, Option.bind_some, beq_no (by omega), cond_false, wrap_succ (by omega)]
    refine delf_l0 hl (l.drop (k + 1)) (k + 1) k l rfl rfl rfl (by omega) (by omega) ?_
    rw [List.take_add_one, q2, Option.toList_some, List.filter_append, List.filter_cons, q3, if_neg (by decide), List.filter_nil, List.append_nil]
    refine (List.filter_eq_self.2 fun x hx => ?_).symm
    obtain ⟨m, hm⟩ := List.getElem?_of_mem hx
    have hm2 := (List.getElem?_eq_some_iff.1 hm).1
    rw [List.length_take] at hm2
    rw [List.getElem?_take_of_lt (by omega)] at hm
    exact q4 m x (Nat.zero_le _) (by omega) hm
/-- What is known to be there. -/
def ackS (S : List Int) (O : List TO) (N : List Int) (t q : Int) : List Int × List TO × List Int × Int :=
  if t < 0 ∨ t ≥ S.length then ([], [], [], 9) else if q < 0 ∨ q > sAt S t then ([], [], [], 2) else (S, O.filter (keep t q), N, 0)
theorem ack_spec {S N : List Int} {O : List TO} (h : Sm S O N) (t q : Int) : box_Ack S O N t q = some (ackS S O N t q) := by
  rw [box_Ack_eq]
  simp only [ilen_eq]
  unfold ackS
  by_cases h1 : t < 0
  · rw [decide_eq_true h1, if_pos (.inl h1)]; rfl
  by_cases h2 : t ≥ (S.length : Int)
  · rw [decide_eq_false h1, decide_eq_true h2, if_pos (.inr h2)]; rfl
  by_cases h3 : q < 0
  · rw [decide_eq_false h1, decide_eq_false h2, decide_eq_true h3, if_neg (by omega), if_pos (.inl h3)]; rfl
  rw [decide_eq_false h1, decide_eq_false h2, decide_eq_false h3, decide_eq_true (show (0 : Int) ≤ t by omega), getI (by omega) (by omega), if_neg (by omega), copy_spec h]
  simp only [cond_false, cond_true, Option.bind_some]
  rw [del_spec h.2.2.1]
  by_cases h4 : q > sAt S t
  · rw [decide_eq_true h4, if_pos (.inr h4)]; rfl
  · rw [decide_eq_false h4, if_neg (by omega)]; rfl
theorem refAck_l0 {S N : List Int} {O : List TO} (h : Sm S O N) (t q : Int) : ∀ (r : List TO) (i : Nat) (a : List TO), O.drop i = r → a.length ≤ i → ref23_Ack_l0 t q i S O N S N a = some (S, a ++ r.filter (keep t q), N, 0) := by
  obtain ⟨_, _, h3, h4⟩ := h
  intro r
  induction r with
  | nil =>
    intro i a h _
    have h0 := at_nil h
    rw [ref23_Ack_l0_eq, ilen_eq, decide_eq_false (by omega), List.filter_nil, List.append_nil]; rfl
  | cons o r ih =>
    intro i a h ha
    obtain ⟨k1, k2, k3⟩ := at_drop h
    rw [ref23_Ack_l0_eq]
    simp -implicitDefEqProofs only [ilen_eq, List.length_cons, List.length_nil]
    rw [decide_eq_true (show (i : Int) < (O.length : Int) by omega), decide_eq_true (show (0 : Int) ≤ i by omega)]
    simp -implicitDefEqProofs only [cond_true, Int.toNat_natCast, k2, Option.bind_some]
    rw [wrap_succ (by omega), ih (i + 1) a k3 (by omega), decide_eq_true (show ((a.length : Int) + ((0 + 1 : Nat) : Int)) * 40 ≤ room by rw [room_eq]; omega), ih (i + 1) (a ++ [o]) k3 (by rw [List.length_append]; simp only [List.length_cons, List.length_nil]; omega), List.filter_cons]
    simp -implicitDefEqProofs only [cond_true]
    by_cases e : o.1 = t
    · rw [bne_no e]
      by_cases e2 : o.2.1 ≤ q
      · rw [decide_eq_false (show ¬ o.2.1 > q by omega), keep_no ⟨e, e2⟩]; rfl
      · rw [decide_eq_true (show o.2.1 > q by omega), keep_yes fun h => e2 h.2, if_pos rfl, List.append_assoc]; rfl
    · rw [bne_yes e, keep_yes fun h => e h.1, if_pos rfl, List.append_assoc]; rfl
theorem refAck_spec {S N : List Int} {O : List TO} (h : Sm S O N) (t q : Int) : ref23_Ack S O N t q = some (ackS S O N t q) := by
  rw [ref23_Ack_eq]
  simp only [ilen_eq]
  unfold ackS
  by_cases h1 : t < 0
  · rw [decide_eq_true h1, if_pos (.inl h1)]; rfl
  by_cases h2 : t ≥ (S.length : Int)
  · rw [decide_eq_false h1, decide_eq_true h2, if_pos (.inr h2)]; rfl
  by_cases h3 : q < 0
  · rw [decide_eq_false h1, decide_eq_false h2, decide_eq_true h3, if_neg (by omega), if_pos (.inl h3)]; rfl
  have := refAck_l0 h t q O 0 [] rfl (Nat.le_refl _)
  rw [Int.natCast_zero, List.nil_append] at this
  rw [decide_eq_false h1, decide_eq_false h2, decide_eq_false h3, decide_eq_true (show (0 : Int) ≤ t by omega), getI (by omega) (by omega), if_neg (by omega)]
  simp only [cond_false, cond_true, Option.bind_some]
  rw [this]
  by_cases h4 : q > sAt S t
  · rw [decide_eq_true h4, if_pos (.inr h4)]; rfl
  · rw [decide_eq_false h4, if_neg (by omega)]; rfl
end Go.Proofs.Ytdmfjpcobbkppaa.PE
