/- What more is sent: the program's and the document's. -/
import Derived.Test.YtdmfjpcobbkppaaP23d
namespace Go.Proofs.Ytdmfjpcobbkppaa.PE
set_option linter.unusedVariables false
open Classical
/-- One more, behind those to the same or an earlier one. -/
def ins (t : Int) (v : TO) : List TO → List TO
  | [] => [v]
  | o :: r => if o.1 ≤ t then o :: ins t v r else v :: o :: r
def sendS (S : List Int) (O : List TO) (N : List Int) (t : Int) (d : List Int) : List Int × List TO × List Int × Int × Int :=
  if t < 0 ∨ t ≥ S.length then ([], [], [], 0, 9) else if (d.length : Int) > 65536 then ([], [], [], 0, 6) else if (O.length : Int) ≥ 256 ∨ sAt S t ≥ 1099511627776 then ([], [], [], 0, 14)
  else (S.set t.toNat (sAt S t + 1), ins t (t, sAt S t + 1, d) O, N, sAt S t + 1, 0)
theorem sAt_set {S : List Int} {t v : Int} (h0 : 0 ≤ t) (h1 : t < S.length) : sAt (S.set t.toNat v) t = v := getD_set_self (by omega)
theorem sAt_set_ne {S : List Int} {t u v : Int} (h0 : 0 ≤ t) (hu : 0 ≤ u) (h : u ≠ t) : sAt (S.set t.toNat v) u = sAt S u := getD_set_ne (by omega)
theorem ins_split (t : Int) (v : TO) : ∀ (O : List TO) (i : Nat), (∀ j x, j < i → O[j]? = some x → x.1 ≤ t) → (∀ x, O[i]? = some x → ¬ x.1 ≤ t) → i ≤ O.length → O.take i ++ [v] ++ O.drop i = ins t v O
  | [], 0, _, _, _ => rfl
  | [], i + 1, _, _, h => by simp at h
  | o :: r, 0, _, h2, _ => by
    rw [ins, if_neg (h2 o rfl)]; rfl
  | o :: r, i + 1, h1, h2, h3 => by
    rw [ins, if_pos (h1 0 o (by omega) rfl), List.take_succ_cons, List.drop_succ_cons, ← ins_split t v r i (fun j x hj hx => h1 (j + 1) x (by omega) (by simpa using hx)) (fun x hx => h2 x (by simpa using hx)) (by simpa using h3)]
    rfl
theorem ins_len (t : Int) (v : TO) : ∀ O : List TO, (ins t v O).length = O.length + 1
  | [] => rfl
  | o :: r => by
    rw [ins]
    split
    · rw [List.length_cons, ins_len t v r, List.length_cons]
    · rfl
theorem send_l1 {S N : List Int} {O : List TO} {t : Int} {d : List Int} (hO : O.length ≤ 1000000) (hd : d.length ≤ 1000000) (h0 : 0 ≤ t) (h1 : t < S.length) : ∀ (r : List TO) (i : Nat), O.drop i = r → i ≤ O.length → (∀ j x, j < i → O[j]? = some x → x.1 ≤ t) →
    box_Send_l1 t d i S O N = some (S, ins t (t, sAt S t, d) O, N, sAt S t, 0) := by
  have hins : ∀ i : Nat, i ≤ O.length → insF O i [(t, sAt S t, d)] = some (O.take i ++ [(t, sAt S t, d)] ++ O.drop i) := by
    intro i hi
    rw [insF_eq, insS]
    have hc1 : (Nat.beq [(t, sAt S t, d)].length 1 && (decide ((0 : Int) ≤ (i : Int)) && (decide ((i : Int) ≤ ilen O) && decide ((ilen O + 1) * ((40 : Nat) : Int) ≤ room)))) = true := by
      rw [ilen_eq, decide_eq_true (show (0 : Int) ≤ (i : Int) by omega), decide_eq_true (show (i : Int) ≤ (O.length : Int) by omega), decide_eq_true (show ((O.length : Int) + 1) * ((40 : Nat) : Int) ≤ room by rw [room_eq]; omega)]
      rfl
    rw [hc1, cond_true, Int.toNat_natCast]
  have fin : ∀ i : Nat, i ≤ O.length → (∀ j x, j < i → O[j]? = some x → x.1 ≤ t) → (∀ x, O[i]? = some x → ¬ x.1 ≤ t) → (bif decide (0 ≤ t) then bif decide (t < (S.length : Int)) then (S[t.toNat]?).bind fun v => (box_CloneB d).bind fun c => (insF O i [(t, v, c)]).bind fun l => bif decide (0 ≤ t) then bif decide (t < (S.length : Int)) then (S[t.toNat]?).bind fun u => some (S, l, N, u, (0 : Int)) else none else none else none else none) = some (S, ins t (t, sAt S t, d) O, N, sAt S t, 0) := by
    intro i hi k1 k2
    rw [decide_eq_true h0, decide_eq_true h1, getI h0 h1, cloneB hd]
    simp only [cond_true, Option.bind_some]
    rw [hins i hi, ins_split t _ O i k1 k2 hi]
    rfl
  intro r
  induction r with
  | nil =>
    intro i h hi hp
    have hn := at_nil h
    have := fin i hi hp fun x hx => by have := (List.getElem?_eq_some_iff.1 hx).1; omega
    rw [box_Send_l1_eq]
    simp -implicitDefEqProofs only [ilen_eq]
    rw [decide_eq_false (show ¬ (i : Int) < (O.length : Int) by omega)]
    exact this
  | cons o r ih =>
    intro i h hi hp
    obtain ⟨k1, k2, k3⟩ := at_drop h
    rw [box_Send_l1_eq]
    simp -implicitDefEqProofs only [ilen_eq]
    rw [decide_eq_true (show (i : Int) < (O.length : Int) by omega), decide_eq_true (show (0 : Int) ≤ i by omega)]
    simp -implicitDefEqProofs only [cond_true, Int.toNat_natCast, k2, Option.bind_some]
    by_cases e : o.1 ≤ t
    · rw [decide_eq_true e, cond_true, wrap_succ (by omega)]
      refine ih (i + 1) k3 (by omega) fun j x hj hx => ?_
      rcases Nat.lt_or_ge j i with hq | hq
      · exact hp j x hq hx
      · have : j = i := by omega
        subst this
        rw [k2] at hx; cases hx; exact e
    · rw [decide_eq_false e, cond_false]
      exact fin i hi hp fun x hx => by rw [k2] at hx; cases hx; exact e
theorem send_spec {S N : List Int} {O : List TO} (h : Sm S O N) (hS : ∀ x ∈ S, okN x) (ho : O.length ≤ 256) (t : Int) {d : List Int} (hd : d.length ≤ 140737488351232) : box_Send S O N t d = some (sendS S O N t d) := by
  rw [box_Send_eq, box_Room_eq]
  simp -implicitDefEqProofs only [ilen_eq]
  unfold sendS
  by_cases h1 : t < 0
  · rw [decide_eq_true h1, if_pos (.inl h1)]; rfl
  by_cases h2 : t ≥ (S.length : Int)
  · rw [decide_eq_false h1, decide_eq_true h2, if_pos (.inr h2)]; rfl
  by_cases h3 : (d.length : Int) > 65536
  · rw [decide_eq_false h1, decide_eq_false h2, decide_eq_true h3, if_neg (by omega), if_pos h3]; rfl
  obtain ⟨k1, k2⟩ := okAt hS (t := t) (by omega) (by omega)
  have hlt : t.toNat < S.length := by omega
  rw [decide_eq_false h1, decide_eq_false h2, decide_eq_false h3, if_neg (by omega), if_neg h3, wrap_i64 (by omega) (by omega)]
  simp only [cond_false, Option.bind_some]
  rw [decide_eq_true (show (0 : Int) ≤ t by omega), getI (by omega) (by omega), copy_spec h]
  simp only [cond_true, Option.bind_some]
  by_cases h4 : (O.length : Int) ≥ 256
  · rw [decide_eq_true (show (256 : Int) - (O.length : Int) < 1 by omega), if_pos (.inl h4)]; rfl
  rw [decide_eq_false (show ¬ (256 : Int) - (O.length : Int) < 1 by omega)]
  by_cases h5 : sAt S t ≥ 1099511627776
  · rw [decide_eq_true h5, if_pos (.inr h5)]; rfl
  rw [decide_eq_false h5, if_neg (by omega), decide_eq_true (show t < (S.length : Int) by omega), getI (by omega) (by omega)]
  simp only [cond_true, cond_false, Option.bind_some]
  rw [wrap_i64 (by omega) (by omega)]
  have := send_l1 (S := S.set t.toNat (sAt S t + 1)) (N := N) (O := O) (t := t) (d := d) (by omega) (by omega) (by omega) (by rw [List.length_set]; omega) O 0 rfl (Nat.zero_le _) fun j x hj => by omega
  rw [Int.natCast_zero, sAt_set (by omega) (by omega)] at this
  exact this
/-- Those to one of some. -/
def between (a b : Int) (O : List TO) : List TO := O.filter fun o => decide (a ≤ o.1) && decide (o.1 < b)
def srt : Int → List TO → Prop
  | _, [] => True
  | t, o :: r => t ≤ o.1 ∧ srt o.1 r
theorem chk_srt {S : List Int} : ∀ {r : List TO} {p : Option (Int × Int)} {t : Int}, chk S p r → (∀ o, r.head? = some o → t ≤ o.1) → srt t r
  | [], _, _, _, _ => trivial
  | o :: r, p, t, h, ht => by
    obtain ⟨h1, h2, h3⟩ : bnd S.length o ∧ relP S p o ∧ chk S (some (o.1, o.2.1)) r := by cases p <;> exact h
    refine ⟨ht o rfl, chk_srt h3 fun x hx => ?_⟩
    cases r with
    | nil => cases hx
    | cons y r =>
      cases hx
      rcases h3.2.1 with ⟨e, _⟩ | ⟨e, _⟩
      · simp only at e; omega
      · simp only at e; omega
theorem srt_ge : ∀ {r : List TO} {t : Int}, srt t r → ∀ o ∈ r, t ≤ o.1
  | x :: r, t, h, o, ho => by
    rcases List.mem_cons.1 ho with rfl | ho
    · exact h.1
    · have := srt_ge h.2 o ho; have := h.1; omega
theorem between_empty {a b : Int} : ∀ {r : List TO}, (∀ o ∈ r, b ≤ o.1) → between a b r = [] := fun h => List.filter_eq_nil_iff.2 fun o ho => by have := h o ho; simp; omega
theorem between_succ {a b : Int} (hab : a ≤ b) : ∀ {r : List TO} {t : Int}, srt t r → between a (b + 1) r = between a b r ++ r.filter fun o => o.1 == b
  | [], _, _ => rfl
  | o :: r, t, h => by
    have ih := between_succ hab h.2
    have hge := srt_ge h.2
    unfold between at ih ⊢
    rcases Int.lt_trichotomy o.1 b with h1 | h1 | h1
    · rw [List.filter_cons, List.filter_cons, List.filter_cons, beq_no (show ¬ o.1 = b by omega), decide_eq_true h1, decide_eq_true (show o.1 < b + 1 by omega), ih]
      cases decide (a ≤ o.1) <;> rfl
    · have he : between a b r = [] := between_empty fun x hx => by have := hge x hx; omega
      unfold between at he
      rw [he, List.nil_append] at ih
      rw [List.filter_cons, List.filter_cons, List.filter_cons, beq_yes h1, decide_eq_true (show a ≤ o.1 by omega), decide_eq_true (show o.1 < b + 1 by omega), decide_eq_false (show ¬ o.1 < b by omega), ih, he]
      rfl
    · have he : between a b r = [] := between_empty fun x hx => by have := hge x hx; omega
      have he1 : between a (b + 1) r = [] := between_empty fun x hx => by have := hge x hx; omega
      have he2 : (r.filter fun o => o.1 == b) = [] := List.filter_eq_nil_iff.2 fun x hx => by have := hge x hx; rw [beq_no (by omega)]; decide
      unfold between at he he1
      rw [List.filter_cons, List.filter_cons, List.filter_cons, beq_no (show ¬ o.1 = b by omega), decide_eq_false (show ¬ o.1 < b by omega), decide_eq_false (show ¬ o.1 < b + 1 by omega), he, he1, he2, Bool.and_false]
      rfl
theorem between_self (a : Int) (r : List TO) : between a a r = [] := List.filter_eq_nil_iff.2 fun o _ => by simp
theorem ins_between {t n : Int} {v : TO} : ∀ {O : List TO} {u : Int}, srt u O → 0 ≤ u → (∀ o ∈ O, o.1 < n) → ins t v O = between 0 (t + 1) O ++ [v] ++ between (t + 1) n O
  | [], _, _, _, _ => rfl
  | o :: r, u, h, hu, hn => by
    have hge := srt_ge h.2
    have ho := hn o (by simp)
    have h1 := h.1
    rw [ins]
    unfold between
    by_cases e : o.1 ≤ t
    · have ih := ins_between (t := t) (n := n) (v := v) h.2 (by omega) fun x hx => hn x (by simp [hx])
      unfold between at ih
      rw [if_pos e, ih, List.filter_cons, List.filter_cons, decide_eq_true (show 0 ≤ o.1 by omega), decide_eq_true (show o.1 < t + 1 by omega), decide_eq_false (show ¬ t + 1 ≤ o.1 by omega)]
      rfl
    · have he : between 0 (t + 1) r = [] := between_empty fun x hx => by have := hge x hx; omega
      unfold between at he
      have hall : (r.filter fun o => decide (t + 1 ≤ o.1) && decide (o.1 < n)) = r := List.filter_eq_self.2 fun x hx => by
        have := hge x hx
        rw [decide_eq_true (show t + 1 ≤ x.1 by omega), decide_eq_true (hn x (by simp [hx]))]; rfl
      rw [if_neg e, List.filter_cons, List.filter_cons, decide_eq_false (show ¬ o.1 < t + 1 by omega), Bool.and_false, if_neg (by decide), he, decide_eq_true (show t + 1 ≤ o.1 by omega), decide_eq_true ho, hall]
      rfl
/-- What the document's has, behind so many. -/
def grown (t : Int) (v : TO) (O : List TO) (i : Int) : List TO := if i ≤ t then between 0 i O else between 0 (t + 1) O ++ [v] ++ between (t + 1) i O
theorem between_len (a b : Int) (O : List TO) : (between a b O).length ≤ O.length := List.length_filter_le _ _
theorem refSend_l2 {S N N2 : List Int} {O : List TO} {t i v : Int} {d Y : List Int} (hO : O.length ≤ 1000000) : ∀ (r : List TO) (k : Nat) (a : List TO), O.drop k = r → a.length ≤ 1000000 + k →
    ref23_Send_l2 t d i v k S O N N2 a Y = ref23_Send_l2 t d i v O.length S O N N2 (a ++ r.filter fun o => o.1 == i) Y := by
  intro r
  induction r with
  | nil =>
    intro k a h _
    have hn := at_nil h
    have e : ∀ k : Nat, O.length ≤ k → ∀ a, ref23_Send_l2 t d i v k S O N N2 a Y = ref23_Send_l2 t d i v O.length S O N N2 a Y := fun k hk a => by
      rw [ref23_Send_l2_eq, ref23_Send_l2_eq t d i v O.length, ilen_eq, decide_eq_false (show ¬ (k : Int) < (O.length : Int) by omega), decide_eq_false (show ¬ (O.length : Int) < (O.length : Int) by omega), cond_false, cond_false]
    rw [e k hn, List.filter_nil, List.append_nil]
  | cons o r ih =>
    intro k a h ha
    obtain ⟨k1, k2, k3⟩ := at_drop h
    rw [ref23_Send_l2_eq]
    simp -implicitDefEqProofs only [ilen_eq, List.length_cons, List.length_nil]
    rw [decide_eq_true (show (k : Int) < (O.length : Int) by omega), decide_eq_true (show (0 : Int) ≤ k by omega)]
    simp -implicitDefEqProofs only [cond_true, Int.toNat_natCast, k2, Option.bind_some]
    rw [wrap_succ (by omega), decide_eq_true (show ((a.length : Int) + ((0 + 1 : Nat) : Int)) * 40 ≤ room by rw [room_eq]; omega), ih (k + 1) a k3 (by omega), ih (k + 1) (a ++ [o]) k3 (by rw [List.length_append]; simp only [List.length_cons, List.length_nil]; omega), List.filter_cons]
    cases o.1 == i
    · rfl
    · simp only [cond_true, if_true, List.append_assoc, List.singleton_append]
theorem refSend_l0 {S N : List Int} {O : List TO} {t : Int} {d : List Int} (hS : ∀ x ∈ S, okN x) (hsl : S.length ≤ 64) (hO : O.length ≤ 256) (h0 : 0 ≤ t) (h1 : t < S.length) {u : Int} (hs : srt u O) : ∀ (r : List Int) (i : Nat), S.drop i = r → i ≤ S.length →
    ref23_Send_l0 t d i S O N N (grown t (t, sAt S t + 1, d) O i) ((S.set t.toNat (sAt S t + 1)).take i) = some (S.set t.toNat (sAt S t + 1), grown t (t, sAt S t + 1, d) O S.length, N, sAt S t + 1, 0) := by
  have hset := sAt_set (v := sAt S t + 1) h0 h1
  have glen : ∀ i : Int, (grown t (t, sAt S t + 1, d) O i).length ≤ 1000 := by
    intro i
    unfold grown
    split
    · have := between_len 0 i O; omega
    · have := between_len 0 (t + 1) O
      have := between_len (t + 1) i O
      simp only [List.length_append, List.length_cons, List.length_nil]; omega
  intro r
  induction r with
  | nil =>
    intro i h hi
    have hn := at_nil h
    have hid : i = S.length := by omega
    subst hid
    rw [ref23_Send_l0_eq, ilen_eq, ilen_eq, decide_eq_false (show ¬ (S.length : Int) < (S.length : Int) by omega), List.take_of_length_le (by rw [List.length_set]; omega), List.length_set, decide_eq_true h0, decide_eq_true h1, getI h0 (by rw [List.length_set]; exact h1), hset]
    rfl
  | cons x r ih =>
    intro i h hi
    obtain ⟨k1, k2, k3⟩ := at_drop h
    have hxs : x = sAt S i := by
      have := getI (l := S) (t := i) (by omega) (by omega)
      rw [Int.toNat_natCast, k2] at this
      exact Option.some.inj this
    have hxo := hS x (List.mem_of_getElem? k2)
    obtain ⟨x1, x2⟩ := hxo
    have hfl : ∀ a : List TO, a.length ≤ 1000 → (a ++ O.filter fun o => o.1 == (i : Int)).length ≤ 2000 := fun a ha => by
      have := List.length_filter_le (fun o : TO => o.1 == (i : Int)) O
      rw [List.length_append]; omega
    rw [ref23_Send_l0_eq]
    simp -implicitDefEqProofs only [ilen_eq, List.length_cons, List.length_nil, List.length_take, List.length_set]
    rw [decide_eq_true (show (i : Int) < (S.length : Int) by omega), decide_eq_true (show (0 : Int) ≤ i by omega), decide_eq_true (show (((min i S.length : Nat) : Int) + ((0 + 1 : Nat) : Int)) * 8 ≤ room by rw [room_eq]; omega)]
    simp -implicitDefEqProofs only [cond_true, Int.toNat_natCast, k2, Option.bind_some]
    rw [wrap_i64 (x := x + 1) (by omega) (by omega)]
    have step : ∀ (v : Int) (Y : List Int), ref23_Send_l2 t d i v 0 S O N N (grown t (t, sAt S t + 1, d) O i) Y = bif (i : Int) == t then ref23_Send_l0 t d ((i + 1 : Nat) : Int) S O N N ((grown t (t, sAt S t + 1, d) O i ++ O.filter fun o => o.1 == (i : Int)) ++ [(t, v, d)]) Y else ref23_Send_l0 t d ((i + 1 : Nat) : Int) S O N N (grown t (t, sAt S t + 1, d) O i ++ O.filter fun o => o.1 == (i : Int)) Y := by
      intro v Y
      have := refSend_l2 (S := S) (N := N) (N2 := N) (t := t) (i := i) (v := v) (d := d) (Y := Y) (O := O) (by omega) O 0 (grown t (t, sAt S t + 1, d) O i) rfl (by have := glen i; omega)
      rw [Int.natCast_zero] at this
      rw [this, ref23_Send_l2_eq]
      have hl := hfl _ (glen i)
      simp -implicitDefEqProofs only [ilen_eq]
      rw [decide_eq_false (show ¬ (O.length : Int) < (O.length : Int) by omega)]
      simp -implicitDefEqProofs only [cond_false, List.length_cons, List.length_nil]
      rw [decide_eq_true (show (((grown t (t, sAt S t + 1, d) O i ++ O.filter fun o => o.1 == (i : Int)).length : Int) + ((0 + 1 : Nat) : Int)) * 40 ≤ room by rw [room_eq]; omega), cond_true, wrap_succ (show i < 9223372036854775807 by omega)]
    rw [step, step]
    by_cases e : (i : Int) = t
    · rw [beq_yes e]
      simp only [cond_true]
      have hx2 : x = sAt S t := by rw [hxs, e]
      have e1 : (grown t (t, sAt S t + 1, d) O i ++ O.filter fun o => o.1 == (i : Int)) ++ [(t, x + 1, d)] = grown t (t, sAt S t + 1, d) O ((i + 1 : Nat) : Int) := by
        unfold grown
        rw [if_pos (by omega), if_neg (by omega), hx2, e, ← between_succ h0 hs, show ((i + 1 : Nat) : Int) = t + 1 by omega, between_self, List.append_nil]
      have e2 : (S.set t.toNat (sAt S t + 1)).take i ++ [x + 1] = (S.set t.toNat (sAt S t + 1)).take (i + 1) := by
        rw [List.take_add_one, show t.toNat = i by omega, List.getElem?_set_self k1, hx2]; rfl
      rw [e1, e2]
      exact ih (i + 1) k3 (by omega)
    · rw [beq_no e]
      simp only [cond_false]
      have e1 : (grown t (t, sAt S t + 1, d) O i ++ O.filter fun o => o.1 == (i : Int)) = grown t (t, sAt S t + 1, d) O ((i + 1 : Nat) : Int) := by
        unfold grown
        by_cases hlt : (i : Int) < t
        · rw [if_pos (by omega), if_pos (by omega), ← between_succ (by omega) hs]; rfl
        · rw [if_neg (by omega), if_neg (by omega), List.append_assoc, ← between_succ (by omega) hs]; rfl
      have e2 : (S.set t.toNat (sAt S t + 1)).take i ++ [x] = (S.set t.toNat (sAt S t + 1)).take (i + 1) := by
        rw [List.take_add_one, List.getElem?_set_ne (by omega), k2]; rfl
      rw [e1, e2]
      exact ih (i + 1) k3 (by omega)
theorem refSend_spec {S N : List Int} {O : List TO} (h : V S O N) (t : Int) (d : List Int) : ref23_Send S O N t d = some (sendS S O N t d) := by
  have hsl := h.s2
  have ho := h.o
  rw [ref23_Send_eq]
  simp -implicitDefEqProofs only [ilen_eq]
  unfold sendS
  by_cases h1 : t < 0
  · rw [decide_eq_true h1, if_pos (.inl h1)]; rfl
  by_cases h2 : t ≥ (S.length : Int)
  · rw [decide_eq_false h1, decide_eq_true h2, if_pos (.inr h2)]; rfl
  by_cases h3 : (d.length : Int) > 65536
  · rw [decide_eq_false h1, decide_eq_false h2, decide_eq_true h3, if_neg (by omega), if_pos h3]; rfl
  rw [decide_eq_false h1, decide_eq_false h2, decide_eq_false h3, if_neg (by omega), if_neg h3]
  by_cases h4 : (O.length : Int) ≥ 256
  · rw [decide_eq_true h4, if_pos (.inl h4)]; rfl
  rw [decide_eq_false h4, decide_eq_true (show (0 : Int) ≤ t by omega), getI (by omega) (by omega)]
  simp only [cond_true, cond_false, Option.bind_some]
  by_cases h5 : sAt S t ≥ 1099511627776
  · rw [decide_eq_true h5, if_pos (.inr h5)]; rfl
  rw [decide_eq_false h5, if_neg (by omega)]
  simp only [cond_false]
  have hs : srt 0 O := chk_srt h.c fun o ho => ((chk_each h.c).1 o (List.mem_of_mem_head? ho)).1
  have := refSend_l0 (N := N) (d := d) h.oS hsl ho (t := t) (by omega) (by omega) hs S 0 rfl (Nat.zero_le _)
  have e0 : grown t (t, sAt S t + 1, d) O ((0 : Nat) : Int) = [] := by
    unfold grown
    rw [if_pos (by omega)]
    exact between_self 0 O
  rw [e0, List.take_zero, Int.natCast_zero] at this
  rw [this, ins_between (n := S.length) hs (Int.le_refl _) fun o ho => ((chk_each h.c).1 o ho).2.1]
  unfold grown
  rw [if_neg (by omega)]
end Go.Proofs.Ytdmfjpcobbkppaa.PE
