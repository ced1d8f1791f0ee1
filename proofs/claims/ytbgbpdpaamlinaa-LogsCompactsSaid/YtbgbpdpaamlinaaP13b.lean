/- Logs: what stands where, what comes behind. -/
import Derived.Test.YtbgbpdpaamlinaaP13a
namespace Go.Proofs.Ytbgbpdpaamlinaa.PE
set_option linter.unusedVariables false
/-- A log that may be, of a size that is waited for. -/
structure Lg (b bt : Int) (l : Es) : Prop where
  sm : Sm l
  len : l.length ≤ 1000000
  b0 : 0 ≤ b
  b1 : b ≤ 1099511627776
theorem last_spec {b bt : Int} {l : Es} (h : Lg b bt l) : logs_Last b bt l = some (b + l.length) := by
  have := h.b0; have := h.b1; have := h.len
  rw [logs_Last_eq, ilen_eq, wrap_i64 (by omega) (by omega)]
theorem refLast_spec {b bt : Int} {l : Es} (h : Lg b bt l) : ref13_Last b bt l = some (b + l.length) := by
  have := h.b0; have := h.b1; have := h.len
  rw [ref13_Last_eq, ilen_eq, wrap_i64 (by omega) (by omega)]
/-- The term of the entry at a place. -/
def term (b bt : Int) (l : Es) (i : Int) : Int × Bool := if i = b then (bt, true) else if i < b then (0, false) else match l[(i - b - 1).toNat]? with
  | some e => (e.1, true)
  | none => (0, false)
theorem term_spec {b bt : Int} {l : Es} (h : Lg b bt l) (i : Int) : logs_Term b bt l i = some (term b bt l i) := by
  have h1 := h.b0; have h2 := h.b1; have h3 := h.len
  rw [logs_Term_eq, last_spec h]
  simp -implicitDefEqProofs only [Bool.cond_decide, Option.bind_some, term]
  by_cases k1 : i = b
  · subst k1; simp
  · rw [if_neg k1, show (i == b) = false by simp [k1], cond_false]
    by_cases k2 : i < b
    · rw [if_pos k2, if_pos k2]
    · rw [if_neg k2, if_neg k2]
      by_cases k3 : i > b + l.length
      · rw [if_pos k3, List.getElem?_eq_none (by omega)]
      · rw [if_neg k3, wrap_i64 (x := i - b) (by omega) (by omega), wrap_i64 (x := i - b - 1) (by omega) (by omega), if_pos (by omega)]
        rw [List.getElem?_eq_getElem (show (i - b - 1).toNat < l.length by omega)]
        rfl
theorem refTerm_l0 {b bt : Int} {l : Es} (h : Lg b bt l) (k : Int) : ∀ (r : Es) (i : Nat), l.drop i = r → (i : Int) ≤ k - b - 1 ∨ k < b + 1 ∨ b + l.length < k → ref13_Term_l0 k i b bt l = some (if k < b + 1 then (0, false) else match l[(k - b - 1).toNat]? with
  | some e => (e.1, true)
  | none => (0, false)) := by
  have g1 := h.b0; have g2 := h.b1; have g3 := h.len
  intro r
  induction r with
  | nil =>
    intro i hd hi
    have h1 := at_nil hd
    rw [ref13_Term_l0_eq, ilen_eq]
    simp -implicitDefEqProofs only [Bool.cond_decide]
    rw [if_neg (by omega)]
    by_cases k1 : k < b + 1
    · rw [if_pos k1]
    · rw [if_neg k1, List.getElem?_eq_none (by omega)]
  | cons x r ih =>
    intro i hd hi
    obtain ⟨h1, h2, h3⟩ := at_drop hd
    rw [ref13_Term_l0_eq, ilen_eq]
    simp -implicitDefEqProofs only [Bool.cond_decide]
    rw [if_pos (by omega), wrap_i64 (x := b + 1) (by omega) (by omega), wrap_i64 (x := b + 1 + i) (by omega) (by omega)]
    by_cases k1 : b + 1 + i = k
    · rw [show (b + 1 + (i : Int) == k) = true by simp [k1], cond_true, if_pos (by omega)]
      simp -implicitDefEqProofs only [Int.toNat_natCast, h2, Option.bind_some]
      rw [if_neg (by omega), show (k - b - 1).toNat = i by omega, h2]
    · rw [show (b + 1 + (i : Int) == k) = false by simp [k1], cond_false, wrap_succ (by omega), ih (i + 1) h3 (by omega)]
theorem refTerm_spec {b bt : Int} {l : Es} (h : Lg b bt l) (i : Int) : ref13_Term b bt l i = some (term b bt l i) := by
  rw [ref13_Term_eq, show (0 : Int) = ((0 : Nat) : Int) from rfl, refTerm_l0 h i l 0 rfl (by omega), term]
  by_cases k1 : i = b
  · subst k1; simp
  · rw [if_neg k1, show (i == b) = false by simp [k1], cond_false]
    by_cases k2 : i < b
    · rw [if_pos k2, if_pos (by omega)]
    · rw [if_neg k2, if_neg (by omega)]
theorem lastTerm_spec {b bt : Int} {l : Es} (h : Lg b bt l) : logs_LastTerm b bt l = some (term b bt l (b + l.length)).1 := by
  rw [logs_LastTerm_eq, last_spec h, Option.bind_some, term_spec h]; rfl
/-- The entries from a place on. -/
def from_ (b : Int) (l : Es) (i most : Int) : Es := if i ≤ b then [] else (l.drop (i - b - 1).toNat).take most.toNat
theorem sm_drop {l : Es} (h : Sm l) (n : Nat) : Sm (l.drop n) := ⟨by rw [List.length_drop]; have := h.1; omega, fun e he => h.2 e (List.mem_of_mem_drop he)⟩
theorem sm_take {l : Es} (h : Sm l) (n : Nat) : Sm (l.take n) := ⟨by rw [List.length_take]; have := h.1; omega, fun e he => h.2 e (List.mem_of_mem_take he)⟩
theorem sm_app {l m : Es} (h : Sm l) (k : Sm m) (hl : l.length + m.length ≤ 1000000) : Sm (l ++ m) := ⟨by rw [List.length_append]; exact hl, fun e he => (List.mem_append.1 he).elim (h.2 e) (k.2 e)⟩
theorem from_spec {b bt : Int} {l : Es} (h : Lg b bt l) (i most : Int) (hm : most ≤ 9223372036854775807) : logs_From b bt l i most = some (from_ b l i most) := by
  have g1 := h.b0; have g2 := h.b1; have g3 := h.len
  rw [logs_From_eq, last_spec h, from_]
  simp -implicitDefEqProofs only [Bool.cond_decide, Option.bind_some, ilen_eq]
  by_cases k1 : i ≤ b
  · rw [if_pos k1, if_pos k1]
  rw [if_neg k1, if_neg k1]
  by_cases k2 : i > b + l.length
  · rw [if_pos k2, List.drop_eq_nil_of_le (by omega)]; simp
  rw [if_neg k2]
  by_cases k3 : most ≤ 0
  · rw [if_pos k3, show most.toNat = 0 by omega]; simp
  rw [if_neg k3, wrap_i64 (x := i - b) (by omega) (by omega), wrap_i64 (x := i - b - 1) (by omega) (by omega), if_pos (by omega), if_pos (by omega), if_pos (by omega)]
  simp -implicitDefEqProofs only [Int.toNat_natCast, List.take_length, List.length_drop]
  have hd : ((l.length - (i - b - 1).toNat : Nat) : Int) = l.length - (i - b - 1) := by omega
  by_cases k4 : ((l.length - (i - b - 1).toNat : Nat) : Int) < most
  · rw [if_pos k4, if_pos (by omega), if_pos (by omega)]
    simp -implicitDefEqProofs only [Int.toNat_natCast]
    rw [show (Int.toNat 0) = 0 from rfl, List.drop_zero, copied_spec (sm_take (sm_drop h.sm _) _)]
    simp -implicitDefEqProofs only [Option.bind_some]
    rw [List.take_of_length_le (by simp), List.take_of_length_le (by simp; omega)]
  · rw [if_neg k4, if_pos (by omega), if_pos (by omega)]
    rw [show (Int.toNat 0) = 0 from rfl, List.drop_zero, copied_spec (sm_take (sm_drop h.sm _) _)]
    rfl
theorem refFrom_l0 {b bt : Int} {l : Es} (h : Lg b bt l) (k most : Int) (hk : b < k) : ∀ (r : Es) (i : Nat) (out : Es), l.drop i = r → out.length ≤ i → ref13_From_l0 k most i b bt l out = some (out ++ (r.drop (k - b - 1 - i).toNat).take (most.toNat - out.length)) := by
  have g1 := h.b0; have g2 := h.b1; have g3 := h.len
  intro r
  induction r with
  | nil =>
    intro i out hd ho
    have h1 := at_nil hd
    rw [ref13_From_l0_eq, ilen_eq]
    simp -implicitDefEqProofs only [Bool.cond_decide]
    rw [if_neg (by omega)]
    simp
  | cons x r ih =>
    intro i out hd ho
    obtain ⟨h1, h2, h3⟩ := at_drop hd
    rw [ref13_From_l0_eq, ilen_eq, ilen_eq]
    simp -implicitDefEqProofs only [Bool.cond_decide]
    rw [if_pos (by omega), wrap_i64 (x := b + 1) (by omega) (by omega), wrap_i64 (x := b + 1 + i) (by omega) (by omega), wrap_succ (by omega)]
    by_cases k1 : (out.length : Int) < most
    · rw [if_pos k1]
      by_cases k2 : b + 1 + i ≥ k
      · rw [if_pos k2, if_pos (by omega)]
        simp -implicitDefEqProofs only [Int.toNat_natCast, h2, Option.bind_some]
        rw [if_pos (show _ ≤ room by simp -implicitDefEqProofs only [ilen_eq, List.length_cons, List.length_nil, room_eq]; omega), ih (i + 1) _ h3 (by simp; omega)]
        rw [show (k - b - 1 - (i : Int)).toNat = 0 by omega, show (k - b - 1 - ((i + 1 : Nat) : Int)).toNat = 0 by omega]
        rw [show most.toNat - out.length = (most.toNat - out.length - 1) + 1 by omega]
        simp -implicitDefEqProofs only [List.drop_zero, List.take_succ_cons, List.length_append, List.length_cons, List.length_nil, Nat.zero_add, List.append_assoc, List.cons_append, List.nil_append]
        rw [show most.toNat - (out.length + 1) = most.toNat - out.length - 1 by omega]
      · rw [if_neg k2, ih (i + 1) _ h3 (by omega)]
        rw [show (k - b - 1 - (i : Int)).toNat = (k - b - 1 - ((i + 1 : Nat) : Int)).toNat + 1 by omega, List.drop_succ_cons]
    · rw [if_neg k1, show most.toNat - out.length = 0 by omega]
      simp
theorem refFrom_spec {b bt : Int} {l : Es} (h : Lg b bt l) (i most : Int) : ref13_From b bt l i most = some (from_ b l i most) := by
  rw [ref13_From_eq, from_]
  simp -implicitDefEqProofs only [Bool.cond_decide]
  by_cases k1 : i ≤ b
  · rw [if_pos k1, if_pos k1]
  · rw [if_neg k1, if_neg k1, show (0 : Int) = ((0 : Nat) : Int) from rfl, refFrom_l0 h i most (by omega) l 0 [] rfl (by simp)]
    simp
def newer (b bt : Int) (l : Es) (t i : Int) : Bool := decide (t > (term b bt l (b + l.length)).1) || (decide (t = (term b bt l (b + l.length)).1) && decide (i ≥ b + l.length))
theorem newer_spec {b bt : Int} {l : Es} (h : Lg b bt l) (t i : Int) : logs_Newer b bt l t i = some (newer b bt l t i) := by
  rw [logs_Newer_eq, lastTerm_spec h, newer]
  simp -implicitDefEqProofs only [Bool.cond_decide, Option.bind_some, last_spec h]
  generalize (term b bt l (b + l.length)).1 = m
  by_cases k1 : t > m
  · rw [if_pos k1]; simp [k1]
  · rw [if_neg k1]
    by_cases k2 : t = m
    · simp [k2]
    · rw [beq_no k2, cond_false]; simp [k1, k2]
theorem refNewer_spec {b bt : Int} {l : Es} (h : Lg b bt l) (t i : Int) : ref13_Newer b bt l t i = some (newer b bt l t i) := by
  rw [ref13_Newer_eq, refLast_spec h, newer]
  simp -implicitDefEqProofs only [Option.bind_some, refTerm_spec h]
  generalize (term b bt l (b + l.length)).1 = m
  by_cases k2 : t = m
  · subst k2; simp
  · rw [bne_yes k2, cond_true]; simp [k2]
/-- Are entries the same? -/
def eqv : Es → Es → Bool
  | [], [] => true
  | x :: r, y :: s => (x.1 == y.1) && ((strOf x.2).toList == (strOf y.2).toList) && eqv r s
  | _, _ => false
theorem eqv_refl : ∀ l : Es, eqv l l = true
  | [] => rfl
  | x :: r => by simp [eqv, eqv_refl r]
theorem eqv_len : ∀ {l m : Es}, l.length ≠ m.length → eqv l m = false
  | [], [], h => absurd rfl h
  | [], _ :: _, _ => rfl
  | _ :: _, [], _ => rfl
  | x :: r, y :: s, h => by simp [eqv, eqv_len (l := r) (m := s) (fun e => h (by simp [e]))]
theorem bytesEqual_spec (x y : List Int) : bytes_Equal x y = some ((strOf x).toList == (strOf y).toList) := by rw [bytes_Equal_eq]
theorem equal_l0 {l m : Es} (hl : l.length = m.length) (hs : l.length ≤ 1000000) : ∀ (r s : Es) (i : Nat), l.drop i = r → m.drop i = s → logs_EqualFunc_l0 m l l.length i = some (eqv r s) := by
  intro r
  induction r with
  | nil =>
    intro s i h k
    have h1 := at_nil h
    rw [logs_EqualFunc_l0_eq]
    simp -implicitDefEqProofs only [Bool.cond_decide]
    rw [if_neg (by omega), ← k, List.drop_eq_nil_of_le (by omega)]
    rfl
  | cons x r ih =>
    intro s i h k
    obtain ⟨h1, h2, h3⟩ := at_drop h
    cases s with
    | nil => have := at_nil k; omega
    | cons y s =>
      obtain ⟨k1, k2, k3⟩ := at_drop k
      rw [logs_EqualFunc_l0_eq]
      simp -implicitDefEqProofs only [Bool.cond_decide]
      rw [if_pos (by omega), if_pos (by omega)]
      simp -implicitDefEqProofs only [Int.toNat_natCast, h2, k2, Option.bind_some, bytesEqual_spec]
      rw [if_pos (by omega), wrap_succ (by omega), ih s (i + 1) h3 k3, eqv]
      cases (x.1 == y.1) <;> cases ((strOf x.2).toList == (strOf y.2).toList) <;> simp
theorem entries_l0 {l m : Es} (hl : l.length = m.length) (hs : l.length ≤ 1000000) : ∀ (r s : Es) (i : Nat), l.drop i = r → m.drop i = s → ref13_Entries_l0 l m i = some (eqv r s) := by
  intro r
  induction r with
  | nil =>
    intro s i h k
    have h1 := at_nil h
    rw [ref13_Entries_l0_eq, ilen_eq]
    simp -implicitDefEqProofs only [Bool.cond_decide]
    rw [if_neg (by omega), ← k, List.drop_eq_nil_of_le (by omega)]
    rfl
  | cons x r ih =>
    intro s i h k
    obtain ⟨h1, h2, h3⟩ := at_drop h
    cases s with
    | nil => have := at_nil k; omega
    | cons y s =>
      obtain ⟨k1, k2, k3⟩ := at_drop k
      rw [ref13_Entries_l0_eq, ilen_eq]
      simp -implicitDefEqProofs only [Bool.cond_decide]
      rw [if_pos (by omega), if_pos (by omega)]
      simp -implicitDefEqProofs only [Int.toNat_natCast, h2, k2, Option.bind_some]
      simp -implicitDefEqProofs only [if_pos (show (0 : Int) ≤ (i : Int) by omega)]
      rw [wrap_succ (by omega), ih s (i + 1) h3 k3, eqv]
      rw [bne]
      cases (x.1 == y.1) <;> cases ((strOf x.2).toList == (strOf y.2).toList) <;> rfl
theorem entries_spec {l m : Es} (hs : l.length ≤ 1000000) : ref13_Entries l m = some (eqv l m) := by
  rw [ref13_Entries_eq, ilen_eq, ilen_eq]
  by_cases hl : l.length = m.length
  · rw [show (0 : Int) = ((0 : Nat) : Int) from rfl, entries_l0 hl hs l m 0 rfl rfl]
    simp [hl]
  · rw [eqv_len hl, show ((l.length : Int) != m.length) = true by simp; omega]
    rfl
theorem equalFunc_spec {l m : Es} (hs : l.length ≤ 1000000) : logs_EqualFunc l m = some (eqv l m) := by
  rw [logs_EqualFunc_eq, ilen_eq, ilen_eq]
  by_cases hl : l.length = m.length
  · rw [show (0 : Int) = ((0 : Nat) : Int) from rfl, equal_l0 hl hs l m 0 rfl rfl]
    simp [hl]
  · rw [eqv_len hl, show ((l.length : Int) != m.length) = true by simp; omega]
    rfl
theorem same_spec {b t c u : Int} {l m : Es} (hs : l.length ≤ 1000000) : logs_Same b t l c u m = some (b == c && (t == u) && eqv l m) := by
  rw [logs_Same_eq, equalFunc_spec hs]
  cases (b == c) <;> cases (t == u) <;> rfl
theorem refSame_spec {b t c u : Int} {l m : Es} (hs : l.length ≤ 1000000) : ref13_Same b t l c u m = some (b == c && (t == u) && eqv l m) := by
  rw [ref13_Same_eq, entries_spec hs]
  cases (b == c) <;> cases (t == u) <;> rfl
end Go.Proofs.Ytbgbpdpaamlinaa.PE
