/- Logs: entries put behind a place; logs made shorter. -/
import Derived.Test.YtbgbpdpaamlinaaP13b
namespace Go.Proofs.Ytbgbpdpaamlinaa.PE
set_option linter.unusedVariables false
theorem cut_l0 {b bt : Int} {l : Es} (h : Lg b bt l) (k : Int) : ∀ (r : Es) (i : Nat) (out : Es), l.drop i = r → out.length = i → ref13_cut_l0 k i b bt l out = some (out ++ r.take (k - b - i).toNat) := by
  have g1 := h.b0; have g2 := h.b1; have g3 := h.len
  intro r
  induction r with
  | nil =>
    intro i out hd ho
    have h1 := at_nil hd
    rw [ref13_cut_l0_eq, ilen_eq]
    simp -implicitDefEqProofs only [Bool.cond_decide]
    rw [if_neg (by omega)]
    simp
  | cons x r ih =>
    intro i out hd ho
    obtain ⟨h1, h2, h3⟩ := at_drop hd
    rw [ref13_cut_l0_eq, ilen_eq, ilen_eq]
    simp -implicitDefEqProofs only [Bool.cond_decide]
    rw [if_pos (by omega), wrap_i64 (x := b + 1) (by omega) (by omega), wrap_i64 (x := b + 1 + i) (by omega) (by omega), wrap_succ (by omega)]
    by_cases k1 : b + 1 + i ≤ k
    · rw [if_pos k1, if_pos (by omega)]
      simp -implicitDefEqProofs only [Int.toNat_natCast, h2, Option.bind_some]
      rw [if_pos (show _ ≤ room by simp -implicitDefEqProofs only [ilen_eq, List.length_cons, List.length_nil, room_eq]; omega), ih (i + 1) _ h3 (by simp; omega), show (k - b - (i : Int)).toNat = (k - b - ((i + 1 : Nat) : Int)).toNat + 1 by omega]
      simp
    · rw [if_neg k1, show (k - b - (i : Int)).toNat = 0 by omega]
      simp
theorem cut_spec {b bt : Int} {l : Es} (h : Lg b bt l) (k : Int) : ref13_cut b bt l k = some (l.take (k - b).toNat) := by
  rw [ref13_cut_eq, show (0 : Int) = ((0 : Nat) : Int) from rfl, cut_l0 h k l 0 [] rfl rfl]
  simp
/-- The place ahead of all entries side by side that have a term. -/
def hintF (b bt : Int) (l : Es) (mine : Int) : Nat → Int
  | 0 => b
  | n + 1 => if (term b bt l (b + n + 1)).1 = mine then hintF b bt l mine n else b + n + 1
theorem term_base (b bt : Int) (l : Es) : term b bt l b = (bt, true) := by rw [term, if_pos rfl]
theorem term_in {b bt : Int} {l : Es} {n : Nat} (h : n < l.length) : term b bt l (b + n + 1) = (l[n].1, true) := by
  rw [term, if_neg (by omega), if_neg (by omega), show (b + (n : Int) + 1 - b - 1).toNat = n by omega, List.getElem?_eq_getElem h]
theorem putHint {b bt : Int} {l : Es} (h : Lg b bt l) (mine z z' : Int) : ∀ n : Nat, n ≤ l.length → logs_Put_l0 mine (b + n) (term b bt l (b + n)).1 (term b bt l (b + n)).2 b bt l z z' = some (b, bt, l, hintF b bt l mine n, false) := by
  have g1 := h.b0; have g2 := h.b1; have g3 := h.len
  intro n
  induction n with
  | zero =>
    intro _
    rw [logs_Put_l0_eq]
    simp -implicitDefEqProofs only [Bool.cond_decide, copy_spec h.sm, Option.bind_some, Int.natCast_zero, Int.add_zero, term_base, cond_true, hintF]
    rw [if_neg (by omega), if_neg (by omega)]
    cases (bt == mine) <;> rfl
  | succ n ih =>
    intro hn
    rw [logs_Put_l0_eq, show b + ((n + 1 : Nat) : Int) = b + n + 1 by omega, hintF]
    simp -implicitDefEqProofs only [Bool.cond_decide, copy_spec h.sm, Option.bind_some, term_in (show n < l.length by omega), cond_true]
    rw [if_pos (by omega), wrap_i64 (by omega) (by omega), show b + (n : Int) + 1 - 1 = b + n by omega, term_spec h, Option.bind_some, ih (by omega)]
    by_cases k : (l[n]'(by omega)).1 = mine
    · rw [beq_yes k, cond_true, if_pos k]
    · rw [beq_no k, cond_false, if_neg k, if_neg (by omega)]
theorem refHint {b bt : Int} {l : Es} (h : Lg b bt l) (mine : Int) : ∀ n : Nat, n ≤ l.length → ref13_hint_l0 mine (b + n) b bt l = some (hintF b bt l mine n) := by
  have g1 := h.b0; have g2 := h.b1; have g3 := h.len
  intro n
  induction n with
  | zero =>
    intro _
    rw [ref13_hint_l0_eq]
    simp -implicitDefEqProofs only [Bool.cond_decide, Int.natCast_zero, Int.add_zero, hintF]
    rw [if_neg (by omega), if_neg (by omega)]
  | succ n ih =>
    intro hn
    rw [ref13_hint_l0_eq, show b + ((n + 1 : Nat) : Int) = b + n + 1 by omega, hintF]
    simp -implicitDefEqProofs only [Bool.cond_decide, refTerm_spec h, Option.bind_some, term_in (show n < l.length by omega)]
    rw [if_pos (by omega), wrap_i64 (by omega) (by omega), show b + (n : Int) + 1 - 1 = b + n by omega, ih (by omega)]
    by_cases k : (l[n]'(by omega)).1 = mine
    · rw [bne_no k, cond_false, if_pos k]
    · rw [bne_yes k, cond_true, if_neg k, if_neg (by omega)]
/-- Entries, put behind a place. -/
def putGo (l : Es) : Nat → Es → Es
  | _, [] => l
  | k, x :: r => if (l[k]?.map (·.1)) = some x.1 then putGo l (k + 1) r else l.take k ++ x :: r
theorem put_l2 {b bt i0 z z' : Int} {l es : Es} (h : Lg b bt l) (hs : Sm es) (hi0 : b ≤ i0) (hi1 : i0 ≤ b + l.length) : ∀ (r : Es) (i : Nat), es.drop i = r → i ≤ es.length → (i0 - b).toNat + i ≤ l.length →
    logs_Put_l2 i0 es es es.length i b bt l z z' b bt l = some (b, bt, putGo l ((i0 - b).toNat + i) r, i0 + es.length, true) := by
  have g1 := h.b0; have g2 := h.b1; have g3 := h.len; have g4 := hs.1
  intro r
  induction r with
  | nil =>
    intro i hd hi hk
    have h1 := at_nil hd
    rw [logs_Put_l2_eq, ilen_eq, ilen_eq]
    simp -implicitDefEqProofs only [Bool.cond_decide]
    rw [if_neg (by omega), wrap_i64 (x := i0 + es.length) (by omega) (by omega)]
    rfl
  | cons x r ih =>
    intro i hd hi hk
    obtain ⟨h1, h2, h3⟩ := at_drop hd
    rw [logs_Put_l2_eq, ilen_eq, ilen_eq]
    simp -implicitDefEqProofs only [Bool.cond_decide]
    rw [wrap_i64 (x := i0 + i) (by omega) (by omega), wrap_i64 (x := i0 + i - b) (by omega) (by omega), wrap_succ (by omega), wrap_i64 (x := i0 + es.length) (by omega) (by omega)]
    simp -implicitDefEqProofs only [Int.toNat_natCast, h2, Option.bind_some, List.take_length, copied_spec (sm_drop hs i), if_pos (show (i : Int) < es.length by omega), if_pos (show (0 : Int) ≤ i by omega), if_pos (show (0 : Int) ≤ i0 + i - b by omega),
      if_pos (show (i : Int) ≤ es.length by omega), if_pos (show (es.length : Int) ≤ es.length by omega), ilen_eq, show (i0 + (i : Int) - b).toNat = (i0 - b).toNat + i by omega, show Int.toNat 0 = 0 from rfl, Nat.sub_zero, List.length_drop, List.length_take]
    rw [putGo]
    by_cases k1 : (i0 - b).toNat + i < l.length
    · rw [if_pos (by omega), if_pos (by omega), List.getElem?_eq_getElem k1]
      simp -implicitDefEqProofs only [Option.bind_some, Option.map_some, Option.some.injEq]
      by_cases k2 : (l[(i0 - b).toNat + i]).1 = x.1
      · rw [if_pos k2, beq_yes k2, cond_true, ih (i + 1) h3 (by omega) (by omega)]
        rfl
      · rw [if_neg k2, beq_no k2, cond_false, if_pos (by omega), Nat.ble_eq_true_of_le (by omega), cond_true, if_pos (show _ ≤ room by rw [room_eq]; omega), hd]
    · rw [if_neg (by omega), if_pos (show _ ≤ room by rw [room_eq]; omega), List.getElem?_eq_none (by omega)]
      rw [if_neg (by simp), hd, List.take_of_length_le (by omega)]
theorem refPut_l0 {b bt i0 z z' : Int} {l es : Es} (h : Lg b bt l) (hs : Sm es) (hi0 : b ≤ i0) (hi1 : i0 ≤ b + l.length) (e : Int) : ∀ (r : Es) (i : Nat), es.drop i = r → i ≤ es.length → (i0 - b).toNat + i ≤ l.length →
    ref13_Put_l0 i0 es e i b bt l z z' = some (b, bt, putGo l ((i0 - b).toNat + i) r, e, true) := by
  have g1 := h.b0; have g2 := h.b1; have g3 := h.len; have g4 := hs.1
  intro r
  induction r with
  | nil =>
    intro i hd hi hk
    have h1 := at_nil hd
    rw [ref13_Put_l0_eq, ilen_eq]
    simp -implicitDefEqProofs only [Bool.cond_decide]
    rw [if_neg (by omega)]
    rfl
  | cons x r ih =>
    intro i hd hi hk
    obtain ⟨h1, h2, h3⟩ := at_drop hd
    rw [ref13_Put_l0_eq, ilen_eq]
    simp -implicitDefEqProofs only [Bool.cond_decide]
    rw [wrap_i64 (x := i0 + 1) (by omega) (by omega), wrap_i64 (x := i0 + 1 + i) (by omega) (by omega), wrap_succ (by omega), wrap_i64 (x := i0 + i) (by omega) (by omega), refTerm_spec h, cut_spec h]
    have ht : term b bt l (i0 + 1 + i) = match l[(i0 - b).toNat + i]? with
        | some e => (e.1, true)
        | none => (0, false) := by
      rw [term, if_neg (by omega), if_neg (by omega), show (i0 + 1 + (i : Int) - b - 1).toNat = (i0 - b).toNat + i by omega]
      rfl
    rw [ht]
    simp -implicitDefEqProofs only [Int.toNat_natCast, h2, Option.bind_some, List.take_length, if_pos (show (i : Int) < es.length by omega), if_pos (show (0 : Int) ≤ i by omega),
      if_pos (show (i : Int) ≤ es.length by omega), if_pos (show (es.length : Int) ≤ es.length by omega), ilen_eq, List.length_drop, List.length_take, List.nil_append, show (i0 + (i : Int) - b).toNat = (i0 - b).toNat + i by omega]
    rw [putGo, if_pos (show _ ≤ room by rw [room_eq]; omega), if_pos (show _ ≤ room by rw [room_eq]; omega), hd]
    by_cases k1 : (i0 - b).toNat + i < l.length
    · rw [List.getElem?_eq_getElem k1]
      simp -implicitDefEqProofs only [Option.map_some, Option.some.injEq, cond_true]
      by_cases k2 : (l[(i0 - b).toNat + i]).1 = x.1
      · rw [if_pos k2, beq_yes k2, cond_true, ih (i + 1) h3 (by omega) (by omega)]
        rfl
      · rw [if_neg k2, beq_no k2, cond_false]
    · rw [List.getElem?_eq_none (by omega), if_neg (by simp)]
      simp -implicitDefEqProofs only [cond_false]
def putAt (b bt : Int) (l : Es) (i t : Int) (es : Es) : Es × Int × Bool :=
  if (term b bt l i).2 = false then (l, b + l.length, false)
  else if (term b bt l i).1 = t then (putGo l (i - b).toNat es, i + es.length, true)
  else (l, hintF b bt l (term b bt l i).1 (i - 1 - b).toNat, false)
theorem term_range {b bt : Int} {l : Es} {i : Int} (h : (term b bt l i).2 = true) : b ≤ i ∧ i ≤ b + l.length := by
  rw [term] at h
  split at h
  · omega
  · split at h
    · cases h
    · split at h
      · rename_i e he
        have := (List.getElem?_eq_some_iff.1 he).1
        omega
      · cases h
theorem put_r6 {b bt i t z z' : Int} {l es : Es} (h : Lg b bt l) (hs : Sm es) (hi : -4611686018427387904 ≤ i) : logs_Put_r6 i t es b bt l z z' = some (b, bt, putAt b bt l i t es) := by
  have g1 := h.b0; have g2 := h.b1; have g3 := h.len; have g4 := hs.1
  rw [logs_Put_r6_eq, term_spec h, Option.bind_some, putAt]
  simp -implicitDefEqProofs only [copy_spec h.sm, last_spec h, Option.bind_some]
  cases k1 : (term b bt l i).2 with
  | false => simp
  | true =>
    obtain ⟨r1, r2⟩ := term_range k1
    simp -implicitDefEqProofs only [Bool.not_true, cond_false, Bool.true_eq_false, if_false]
    by_cases k2 : (term b bt l i).1 = t
    · rw [if_pos k2, bne_no k2, cond_false, ilen_eq, show (0 : Int) = ((0 : Nat) : Int) from rfl, put_l2 h hs r1 r2 es 0 rfl (by omega) (by omega)]
      rfl
    · rw [if_neg k2, bne_yes k2, cond_true, wrap_i64 (by omega) (by omega), term_spec h, Option.bind_some]
      by_cases k3 : i = b
      · rw [show (term b bt l (i - 1)) = (0, false) by rw [term, if_neg (by omega), if_pos (by omega)], logs_Put_l0_eq]
        simp -implicitDefEqProofs only [cond_false, copy_spec h.sm, Option.bind_some]
        rw [if_pos (by omega), show (i - 1 - b).toNat = 0 by omega]
        rfl
      · have := putHint h (term b bt l i).1 z z' (i - 1 - b).toNat (by omega)
        rw [show b + ((i - 1 - b).toNat : Int) = i - 1 by omega] at this
        rw [this]
theorem refPut_r10 {b bt i t z z' : Int} {l es : Es} (h : Lg b bt l) (hs : Sm es) (hi : -4611686018427387904 ≤ i) : ref13_Put_r10 i t es b bt l z z' = some (b, bt, putAt b bt l i t es) := by
  have g1 := h.b0; have g2 := h.b1; have g3 := h.len; have g4 := hs.1
  rw [ref13_Put_r10_eq, refTerm_spec h, Option.bind_some, putAt]
  simp -implicitDefEqProofs only [refLast_spec h, Option.bind_some]
  cases k1 : (term b bt l i).2 with
  | false => simp
  | true =>
    obtain ⟨r1, r2⟩ := term_range k1
    simp -implicitDefEqProofs only [Bool.not_true, cond_false, Bool.true_eq_false, if_false]
    by_cases k2 : (term b bt l i).1 = t
    · rw [if_pos k2, bne_no k2, cond_false, ilen_eq, show (0 : Int) = ((0 : Nat) : Int) from rfl, refPut_l0 h hs r1 r2 _ es 0 rfl (by omega) (by omega), wrap_i64 (by omega) (by omega)]
      rfl
    · rw [if_neg k2, bne_yes k2, cond_true, ref13_hint_eq, refTerm_spec h, Option.bind_some, wrap_i64 (by omega) (by omega)]
      by_cases k3 : i = b
      · rw [ref13_hint_l0_eq]
        simp -implicitDefEqProofs only [Bool.cond_decide]
        rw [if_neg (by omega), if_pos (by omega), show (i - 1 - b).toNat = 0 by omega]
        rfl
      · have := refHint h (term b bt l i).1 (i - 1 - b).toNat (by omega)
        rw [show b + ((i - 1 - b).toNat : Int) = i - 1 by omega] at this
        rw [this]
        rfl
def put (b bt : Int) (l : Es) (i t : Int) (es : Es) : Es × Int × Bool := if i < b then (if b - i > es.length then (l, b, true) else putAt b bt l b bt (es.drop (b - i).toNat)) else putAt b bt l i t es
theorem put_spec {b bt i t : Int} {l es : Es} (h : Lg b bt l) (hs : Sm es) (hi : -4611686018427387904 ≤ i) : logs_Put b bt l i t es = some (b, bt, put b bt l i t es) := by
  have g1 := h.b0; have g2 := h.b1; have g3 := h.len; have g4 := hs.1
  rw [logs_Put_eq, put]
  simp -implicitDefEqProofs only [Bool.cond_decide, ilen_eq, copy_spec h.sm, Option.bind_some, Int.toNat_natCast, List.take_length]
  by_cases k1 : i < b
  · rw [if_pos k1, if_pos k1, wrap_i64 (x := b - i) (by omega) (by omega)]
    by_cases k2 : b - i > es.length
    · rw [if_pos k2, if_pos k2]
    · rw [if_neg k2, if_neg k2, if_pos (by omega), if_pos (by omega), if_pos (by omega), put_r6 h (sm_drop hs _) (by omega)]
  · rw [if_neg k1, if_neg k1, put_r6 h hs hi]
theorem refPut_spec {b bt i t : Int} {l es : Es} (h : Lg b bt l) (hs : Sm es) (hi : -4611686018427387904 ≤ i) : ref13_Put b bt l i t es = some (b, bt, put b bt l i t es) := by
  have g1 := h.b0; have g2 := h.b1; have g3 := h.len; have g4 := hs.1
  rw [ref13_Put_eq, put]
  simp -implicitDefEqProofs only [Bool.cond_decide, ilen_eq, Int.toNat_natCast, List.take_length]
  by_cases k1 : i < b
  · rw [if_pos k1, if_pos k1, wrap_i64 (x := b - i) (by omega) (by omega)]
    by_cases k2 : b - i > es.length
    · rw [if_pos k2, if_pos k2]
    · rw [if_neg k2, if_neg k2, if_pos (by omega), if_pos (by omega), if_pos (by omega), refPut_r10 h (sm_drop hs _) (by omega)]
  · rw [if_neg k1, if_neg k1, refPut_r10 h hs hi]
def compact (b bt : Int) (l : Es) (i : Int) : Int × Int × Es × Int := if (term b bt l i).2 = false then (0, 0, [], 2) else (i, (term b bt l i).1, l.drop (i - b).toNat, 0)
theorem compact_spec {b bt : Int} {l : Es} (h : Lg b bt l) (i : Int) : logs_Compact b bt l i = some (compact b bt l i) := by
  have g1 := h.b0; have g2 := h.b1; have g3 := h.len
  rw [logs_Compact_eq, term_spec h, Option.bind_some, compact]
  cases k1 : (term b bt l i).2 with
  | false => simp
  | true =>
    obtain ⟨r1, r2⟩ := term_range k1
    simp -implicitDefEqProofs only [Bool.not_true, cond_false, Bool.true_eq_false, if_false, Bool.cond_decide, ilen_eq, Int.toNat_natCast, List.take_length]
    rw [wrap_i64 (x := i - b) (by omega) (by omega), if_pos (by omega), if_pos (by omega), if_pos (by omega), copied_spec (sm_drop h.sm _)]
    rfl
theorem refCompact_spec {b bt : Int} {l : Es} (h : Lg b bt l) (i : Int) : ref13_Compact b bt l i = some (compact b bt l i) := by
  have g1 := h.b0; have g2 := h.b1; have g3 := h.len
  rw [ref13_Compact_eq, refTerm_spec h, Option.bind_some, compact]
  cases k1 : (term b bt l i).2 with
  | false => simp
  | true =>
    obtain ⟨r1, r2⟩ := term_range k1
    simp -implicitDefEqProofs only [Bool.not_true, cond_false, Bool.true_eq_false, if_false]
    rw [wrap_i64 (by omega) (by omega), ilen_eq, refFrom_spec h, from_, if_neg (by omega), show (i + 1 - b - 1).toNat = (i - b).toNat by omega, List.take_of_length_le (by simp)]
    rfl
def reset (b bt : Int) (l : Es) (i t : Int) : Int × Int × Es := if (term b bt l i).2 = true ∧ (term b bt l i).1 = t then (i, t, l.drop (i - b).toNat) else (i, t, [])
theorem reset_spec {b bt : Int} {l : Es} (h : Lg b bt l) (i t : Int) : logs_Reset b bt l i t = some (reset b bt l i t) := by
  rw [logs_Reset_eq, term_spec h, Option.bind_some, reset, compact_spec h, compact]
  cases k1 : (term b bt l i).2 with
  | false => simp
  | true =>
    by_cases k2 : (term b bt l i).1 = t
    · simp [k2]
    · simp [beq_no k2, k2]
theorem refReset_spec {b bt : Int} {l : Es} (h : Lg b bt l) (i t : Int) : ref13_Reset b bt l i t = some (reset b bt l i t) := by
  have g1 := h.b0; have g2 := h.b1; have g3 := h.len
  rw [ref13_Reset_eq, refTerm_spec h, Option.bind_some, reset]
  cases k1 : (term b bt l i).2 with
  | false => simp
  | true =>
    obtain ⟨r1, r2⟩ := term_range k1
    rw [wrap_i64 (by omega) (by omega), ilen_eq, refFrom_spec h, from_, if_neg (by omega), show (i + 1 - b - 1).toNat = (i - b).toNat by omega, List.take_of_length_le (by simp)]
    by_cases k2 : (term b bt l i).1 = t
    · simp [k2]
    · simp [beq_no k2, k2]
theorem behind_spec {b bt t : Int} {l : Es} {d : List Int} (h : Lg b bt l) (hd : d.length ≤ 1000000) : logs_Behind b bt l t d = some (b, bt, l ++ [(t, d)]) := by
  have g3 := h.len
  rw [logs_Behind_eq, copy_spec h.sm, Option.bind_some, clone_spec hd, Option.bind_some]
  rw [Bool.cond_decide, if_pos (show _ ≤ room by simp -implicitDefEqProofs only [ilen_eq, List.length_cons, List.length_nil, room_eq]; omega)]
end Go.Proofs.Ytbgbpdpaamlinaa.PE
