/- Timers: which may be, in which order; where one stands; one more. -/
import Derived.Test.YtocglpmgamhaeaaPackU
import Derived.Test.YtocglpmgamhaeaaEInsD
namespace Go.Proofs.Ytocglpmgamhaeaa.PE
set_option linter.unusedVariables false
abbrev T : Type := Int × Int × Int
def inR (a b c : Int) : Bool := decide (b ≤ a) && decide (a ≤ c)
def oneS (t : T) : Bool := inR t.1 0 1099511627776 && (inR t.2.1 1 1099511627776 && inR t.2.2 1 1099511627776)
/-- Which of two timers is the one ahead. -/
def lt (a b : T) : Prop := a.1 < b.1 ∨ (a.1 = b.1 ∧ (a.2.1 < b.2.1 ∨ (a.2.1 = b.2.1 ∧ a.2.2 < b.2.2)))
instance (a b : T) : Decidable (lt a b) := by unfold lt; exact inferInstance
theorem lt_trans {a b c : T} (h : lt a b) (k : lt b c) : lt a c := by unfold lt at *; omega
theorem lt_irr {a : T} : ¬ lt a a := by unfold lt; omega
theorem T_ext {a b : T} (h1 : a.1 = b.1) (h2 : a.2.1 = b.2.1) (h3 : a.2.2 = b.2.2) : a = b := by
  obtain ⟨a1, a2, a3⟩ := a; obtain ⟨b1, b2, b3⟩ := b; simp only at h1 h2 h3; subst h1; subst h2; subst h3; rfl
theorem lt_tri (a b : T) : lt a b ∨ a = b ∨ lt b a := by
  by_cases h : lt a b
  · exact .inl h
  · by_cases k : lt b a
    · exact .inr (.inr k)
    · refine .inr (.inl (T_ext ?_ ?_ ?_)) <;> (unfold lt at h k; omega)
theorem order_spec (a b : T) : timers_order a.1 a.2.1 a.2.2 b.1 b.2.1 b.2.2 = some (if lt a b then -1 else if a = b then 0 else 1) := by
  rw [timers_order_eq]
  simp -implicitDefEqProofs only [Bool.cond_decide]
  by_cases h : lt a b
  · rw [if_pos h]
    unfold lt at h
    by_cases h1 : a.1 < b.1
    · rw [if_pos h1]
    · rw [if_neg h1, if_neg (by omega)]
      by_cases h2 : a.2.1 < b.2.1
      · rw [if_pos h2]
      · rw [if_neg h2, if_neg (by omega), if_pos (by omega)]
  · rw [if_neg h]
    by_cases e : a = b
    · subst e
      rw [if_pos rfl, if_neg (by omega), if_neg (by omega), if_neg (by omega), if_neg (by omega), if_neg (by omega), if_neg (by omega)]
    · rw [if_neg e]
      have hb : lt b a := by rcases lt_tri a b with k | k | k; exact absurd k h; exact absurd k e; exact k
      unfold lt at hb
      rw [if_neg (by omega)]
      by_cases h1 : a.1 > b.1
      · rw [if_pos h1]
      · rw [if_neg h1, if_neg (by omega)]
        by_cases h2 : a.2.1 > b.2.1
        · rw [if_pos h2]
        · rw [if_neg h2, if_neg (by omega), if_pos (by omega)]
theorem ahead_spec (a b : T) : ref20_Ahead a.1 a.2.1 a.2.2 b.1 b.2.1 b.2.2 = some (decide (lt a b)) := by
  rw [ref20_Ahead_eq]
  by_cases h1 : a.1 = b.1
  · rw [bne_no h1, cond_false]
    by_cases h2 : a.2.1 = b.2.1
    · rw [bne_no h2, cond_false]
      congr 1
      rw [decide_eq_decide]; unfold lt; omega
    · rw [bne_yes h2, cond_true]
      congr 1
      rw [decide_eq_decide]; unfold lt; omega
  · rw [bne_yes h1, cond_true]
    congr 1
    rw [decide_eq_decide]; unfold lt; omega
theorem one_spec (t : T) : timers_one t.1 t.2.1 t.2.2 = some (oneS t) := by
  rw [timers_one_eq, oneS, inR, inR, inR]
  simp -implicitDefEqProofs only [Bool.cond_decide]
  by_cases h1 : t.1 < 0
  · rw [if_pos h1, decide_eq_false (show ¬ 0 ≤ t.1 by omega)]; rfl
  rw [if_neg h1, decide_eq_true (show 0 ≤ t.1 by omega)]
  by_cases h2 : t.1 > 1099511627776
  · rw [if_pos h2, decide_eq_false (show ¬ t.1 ≤ 1099511627776 by omega)]; rfl
  rw [if_neg h2, decide_eq_true (show t.1 ≤ 1099511627776 by omega)]
  by_cases h3 : t.2.1 < 1
  · rw [if_pos h3, decide_eq_false (show ¬ 1 ≤ t.2.1 by omega)]; rfl
  rw [if_neg h3, decide_eq_true (show 1 ≤ t.2.1 by omega)]
  by_cases h4 : t.2.1 > 1099511627776
  · rw [if_pos h4, decide_eq_false (show ¬ t.2.1 ≤ 1099511627776 by omega)]; rfl
  rw [if_neg h4, decide_eq_true (show t.2.1 ≤ 1099511627776 by omega)]
  by_cases h5 : t.2.2 < 1
  · rw [if_pos h5, decide_eq_false (show ¬ 1 ≤ t.2.2 by omega)]; rfl
  rw [if_neg h5, decide_eq_true (show 1 ≤ t.2.2 by omega)]
  by_cases h6 : t.2.2 > 1099511627776
  · rw [if_pos h6, decide_eq_false (show ¬ t.2.2 ≤ 1099511627776 by omega)]; rfl
  rw [if_neg h6, decide_eq_true (show t.2.2 ≤ 1099511627776 by omega)]; rfl
theorem refOne_spec (t : T) : ref20_One t.1 t.2.1 t.2.2 = some (oneS t) := by
  rw [ref20_One_eq, oneS, inR, inR, inR]
  rw [show decide (t.1 ≥ 0) = decide (0 ≤ t.1) from rfl, show decide (t.2.1 ≥ 1) = decide (1 ≤ t.2.1) from rfl, show decide (t.2.2 ≥ 1) = decide (1 ≤ t.2.2) from rfl]
  cases decide (0 ≤ t.1) <;> cases decide (t.1 ≤ 1099511627776) <;> cases decide (1 ≤ t.2.1) <;> cases decide (t.2.1 ≤ 1099511627776) <;> cases decide (1 ≤ t.2.2) <;> rfl
/-- Timers that may be, behind one. -/
def up : Option T → List T → Bool
  | _, [] => true
  | none, x :: r => oneS x && up (some x) r
  | some q, x :: r => oneS x && (decide (lt q x) && up (some x) r)
def prev (l : List T) : Nat → Option T
  | 0 => none
  | k + 1 => l[k]?
theorem check_l0 {l : List T} (hl : l.length ≤ 1000000) : ∀ (r : List T) (i : Nat), l.drop i = r → timers_Check_l0 l l l.length i = some (bif up (prev l i) r then 0 else 1) := by
  intro r
  induction r with
  | nil =>
    intro i h
    have h1 := at_nil h
    rw [timers_Check_l0_eq, decide_eq_false (by omega), cond_false]
    cases prev l i <;> rfl
  | cons x r ih =>
    intro i h
    obtain ⟨h1, h2, h3⟩ := at_drop h
    rw [timers_Check_l0_eq, decide_eq_true (by omega), cond_true, decide_eq_true (by omega), cond_true, Int.toNat_natCast, h2, Option.bind_some, one_spec, Option.bind_some, wrap_succ (by omega), ih (i + 1) h3, show prev l (i + 1) = some x from h2]
    cases i with
    | zero =>
      rw [decide_eq_false (show ¬ ((0 : Nat) : Int) > 0 by decide), cond_false]
      show _ = some (bif oneS x && up (some x) r then 0 else 1)
      cases oneS x <;> rfl
    | succ k =>
      have hk : k < l.length := by omega
      rw [decide_eq_true (show ((k + 1 : Nat) : Int) > 0 by omega), cond_true, wrap_i64 (by omega) (by omega), decide_eq_true (show (0 : Int) ≤ ((k + 1 : Nat) : Int) - 1 by omega), cond_true, show (((k + 1 : Nat) : Int) - 1).toNat = k by omega, List.getElem?_eq_getElem hk, Option.bind_some, order_spec, Option.bind_some,
        show prev l (k + 1) = some l[k] from List.getElem?_eq_getElem hk]
      show _ = some (bif oneS x && (decide (lt l[k] x) && up (some x) r) then 0 else 1)
      cases oneS x with
      | false => rfl
      | true =>
        rw [Bool.not_true, cond_false, Bool.true_and]
        by_cases hx : lt l[k] x
        · rw [if_pos hx, decide_eq_true hx]; rfl
        · rw [if_neg hx, decide_eq_false hx]
          by_cases e : l[k] = x
          · rw [if_pos e]; rfl
          · rw [if_neg e]; rfl
theorem check_spec {l : List T} (hl : l.length ≤ 1000000) : timers_Check l = some (bif up none l then 0 else 1) := by
  have := check_l0 hl l 0 rfl
  rw [timers_Check_eq, ilen_eq]
  exact this
theorem refCheck_l0 {l : List T} (hl : l.length ≤ 1000000) : ∀ (r : List T) (i : Nat), l.drop i = r → ref20_Check_l0 l i = some (bif up (prev l i) r then 0 else 1) := by
  intro r
  induction r with
  | nil =>
    intro i h
    have h1 := at_nil h
    rw [ref20_Check_l0_eq, ilen_eq, decide_eq_false (by omega), cond_false]
    cases prev l i <;> rfl
  | cons x r ih =>
    intro i h
    obtain ⟨h1, h2, h3⟩ := at_drop h
    rw [ref20_Check_l0_eq, ilen_eq, decide_eq_true (show (i : Int) < _ by omega), cond_true, decide_eq_true (show (0 : Int) ≤ (i : Int) by omega), cond_true, Int.toNat_natCast, h2, Option.bind_some, refOne_spec, Option.bind_some, wrap_succ (by omega), ih (i + 1) h3, show prev l (i + 1) = some x from h2]
    cases i with
    | zero =>
      rw [decide_eq_false (show ¬ ((0 : Nat) : Int) > 0 by decide), cond_false]
      show _ = some (bif oneS x && up (some x) r then 0 else 1)
      cases oneS x <;> rfl
    | succ k =>
      have hk : k < l.length := by omega
      rw [decide_eq_true (show ((k + 1 : Nat) : Int) > 0 by omega), cond_true, wrap_i64 (by omega) (by omega), decide_eq_true (show (0 : Int) ≤ ((k + 1 : Nat) : Int) - 1 by omega), cond_true, show (((k + 1 : Nat) : Int) - 1).toNat = k by omega, List.getElem?_eq_getElem hk, Option.bind_some, cond_true, Option.bind_some, ahead_spec, Option.bind_some,
        show prev l (k + 1) = some l[k] from List.getElem?_eq_getElem hk]
      show _ = some (bif oneS x && (decide (lt l[k] x) && up (some x) r) then 0 else 1)
      cases oneS x <;> cases decide (lt l[k] x) <;> rfl
theorem refCheck_spec {l : List T} (hl : l.length ≤ 1000000) : ref20_Check l = some (bif up none l then 0 else 1) := by
  have := refCheck_l0 hl l 0 rfl
  rw [ref20_Check_eq]
  exact this
theorem may_spec (l : List T) : ∃ v, law20_may l = some v ∧ (v = true → l.length ≤ 200 ∧ up none l = true) := by
  rw [law20_may_eq, ilen_eq]
  by_cases h : (l.length : Int) ≤ 200
  · rw [decide_eq_true h, cond_true, refCheck_spec (by omega), Option.bind_some]
    refine ⟨_, rfl, fun hv => ⟨by omega, ?_⟩⟩
    cases hu : up none l with
    | true => rfl
    | false => rw [hu] at hv; cases hv
  · rw [decide_eq_false h]
    exact ⟨false, rfl, fun hv => by cases hv⟩
end Go.Proofs.Ytocglpmgamhaeaa.PE
