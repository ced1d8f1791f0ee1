/- Logs: what the functions of the chapter and of its document come to. -/
import Derived.Test.YtbgbpdpaamlinaaX13
import Derived.Test.YtbgbpdpaamlinaaELib
namespace Go.Proofs.Ytbgbpdpaamlinaa.PE
set_option linter.unusedVariables false
abbrev TE : Type := Int × List Int
abbrev Es : Type := List TE
def wt : Es → Nat
  | [] => 0
  | e :: r => 1 + e.2.length / 20 + wt r
def Big (l : Es) : Prop := l.length ≤ 140737488351232 ∧ ∀ e ∈ l, e.2.length ≤ 140737488351232
def Sm (l : Es) : Prop := l.length ≤ 1000000 ∧ ∀ e ∈ l, e.2.length ≤ 1000000
theorem weight_l0 {l : Es} {m : Int} (hm : m ≤ 1000) (hb : Big l) : ∀ (r : Es) (i n : Nat), l.drop i = r → ∃ k : Int, ref13_Weight_l0 l m n i = some k ∧ (k ≤ m → k = n + wt r) := by
  obtain ⟨hb1, hb2⟩ := hb
  intro r
  induction r with
  | nil =>
    intro i n h
    have h1 := at_nil h
    refine ⟨n, ?_, by simp [wt]⟩
    rw [ref13_Weight_l0_eq, ilen_eq]
    simp -implicitDefEqProofs only [Bool.cond_decide]
    rw [if_neg (by omega)]
  | cons x r ih =>
    intro i n h
    obtain ⟨h1, h2, h3⟩ := at_drop h
    have hx := hb2 x (List.mem_of_getElem? h2)
    rw [ref13_Weight_l0_eq, ilen_eq]
    simp -implicitDefEqProofs only [Bool.cond_decide]
    rw [if_pos (by omega)]
    by_cases hn : (n : Int) ≤ m
    · rw [if_pos hn, if_pos (by omega)]
      simp -implicitDefEqProofs only [Int.toNat_natCast, h2, Option.bind_some, ilen_eq]
      rw [Int.tdiv_eq_ediv_of_nonneg (by omega), wrap_i64 (x := (n : Int) + 1) (by omega) (by omega), wrap_i64 (x := (x.2.length : Int) / 20) (by omega) (by omega), wrap_i64 (x := (n : Int) + 1 + _) (by omega) (by omega), wrap_succ (by omega)]
      obtain ⟨k, k1, k2⟩ := ih (i + 1) (n + 1 + x.2.length / 20) h3
      refine ⟨k, ?_, fun hk => ?_⟩
      · rw [← k1]; congr 1
      · rw [k2 hk, wt]; omega
    · rw [if_neg hn]
      exact ⟨n, rfl, fun h => absurd h hn⟩
theorem weight_spec {l : Es} (hb : Big l) : ∃ k : Int, ref13_Weight l 300 = some k ∧ (k ≤ 300 → k = wt l) := by
  obtain ⟨k, h1, h2⟩ := weight_l0 (m := 300) (by omega) hb l 0 0 rfl
  refine ⟨k, ?_, fun h => ?_⟩
  · rw [ref13_Weight_eq]; exact h1
  · have := h2 h; omega
theorem wt_sm : ∀ {l : Es} {n : Nat}, wt l ≤ n → l.length ≤ n ∧ ∀ e ∈ l, e.2.length ≤ 20 * n
  | [], n, h => ⟨Nat.zero_le _, fun _ h => by cases h⟩
  | e :: r, n, h => by
    rw [wt] at h
    obtain ⟨h1, h2⟩ := wt_sm (l := r) (n := n - 1) (by omega)
    refine ⟨by rw [List.length_cons]; omega, fun x hx => ?_⟩
    rcases List.mem_cons.1 hx with rfl | hx
    · omega
    · have := h2 x hx; omega
theorem sm_of_wt {l : Es} (h : wt l ≤ 300) : Sm l ∧ l.length ≤ 300 := by
  obtain ⟨h1, h2⟩ := wt_sm h
  exact ⟨⟨by omega, fun e he => by have := h2 e he; omega⟩, h1⟩
theorem clone_spec {x : List Int} (h : x.length ≤ 1000000) : slices_Clone x = some x := by
  rw [slices_Clone_eq, room_dec (by rw [ilen_eq]; omega)]
  rfl
theorem copied_l0 {l : Es} (hs : Sm l) : ∀ (r : Es) (i : Nat) (out : Es), l.drop i = r → out.length = i → logs_copied_l0 l l.length i out = some (out ++ r) := by
  obtain ⟨hb1, hb2⟩ := hs
  intro r
  induction r with
  | nil =>
    intro i out h ho
    have h1 := at_nil h
    rw [logs_copied_l0_eq]
    simp -implicitDefEqProofs only [Bool.cond_decide]
    rw [if_neg (by omega)]
    simp
  | cons x r ih =>
    intro i out h ho
    obtain ⟨h1, h2, h3⟩ := at_drop h
    have hx := hb2 x (List.mem_of_getElem? h2)
    rw [logs_copied_l0_eq]
    simp -implicitDefEqProofs only [Bool.cond_decide]
    rw [if_pos (by omega), if_pos (by omega)]
    simp -implicitDefEqProofs only [Int.toNat_natCast, h2, Option.bind_some, clone_spec hx]
    rw [if_pos (show _ ≤ room by simp -implicitDefEqProofs only [ilen_eq, List.length_cons, List.length_nil, room_eq]; omega), wrap_succ (by omega), ih (i + 1) _ h3 (by simp [ho])]
    simp
theorem copied_spec {l : Es} (hs : Sm l) : logs_copied l = some l := by
  rw [logs_copied_eq, ilen_eq]
  have := copied_l0 hs l 0 [] rfl rfl
  simpa using this
theorem copy_spec {b t : Int} {l : Es} (hs : Sm l) : logs_Copy b t l = some (b, t, l) := by
  rw [logs_Copy_eq, copied_spec hs]; rfl
/-- Entries' terms rise, from a least one. -/
def okE : Int → Es → Bool
  | _, [] => true
  | t, e :: r => decide (t ≤ e.1) && decide (e.1 ≤ 1099511627776) && okE e.1 r
theorem check_l0 {l : Es} (hs : l.length ≤ 1000000) : ∀ (r : Es) (i : Nat) (t : Int), l.drop i = r → logs_Check_l0 t l l.length i = some (bif okE t r then 0 else 1) := by
  intro r
  induction r with
  | nil =>
    intro i t h
    have h1 := at_nil h
    rw [logs_Check_l0_eq]
    simp -implicitDefEqProofs only [Bool.cond_decide]
    rw [if_neg (by omega)]
    simp [okE]
  | cons x r ih =>
    intro i t h
    obtain ⟨h1, h2, h3⟩ := at_drop h
    rw [logs_Check_l0_eq]
    simp -implicitDefEqProofs only [Bool.cond_decide]
    rw [if_pos (by omega), if_pos (by omega)]
    simp -implicitDefEqProofs only [Int.toNat_natCast, h2, Option.bind_some]
    rw [wrap_succ (by omega), ih (i + 1) _ h3]
    by_cases k1 : x.1 < t
    · rw [if_pos k1]; simp [okE, show ¬ t ≤ x.1 by omega]
    · rw [if_neg k1]
      by_cases k2 : x.1 > 1099511627776
      · rw [if_pos k2]; simp [okE, show ¬ x.1 ≤ 1099511627776 by omega]
      · rw [if_neg k2]; simp [okE, show t ≤ x.1 by omega, show x.1 ≤ 1099511627776 by omega]
theorem refCheck_l0 {b bt : Int} {l : Es} (hs : l.length ≤ 1000000) : ∀ (r : Es) (i : Nat) (t : Int), l.drop i = r → (i = 0 → t = max bt 1) → (∀ j, i = j + 1 → ∃ e, l[j]? = some e ∧ e.1 = t) → max bt 1 ≤ t →
    ref13_Check_l0 1099511627776 i b bt l = some (bif okE t r then 0 else 1) := by
  intro r
  induction r with
  | nil =>
    intro i t h _ _ _
    have h1 := at_nil h
    rw [ref13_Check_l0_eq, ilen_eq]
    simp -implicitDefEqProofs only [Bool.cond_decide]
    rw [if_neg (by omega)]
    simp [okE]
  | cons x r ih =>
    intro i t h ht0 ht1 htm
    obtain ⟨h1, h2, h3⟩ := at_drop h
    rw [ref13_Check_l0_eq, ilen_eq]
    simp -implicitDefEqProofs only [Bool.cond_decide]
    rw [if_pos (by omega), if_pos (by omega)]
    simp -implicitDefEqProofs only [Int.toNat_natCast, h2, Option.bind_some]
    rw [wrap_succ (by omega)]
    by_cases k1 : x.1 < 1
    · rw [if_pos k1]; simp [okE, show ¬ t ≤ x.1 by omega]
    rw [if_neg k1]
    by_cases k2 : x.1 > 1099511627776
    · rw [if_pos k2]; simp [okE, show ¬ x.1 ≤ 1099511627776 by omega]
    rw [if_neg k2]
    by_cases k3 : x.1 < bt
    · rw [if_pos k3]; simp [okE, show ¬ t ≤ x.1 by omega]
    rw [if_neg k3]
    cases i with
    | zero =>
      rw [if_neg (by omega), ih 1 x.1 h3 (by omega) (fun j hj => ⟨x, by rw [show j = 0 by omega]; exact h2, rfl⟩) (by omega)]
      have := ht0 rfl
      simp [okE, show t ≤ x.1 by omega, show x.1 ≤ 1099511627776 by omega]
    | succ j =>
      obtain ⟨e, he, het⟩ := ht1 j rfl
      rw [if_pos (by omega), wrap_i64 (by omega) (by omega), if_pos (by omega)]
      rw [show ((j + 1 : Nat) : Int) - 1 = (j : Int) by omega]
      simp -implicitDefEqProofs only [Int.toNat_natCast, he, Option.bind_some]
      by_cases k4 : x.1 < e.1
      · rw [if_pos k4]; simp [okE, show ¬ t ≤ x.1 by omega]
      · rw [if_neg k4, ih (j + 2) x.1 h3 (by omega) (fun j' hj => ⟨x, by rw [show j' = j + 1 by omega]; exact h2, rfl⟩) (by omega)]
        simp [okE, show t ≤ x.1 by omega, show x.1 ≤ 1099511627776 by omega]
/-- May a log be? -/
def chk (b bt : Int) (l : Es) : Bool := decide (0 ≤ b) && decide (b ≤ 1099511627776) && decide (0 ≤ bt) && decide (bt ≤ 1099511627776) && (decide (b = 0) == decide (bt = 0)) && okE (max bt 1) l
theorem check_spec {b bt : Int} {l : Es} (hs : l.length ≤ 1000000) : logs_Check b bt l = some (bif chk b bt l then 0 else 1) := by
  have h0 := fun t => check_l0 hs l 0 t rfl
  rw [Int.natCast_zero] at h0
  rw [logs_Check_eq, ilen_eq, h0]
  simp -implicitDefEqProofs only [Bool.cond_decide, chk]
  have hm : (if (1 : Int) > bt then 1 else bt) = max bt 1 := by split <;> omega
  rw [hm]
  by_cases k1 : b < 0
  · rw [if_pos (by omega)]; simp [show ¬ 0 ≤ b by omega]
  by_cases k2 : b > 1099511627776
  · rw [if_neg (by omega), if_pos k2]; simp [show ¬ b ≤ 1099511627776 by omega]
  by_cases k3 : bt < 0
  · rw [if_neg (by omega), if_neg k2, if_pos (by omega)]; simp [show ¬ 0 ≤ bt by omega]
  by_cases k4 : bt > 1099511627776
  · rw [if_neg (by omega), if_neg k2, if_neg (by omega), if_pos k4]; simp [show ¬ bt ≤ 1099511627776 by omega]
  rw [if_neg (by omega), if_neg k2, if_neg (by omega), if_neg k4]
  rw [decide_eq_true (show 0 ≤ b by omega), decide_eq_true (show b ≤ 1099511627776 by omega), decide_eq_true (show 0 ≤ bt by omega), decide_eq_true (show bt ≤ 1099511627776 by omega), show (b == 0) = decide (b = 0) from rfl, show (bt == 0) = decide (bt = 0) from rfl]
  cases decide (b = 0) <;> cases decide (bt = 0) <;> rfl
theorem refCheck_spec {b bt : Int} {l : Es} (hs : l.length ≤ 1000000) : ref13_Check b bt l = some (bif chk b bt l then 0 else 1) := by
  have h0 := refCheck_l0 hs l 0 (max bt 1) (b := b) (bt := bt) rfl (fun _ => rfl) (fun j h => by omega) (Int.le_refl _)
  rw [Int.natCast_zero] at h0
  rw [ref13_Check_eq, h0]
  simp -implicitDefEqProofs only [Bool.cond_decide, chk]
  by_cases k1 : b < 0
  · rw [if_pos (by omega)]; simp [show ¬ 0 ≤ b by omega]
  by_cases k2 : b > 1099511627776
  · rw [if_neg (by omega), if_pos k2]; simp [show ¬ b ≤ 1099511627776 by omega]
  by_cases k3 : bt < 0
  · rw [if_neg (by omega), if_neg k2, if_pos (by omega)]; simp [show ¬ 0 ≤ bt by omega]
  by_cases k4 : bt > 1099511627776
  · rw [if_neg (by omega), if_neg k2, if_neg (by omega), if_pos k4]; simp [show ¬ bt ≤ 1099511627776 by omega]
  rw [if_neg (by omega), if_neg k2, if_neg (by omega), if_neg k4]
  rw [decide_eq_true (show 0 ≤ b by omega), decide_eq_true (show b ≤ 1099511627776 by omega), decide_eq_true (show 0 ≤ bt by omega), decide_eq_true (show bt ≤ 1099511627776 by omega), bne, bne, show (b == 0) = decide (b = 0) from rfl, show (bt == 0) = decide (bt = 0) from rfl]
  cases decide (b = 0) <;> cases decide (bt = 0) <;> rfl
end Go.Proofs.Ytbgbpdpaamlinaa.PE
