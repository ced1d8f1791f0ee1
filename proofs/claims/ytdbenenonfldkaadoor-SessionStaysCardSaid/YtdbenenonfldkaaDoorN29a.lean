/- works, at its values. works, at its values. Numbers that clients know things by; works; the law SessionNumbers. -/
import Derived.Test.YtdbenenonfldkaaDoorX29p
import Derived.Test.YtdbenenonfldkaaDoorELib
import Derived.KernelRfl
namespace Go.Proofs.YtdbenenonfldkaaDoor.PE
set_option linter.unusedVariables false
open Go Go.RowKit
theorem w_open : ses_OpenW 5 0 3 2 1 [] 0 10 0 0 (⟨#[]⟩ : ByteArray) (⟨#[]⟩ : ByteArray) 0 [] [] 129 0 0 0 [] = some (5, 1, 3, 2, 1, [(1, 1, [10, 5, 1, 2])], 0, 0) :=
  (ses_OpenW_raw _ _ _ _ _ _ _ _ _ _ _ _ _ _ _ _ _ _ _ _).trans (by kernel_rfl)
end Go.Proofs.YtdbenenonfldkaaDoor.PE
namespace Go.Proofs.YtdbenenonfldkaaDoor.PE
open Go Go.RowKit
theorem w_read : ref24_Read [10, 5, 1, 2] = some (10, 5, 1, (⟨#[]⟩ : ByteArray), (⟨#[]⟩ : ByteArray), 0, [], [], 2, 0, 0, 0, [], 0) :=
  (ref24_Read_raw _).trans (by kernel_rfl)
end Go.Proofs.YtdbenenonfldkaaDoor.PE
namespace Go.Proofs.YtdbenenonfldkaaDoor.PE
open Go Go.RowKit
attribute [local irreducible] ses_Heard_r6 ses_Check_l0 law29_SessionNumbers_r11
theorem glob_yes {p i : Int} (hp : 0 ≤ p ∧ p < 64) (hi : 0 ≤ i ∧ i ≤ 1099511627776) : ses_Global p i = some (i * 64 + p, 0) := by
  rw [ses_Global_eq, Bool.cond_decide, if_neg (by omega), Bool.cond_decide, if_neg (by omega), Bool.cond_decide, if_neg (by omega), Bool.cond_decide, if_neg (by omega), wrap_i64 (x := i * 64) (by omega) (by omega), wrap_i64 (by omega) (by omega)]
theorem glob_no {p i : Int} (h : ¬ ((0 ≤ p ∧ p < 64) ∧ 0 ≤ i ∧ i ≤ 1099511627776)) : ses_Global p i = some (0, 2) := by
  rw [ses_Global_eq, Bool.cond_decide]
  by_cases h1 : p < 0
  · rw [if_pos h1]
  rw [if_neg h1, Bool.cond_decide]
  by_cases h2 : p ≥ 64
  · rw [if_pos h2]
  rw [if_neg h2, Bool.cond_decide]
  by_cases h3 : i < 0
  · rw [if_pos h3]
  rw [if_neg h3, Bool.cond_decide, if_pos (by omega)]
theorem glob_same (p i : Int) : ref29_Global p i = ses_Global p i := by
  rw [ref29_Global_eq, ses_Global_eq, Bool.cond_decide, Bool.cond_decide, Bool.cond_decide, Bool.cond_decide, Bool.cond_decide, Bool.cond_decide, Bool.cond_decide, Bool.cond_decide, Int.mul_comm 64 i]
  by_cases h : p ≥ 64
  · rw [if_pos h, if_pos (show p > 63 by omega)]
  · rw [if_neg h, if_neg (show ¬ p > 63 by omega)]
theorem loc_yes {n : Int} (h0 : 0 ≤ n) (h1 : n / 64 ≤ 1099511627776) : ses_Local n = some (n % 64, n / 64, 0) := by
  rw [ses_Local_eq, Int.tdiv_eq_ediv_of_nonneg h0, Int.tmod_eq_emod_of_nonneg h0, wrap_i64 (by omega) (by omega), Bool.cond_decide, if_neg (by omega), Bool.cond_decide, if_neg (by omega)]
theorem loc_no {n : Int} (hn : n ≤ 9223372036854775807) (h : ¬ (0 ≤ n ∧ n / 64 ≤ 1099511627776)) : ses_Local n = some (0, 0, 2) := by
  rw [ses_Local_eq, Bool.cond_decide]
  by_cases h0 : n < 0
  · rw [if_pos h0]
  · rw [if_neg h0, Int.tdiv_eq_ediv_of_nonneg (by omega), wrap_i64 (by omega) (by omega), Bool.cond_decide, if_pos (by omega)]
theorem loc_same {n : Int} (hn : n ≤ 9223372036854775807) : ref29_Local n = ses_Local n := by
  rw [ref29_Local_eq, ses_Local_eq]
  simp -implicitDefEqProofs only [Bool.cond_decide]
  by_cases h0 : n < 0
  · rw [if_pos h0, if_pos h0]
  · rw [if_neg h0, if_neg h0, Int.tdiv_eq_ediv_of_nonneg (by omega), Int.tmod_eq_emod_of_nonneg (by omega), wrap_i64 (x := n / 64) (by omega) (by omega), wrap_i64 (x := n / 64 * 64) (by omega) (by omega), wrap_i64 (by omega) (by omega), show n - n / 64 * 64 = n % 64 by omega]
def wD : List (Int × Int × List Int) := [(1, 1, [10, 5, 1, 2])]
theorem w_heard1 : ses_Heard 5 1 3 2 2 wD 0 0 5 1 0 0 [] = some (5, 1, 3, 2, 2, wD, 0, 0, 0, 0, 0, [], false) := (ses_Heard_eq _ _ _ _ _ _ _ _ _ _ _ _ _).trans (by kernel_rfl)
theorem w_heard2 : ses_Heard 5 1 3 2 2 wD 0 1 5 1 9 0 [] = some (5, 1, 3, 2, 2, [], 0, 5, 1, 9, 0, [], true) :=
  (ses_Heard_eq _ _ _ _ _ _ _ _ _ _ _ _ _).trans ((show _ = ses_Heard_r6 5 1 3 2 2 wD 9 1 5 1 9 0 [] 0 0 0 0 0 0 0 0 0 0 5 1 9 0 [] by kernel_rfl).trans ((ses_Heard_r6_eq _ _ _ _ _ _ _ _ _ _ _ _ _ _ _ _ _ _ _ _ _ _ _ _ _ _ _ _).trans (by kernel_rfl)))
theorem w_new : ses_New 5 3 2 = some (5, 0, 3, 2, 1, [], 0, 0) := (ses_New_eq _ _ _).trans (by kernel_rfl)
theorem w_ask : ses_Ask 5 1 3 2 1 wD 0 = some (1, 1, [10, 5, 1, 2], true) := by
  rw [ses_Ask_eq, show (ilen wD == 0) = false from rfl, cond_false, show wD[Int.toNat 0]? = some (1, 1, [10, 5, 1, 2]) from rfl, Option.bind_some]
  dsimp only
  rw [ses_CloneB_eq, Bool.cond_decide, if_pos (show _ ≤ room by simp only [ilen_eq, room_eq, List.length_cons, List.length_nil]; omega)]; rfl
theorem w_turn : ses_Turn 5 1 3 2 1 wD 0 0 = some (5, 1, 3, 2, 2, wD, 0) := (ses_Turn_eq _ _ _ _ _ _ _ _).trans (by kernel_rfl)
theorem w_check : ses_Check 5 1 3 2 2 [] 0 = some 0 := by
  rw [ses_Check_eq, show ses_New 5 3 2 = _ from w_new, Option.bind_some]
  exact (show _ = ses_Check_l0 [] 0 0 5 1 3 2 2 [] 0 by kernel_rfl).trans ((ses_Check_l0_eq _ _ _ _ _ _ _ _ _ _).trans (by kernel_rfl))
theorem works29 : law29_works = some true := by
  rw [law29_works_eq, w_new, Option.bind_some]
  dsimp only
  rw [w_open, Option.bind_some]
  dsimp only
  rw [show ses_Ask 5 1 3 2 1 [(1, 1, [10, 5, 1, 2])] 0 = _ from w_ask, Option.bind_some]
  dsimp only
  rw [w_read, Option.bind_some, show ses_Turn 5 1 3 2 1 [(1, 1, [10, 5, 1, 2])] 0 0 = _ from w_turn, Option.bind_some]
  dsimp only
  rw [w_heard1, Option.bind_some]
  dsimp only
  rw [w_heard2, Option.bind_some, glob_yes (p := 1) (i := 2) (by decide) (by decide), Option.bind_some]
  dsimp only
  rw [show ((2 : Int) * 64 + 1) = 129 from rfl, loc_yes (n := 129) (by decide) (by decide), Option.bind_some, w_check]
  rfl
theorem r11_law {n a b e : Int} (h : e = 0 → ∃ c, ses_Global a b = some (n, c) ∧ c = 0) : law29_SessionNumbers_r11 n a b e = some true := by
  rw [law29_SessionNumbers_r11_eq, works29]
  by_cases he : e = 0
  · obtain ⟨c, h1, h2⟩ := h he
    rw [beq_yes he, cond_true, h1, Option.bind_some]
    dsimp only
    rw [bne_no h2, cond_false, bne_no rfl, cond_false]; rfl
  · rw [beq_no he, cond_false]; rfl
theorem numbers_law (x0 x1 x2 : Int) (h2 : -9223372036854775808 ≤ x2 ∧ x2 ≤ 9223372036854775807) : law29_SessionNumbers x0 x1 x2 = some true := by
  have key : ∀ p q e, ses_Local x2 = some (p, q, e) → (e = 0 → ∃ c, ses_Global p q = some (x2, c) ∧ c = 0) := by
    intro p q e h he
    by_cases hx : 0 ≤ x2 ∧ x2 / 64 ≤ 1099511627776
    · rw [loc_yes hx.1 hx.2] at h
      cases h
      exact ⟨0, by rw [glob_yes (by omega) (by omega), show x2 / 64 * 64 + x2 % 64 = x2 by omega], rfl⟩
    · rw [loc_no h2.2 hx] at h
      cases h
      cases he
  obtain ⟨p, q, e, hl⟩ : ∃ p q e, ses_Local x2 = some (p, q, e) := by
    by_cases hx : 0 ≤ x2 ∧ x2 / 64 ≤ 1099511627776
    · exact ⟨_, _, _, loc_yes hx.1 hx.2⟩
    · exact ⟨_, _, _, loc_no h2.2 hx⟩
  have hk := key p q e hl
  rw [law29_SessionNumbers_eq, glob_same, loc_same h2.2, hl]
  by_cases hx : (0 ≤ x0 ∧ x0 < 64) ∧ 0 ≤ x1 ∧ x1 ≤ 1099511627776
  · rw [glob_yes hx.1 hx.2]
    simp only [Option.bind_some, bne_self_eq_false, cond_false]
    rw [beq_yes rfl, cond_true, loc_yes (n := x1 * 64 + x0) (by omega) (by omega), Option.bind_some]
    dsimp only
    rw [bne_no rfl, cond_false, bne_no (by omega), cond_false, bne_no (by omega), cond_false]
    exact r11_law hk
  · rw [glob_no hx]
    simp only [Option.bind_some, bne_self_eq_false, cond_false]
    rw [beq_no (by decide), cond_false]
    exact r11_law hk
end Go.Proofs.YtdbenenonfldkaaDoor.PE
