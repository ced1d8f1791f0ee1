/- Timers: the next one; what works; the laws of keeping and of being due. -/
import Derived.Test.YtocglpmgamhaeaaP20d
namespace Go.Proofs.Ytocglpmgamhaeaa.PE
set_option linter.unusedVariables false
open Go Go.RowKit Go.Proofs.Ytocglpmgamhaeaa.Pack
def nextS : List T → Int × Bool
  | [] => (0, false)
  | x :: _ => (x.1, true)
theorem next_spec (l : List T) : timers_Next l = some (nextS l) := by
  rw [timers_Next_eq, ilen_eq]
  cases l with
  | nil => rfl
  | cons x r => rw [beq_no (show ¬ ((x :: r).length : Int) = 0 by rw [List.length_cons]; omega), cond_false]; rfl
theorem refNext_l0 {l : List T} {m : Int} (hl : l.length ≤ 1000000) (hm : ∀ x ∈ l, m ≤ x.1) : ∀ (r : List T) (i : Nat), l.drop i = r → ref20_Next_l0 l m i = some (m, true) := by
  intro r
  induction r with
  | nil =>
    intro i h
    have h1 := at_nil h
    rw [ref20_Next_l0_eq, ilen_eq, decide_eq_false (by omega), cond_false]
  | cons x r ih =>
    intro i h
    obtain ⟨h1, h2, h3⟩ := at_drop h
    have := hm x (List.mem_of_getElem? h2)
    rw [ref20_Next_l0_eq, ilen_eq, decide_eq_true (show (i : Int) < _ by omega), cond_true, decide_eq_true (show (0 : Int) ≤ (i : Int) by omega), cond_true, Int.toNat_natCast, h2, Option.bind_some, decide_eq_false (show ¬ x.1 < m by omega), cond_false, wrap_succ (by omega), ih (i + 1) h3]
theorem refNext_spec {l : List T} (hl : l.length ≤ 1000000) (hr : up none l = true) : ref20_Next l = some (nextS l) := by
  rw [ref20_Next_eq, ilen_eq]
  cases l with
  | nil => rfl
  | cons x r =>
    rw [beq_no (show ¬ ((x :: r).length : Int) = 0 by rw [List.length_cons]; omega), cond_false, show (x :: r)[Int.toNat 0]? = some x from rfl, Option.bind_some]
    have hr' : up (some x) r = true := by have : (oneS x && up (some x) r) = true := hr; rw [Bool.and_eq_true] at this; exact this.2
    have hall := (up_lt hr').1 x rfl
    have := refNext_l0 (m := x.1) hl (fun y hy => by rcases List.mem_cons.1 hy with rfl | hy; exact Int.le_refl _; exact lt_le (hall y hy)) (x :: r) 0 rfl
    exact this
def wl : List T := [(5, 2, 3), (9, 1, 2)]
theorem wu : up none wl = true := by decide +kernel
theorem wk1 : timers_Add [] 9 1 2 = some ([(9, 1, 2)], 0) := (add_spec (l := []) (t := (9, 1, 2)) (by decide) rfl).trans (congrArg some (by decide +kernel))
theorem wk2 : timers_Add [(9, 1, 2)] 5 2 3 = some (wl, 0) := (add_spec (l := [(9, 1, 2)]) (t := (5, 2, 3)) (by decide) (by decide +kernel)).trans (congrArg some (by decide +kernel))
theorem wk3 : timers_Add wl 5 2 3 = some ([], 10) := (add_spec (l := wl) (t := (5, 2, 3)) (by decide) wu).trans (congrArg some (by decide +kernel))
theorem wk4 : timers_Due wl 5 = some ([(5, 2, 3)], [(9, 1, 2)]) := (due_spec (by decide) wu).trans (congrArg some (by decide +kernel))
theorem wk6 : timers_Without wl 2 = some [(9, 1, 2)] := (without_spec (by decide)).trans (congrArg some (by decide +kernel))
theorem wk7 : timers_Check wl = some 0 := (check_spec (by decide)).trans (congrArg some (by decide +kernel))
theorem pu20 {x0 : List Int} {n : Int} (h0 : 0 ≤ n) (h1 : n ≤ 1099511627776) (hl : x0.length ≤ 1000) : pack_Uint x0 (IntKind.u64.wrap n) = some (x0 ++ enc n.toNat) := by
  rw [wrap_u64 h0 (by omega)]
  have := uint_spec (n := n.toNat) (x0 := x0) (by omega) (by omega)
  rw [Int.toNat_of_nonneg h0] at this
  exact this
theorem wk8 : timers_Put [] wl = some [2, 5, 2, 3, 4, 1, 2] := by
  rw [timers_Put_eq, ilen_eq, pu20 (by decide) (by decide) (by decide), Option.bind_some, show [] ++ enc (((wl.length : Nat) : Int).toNat) = [2] by decide +kernel, timers_Put_l0_eq]
  rw [show decide ((0 : Int) < ((wl.length : Nat) : Int)) = true by decide, cond_true, show decide ((0 : Int) ≤ 0) = true by decide, cond_true, show wl[(0 : Int).toNat]? = some (5, 2, 3) from rfl, Option.bind_some]
  dsimp only
  rw [show IntKind.i64.wrap (5 - 0) = 5 by decide, pu20 (by decide) (by decide) (by decide), Option.bind_some, show [2] ++ enc (5 : Int).toNat = [2, 5] by decide +kernel]
  rw [pu20 (by decide) (by decide) (by decide), Option.bind_some, show [2, 5] ++ enc (2 : Int).toNat = [2, 5, 2] by decide +kernel]
  rw [pu20 (by decide) (by decide) (by decide), Option.bind_some, show [2, 5, 2] ++ enc (3 : Int).toNat = [2, 5, 2, 3] by decide +kernel]
  rw [show IntKind.i64.wrap (0 + 1) = 1 by decide, timers_Put_l0_eq, show decide ((1 : Int) < ((wl.length : Nat) : Int)) = true by decide, cond_true, show decide ((0 : Int) ≤ 1) = true by decide, cond_true, show wl[(1 : Int).toNat]? = some (9, 1, 2) from rfl, Option.bind_some]
  dsimp only
  rw [show IntKind.i64.wrap (9 - 5) = 4 by decide, pu20 (by decide) (by decide) (by decide), Option.bind_some, show [2, 5, 2, 3] ++ enc (4 : Int).toNat = [2, 5, 2, 3, 4] by decide +kernel]
  rw [pu20 (by decide) (by decide) (by decide), Option.bind_some, show [2, 5, 2, 3, 4] ++ enc (1 : Int).toNat = [2, 5, 2, 3, 4, 1] by decide +kernel]
  rw [pu20 (by decide) (by decide) (by decide), Option.bind_some, show [2, 5, 2, 3, 4, 1] ++ enc (2 : Int).toNat = [2, 5, 2, 3, 4, 1, 2] by decide +kernel]
  rw [show IntKind.i64.wrap (1 + 1) = 2 by decide, timers_Put_l0_eq]
  rfl
theorem ru20 {b : List Int} (v : Int) (r : List Int) (hb : ∀ x ∈ b, 0 ≤ x ∧ x < 256) (hl : b.length ≤ 1000) (h : whole (rdu 0 b) = (v, r, 0)) : pack_ReadUint b = some (v, r, 0) := (readUint_spec hb (by omega)).trans (congrArg some h)
theorem wk9 : timers_Read ([2, 5, 2, 3, 4, 1, 2] ++ [7]) = some (wl, [7], 0) := by
  rw [show ([2, 5, 2, 3, 4, 1, 2] ++ [7] : List Int) = [2, 5, 2, 3, 4, 1, 2, 7] from rfl, timers_Read_eq, ru20 2 [5, 2, 3, 4, 1, 2, 7] (by decide) (by decide) (by decide +kernel), Option.bind_some, bne_no rfl, cond_false]
  dsimp only
  rw [timers_Read_l0_eq, decide_eq_true (by decide), cond_true]
  rw [ru20 5 [2, 3, 4, 1, 2, 7] (by decide) (by decide) (by decide +kernel), Option.bind_some, bne_no rfl, cond_false, decide_eq_false (by decide), cond_false]
  rw [ru20 2 [3, 4, 1, 2, 7] (by decide) (by decide) (by decide +kernel), Option.bind_some, bne_no rfl, cond_false, decide_eq_false (by decide), cond_false]
  rw [ru20 3 [4, 1, 2, 7] (by decide) (by decide) (by decide +kernel), Option.bind_some, bne_no rfl, cond_false, decide_eq_false (by decide), cond_false]
  dsimp only
  rw [show IntKind.i64.wrap (0 + IntKind.i64.wrap 5) = 5 by decide, show IntKind.i64.wrap 2 = 2 by decide, show IntKind.i64.wrap 3 = 3 by decide, decide_eq_false (by decide), cond_false, decide_eq_true (show _ ≤ room by simp only [ilen_eq, List.length_cons, List.length_nil, room_eq]; omega), cond_true, show IntKind.u64.wrap (2 - 1) = 1 by decide]
  rw [timers_Read_l0_eq, decide_eq_true (by decide), cond_true]
  rw [ru20 4 [1, 2, 7] (by decide) (by decide) (by decide +kernel), Option.bind_some, bne_no rfl, cond_false, decide_eq_false (by decide), cond_false]
  rw [ru20 1 [2, 7] (by decide) (by decide) (by decide +kernel), Option.bind_some, bne_no rfl, cond_false, decide_eq_false (by decide), cond_false]
  rw [ru20 2 [7] (by decide) (by decide) (by decide +kernel), Option.bind_some, bne_no rfl, cond_false, decide_eq_false (by decide), cond_false]
  dsimp only
  rw [show IntKind.i64.wrap (5 + IntKind.i64.wrap 4) = 9 by decide, show IntKind.i64.wrap 1 = 1 by decide, show IntKind.i64.wrap 2 = 2 by decide, decide_eq_false (by decide), cond_false, decide_eq_true (show _ ≤ room by simp only [ilen_eq, List.length_append, List.length_cons, List.length_nil, room_eq]; omega), cond_true, show IntKind.u64.wrap (1 - 1) = 0 by decide]
  rw [timers_Read_l0_eq, decide_eq_false (by decide), cond_false]
  exact (congrArg (fun o => o.bind fun val2 : Int => bif val2 != 0 then some (([] : List T), ([] : List Int), val2) else some (wl, [7], 0)) wk7)
theorem works20 : law20_works = some true := by
  rw [law20_works_eq, wk1, Option.bind_some, wk2, Option.bind_some, ilen_eq, bne_no (show ((wl.length : Nat) : Int) = 2 by decide), cond_false, decide_eq_true (show (0 : Int) < ((wl.length : Nat) : Int) by decide), cond_true, show wl[Int.toNat 0]? = some (5, 2, 3) from rfl, Option.bind_some, wk3, Option.bind_some, wk4, Option.bind_some, next_spec, Option.bind_some, wk8, Option.bind_some,
    decide_eq_true (show _ ≤ room by simp only [ilen_eq, List.length_cons, List.length_nil, room_eq]; omega), cond_true, wk9, Option.bind_some, same_self (by decide), Option.bind_some, wk6, Option.bind_some, wk7, Option.bind_some, ilen_eq, ilen_eq, ilen_eq]
  decide +kernel
theorem wks : (law20_works.bind fun v => some v) = some true := by rw [works20]; rfl
theorem timersKeeps_true {l : List T} {t : T} : law20_TimersKeeps l t.1 t.2.1 t.2.2 = some true := by
  rw [law20_TimersKeeps_eq, ilen_eq, wks]
  by_cases hl : (l.length : Int) > 200
  · rw [decide_eq_true hl]; rfl
  rw [decide_eq_false hl, cond_false, check_spec (by omega), Option.bind_some, refCheck_spec (by omega), Option.bind_some, bne_no rfl, cond_false]
  obtain ⟨v, h1, h2⟩ := may_spec l
  rw [h1, Option.bind_some]
  cases v with
  | false => rfl
  | true =>
    obtain ⟨hl2, hr⟩ := h2 rfl
    have := addS_len l t
    rw [Bool.not_true, cond_false, add_spec (by omega) hr, Option.bind_some, refAdd_spec (by omega) hr, Option.bind_some, beq_self_eq_true, cond_true, same_self (by omega)]
    rfl
theorem timersKeeps_says {l : List T} {a b c : Int} : law20_TimersKeeps l a b c = some true := timersKeeps_true (t := (a, b, c))
theorem timersDue_true {l : List T} {now inst : Int} : law20_TimersDue l now inst = some true := by
  obtain ⟨v, h1, h2⟩ := may_spec l
  rw [law20_TimersDue_eq, h1, Option.bind_some, wks]
  cases v with
  | false => rfl
  | true =>
    obtain ⟨hl, hr⟩ := h2 rfl
    have n1 := List.length_filter_le (fun j : T => j.2.1 != inst) l
    rw [Bool.not_true, cond_false, due_spec (by omega) hr, Option.bind_some, refDue_spec (by omega) hr, Option.bind_some, next_spec, Option.bind_some, refNext_spec (by omega) hr, Option.bind_some, same_self (by rw [List.length_take]; omega), Option.bind_some, cond_true, same_self (by rw [List.length_drop]; omega), Option.bind_some, cond_true,
      beq_self_eq_true, cond_true, beq_self_eq_true, cond_true, without_spec (by omega), Option.bind_some, refWithout_spec (by omega), Option.bind_some, same_self (by omega)]
    rfl
end Go.Proofs.Ytocglpmgamhaeaa.PE
