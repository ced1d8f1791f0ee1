/- Jobs: what works. -/
import Derived.Test.YtknmnhkocdnnhaaP19e
namespace Go.Proofs.Ytknmnhkocdnnhaa.PE
set_option linter.unusedVariables false
open Go Go.RowKit Go.Proofs.Ytknmnhkocdnnhaa.Pack
def pay19 : ByteArray := ⟨#[112, 97, 121]⟩
def w19 : ByteArray := ⟨#[119]⟩
def j0 : J := (3, 1, 2, pay19, 1, ⟨#[]⟩, 0)
def j1 : J := (3, 1, 2, pay19, 1, w19, 9)
def j2 : J := (3, 1, 2, pay19, 0, ⟨#[]⟩, 0)
def j3 : J := (3, 1, 2, pay19, 2, ⟨#[]⟩, 0)
theorem tx_sm {j : J} (h1 : j.2.2.2.1.size ≤ 60) (h2 : j.2.2.2.2.2.1.size ≤ 60) : TxJ j := ⟨by omega, by omega⟩
theorem wk1 : jobs_Add [] 3 1 2 (⟨#[112, 97, 121]⟩ : ByteArray) 1 (⟨#[]⟩ : ByteArray) 0 = some ([j0], 0) := (add_spec (l := []) (j := j0) (by decide) rfl (tx_sm (by decide) (by decide))).trans (congrArg some (by kernel_rfl))
theorem wk2 : jobs_Lend [j0] (⟨#[112, 97, 121]⟩ : ByteArray) (⟨#[119]⟩ : ByteArray) 5 9 4 = some ([j1], [j1], 0) := (lend_spec (by decide) (by decide) (by decide)).trans (congrArg some (by kernel_rfl))
theorem ri1 : rising 0 [j1] = true := by decide +kernel
theorem ri2 : rising 0 [j2] = true := by decide +kernel
theorem ri3 : rising 0 [j3] = true := by decide +kernel
theorem wk3 : jobs_Done [j1] 3 (⟨#[120]⟩ : ByteArray) 6 = some ([], tupI zeroJ 11) := (done_spec (by decide) ri1).trans (congrArg some (by kernel_rfl))
theorem wk4 : jobs_Fail [j1] 3 (⟨#[119]⟩ : ByteArray) 6 = some ([j2], tupI j2 0) := (fail_spec (by decide) ri1).trans (congrArg some (by kernel_rfl))
theorem wk5 : jobs_Again [j2] 3 2 = some ([j3], 0) := (again_spec (by decide) ri2).trans (congrArg some (by kernel_rfl))
theorem wk6 : jobs_Get [j3] 3 = some (tup j3 true) := (get_spec (by decide) ri3).trans (congrArg some (by kernel_rfl))
theorem wk9 : jobs_Without [j3] 1 = some [] := (without_spec (by decide)).trans (congrArg some (by kernel_rfl))
theorem wk10 : jobs_Check [j3] = some 0 := (check_spec (by decide) (fun j hj => by rw [List.mem_singleton.1 hj]; exact tx_sm (by decide) (by decide))).trans (congrArg some (by kernel_rfl))
theorem pu19 {x0 : List Int} {n : Int} (h0 : 0 ≤ n) (h1 : n ≤ 1099511627776) (hl : x0.length ≤ 1000) : pack_Uint x0 (IntKind.u64.wrap n) = some (x0 ++ enc n.toNat) := by
  rw [wrap_u64 h0 (by omega)]
  have := uint_spec (n := n.toNat) (x0 := x0) (by omega) (by omega)
  rw [Int.toNat_of_nonneg h0] at this
  exact this
theorem wk7 : jobs_Put [] [j3] = some [1, 3, 1, 2, 2, 0, 3, 112, 97, 121, 0] := by
  rw [jobs_Put_eq, ilen_eq, pu19 (by decide) (by decide) (by decide), Option.bind_some, show [] ++ enc ((([j3].length : Nat) : Int).toNat) = [1] by decide +kernel, jobs_Put_l0_eq]
  rw [show decide ((0 : Int) < (([j3].length : Nat) : Int)) = true by decide, cond_true, show decide ((0 : Int) ≤ 0) = true by decide, cond_true, show [j3][(0 : Int).toNat]? = some j3 from rfl, Option.bind_some]
  dsimp only [j3]
  rw [pu19 (by decide) (by decide) (by decide), Option.bind_some, show [1] ++ enc (3 : Int).toNat = [1, 3] by decide +kernel]
  rw [pu19 (by decide) (by decide) (by decide), Option.bind_some, show [1, 3] ++ enc (1 : Int).toNat = [1, 3, 1] by decide +kernel]
  rw [pu19 (by decide) (by decide) (by decide), Option.bind_some, show [1, 3, 1] ++ enc (2 : Int).toNat = [1, 3, 1, 2] by decide +kernel]
  rw [pu19 (by decide) (by decide) (by decide), Option.bind_some, show [1, 3, 1, 2] ++ enc (2 : Int).toNat = [1, 3, 1, 2, 2] by decide +kernel]
  rw [pu19 (by decide) (by decide) (by decide), Option.bind_some, show [1, 3, 1, 2, 2] ++ enc (0 : Int).toNat = [1, 3, 1, 2, 2, 0] by decide +kernel]
  rw [bytes_spec (by decide) (by rw [bytesList_len]; decide), Option.bind_some, show [1, 3, 1, 2, 2, 0] ++ enc (bytesList pay19).length ++ bytesList pay19 = [1, 3, 1, 2, 2, 0, 3, 112, 97, 121] by decide +kernel]
  rw [bytes_spec (by decide) (by rw [bytesList_len]; decide), Option.bind_some, show [1, 3, 1, 2, 2, 0, 3, 112, 97, 121] ++ enc (bytesList (⟨#[]⟩ : ByteArray)).length ++ bytesList (⟨#[]⟩ : ByteArray) = [1, 3, 1, 2, 2, 0, 3, 112, 97, 121, 0] by decide +kernel]
  rw [show IntKind.i64.wrap (0 + 1) = 1 by decide, jobs_Put_l0_eq]
  rfl
theorem ru19 {b : List Int} (v : Int) (r : List Int) (hb : ∀ x ∈ b, 0 ≤ x ∧ x < 256) (hl : b.length ≤ 1000) (h : whole (rdu 0 b) = (v, r, 0)) : pack_ReadUint b = some (v, r, 0) := (readUint_spec hb (by omega)).trans (congrArg some h)
theorem rb19 {b : List Int} (v r : List Int) (hb : ∀ x ∈ b, 0 ≤ x ∧ x < 256) (hl : b.length ≤ 1000) (h : rdb b = (v, r, 0)) : pack_ReadBytes b = some (v, r, 0) := (readBytes_spec hb (by omega)).trans (congrArg some h)
theorem one19 : jobs_one [3, 1, 2, 2, 0, 3, 112, 97, 121, 0, 9] = some (3, 1, 2, pay19, 2, ⟨#[]⟩, 0, [9], 0) := by
  rw [jobs_one_eq, ru19 3 [1, 2, 2, 0, 3, 112, 97, 121, 0, 9] (by decide) (by decide) (by decide +kernel), Option.bind_some, bne_no rfl, cond_false, decide_eq_false (by decide), cond_false]
  rw [ru19 1 [2, 2, 0, 3, 112, 97, 121, 0, 9] (by decide) (by decide) (by decide +kernel), Option.bind_some, bne_no rfl, cond_false, decide_eq_false (by decide), cond_false]
  rw [ru19 2 [2, 0, 3, 112, 97, 121, 0, 9] (by decide) (by decide) (by decide +kernel), Option.bind_some, bne_no rfl, cond_false, decide_eq_false (by decide), cond_false]
  rw [ru19 2 [0, 3, 112, 97, 121, 0, 9] (by decide) (by decide) (by decide +kernel), Option.bind_some, bne_no rfl, cond_false, decide_eq_false (by decide), cond_false]
  rw [ru19 0 [3, 112, 97, 121, 0, 9] (by decide) (by decide) (by decide +kernel), Option.bind_some, bne_no rfl, cond_false, decide_eq_false (by decide), cond_false]
  rw [rb19 [112, 97, 121] [0, 9] (by decide) (by decide) (by decide +kernel), Option.bind_some, bne_no rfl, cond_false]
  rw [rb19 [] [9] (by decide) (by decide) (by decide +kernel), Option.bind_some, bne_no rfl, cond_false]
  exact congrArg some (by kernel_rfl)
theorem wk8 : jobs_Read ([1, 3, 1, 2, 2, 0, 3, 112, 97, 121, 0] ++ [9]) = some ([j3], [9], 0) := by
  rw [show ([1, 3, 1, 2, 2, 0, 3, 112, 97, 121, 0] ++ [9] : List Int) = [1, 3, 1, 2, 2, 0, 3, 112, 97, 121, 0, 9] from rfl, jobs_Read_eq, ru19 1 [3, 1, 2, 2, 0, 3, 112, 97, 121, 0, 9] (by decide) (by decide) (by decide +kernel), Option.bind_some, bne_no rfl, cond_false, jobs_Read_l0_eq,
    decide_eq_true (by decide), cond_true, one19, Option.bind_some, bne_no rfl, cond_false, decide_eq_true (show _ ≤ room by simp only [ilen_eq, List.length_cons, List.length_nil, room_eq]; omega), cond_true]
  rw [show IntKind.u64.wrap (1 - 1) = 0 by decide, jobs_Read_l0_eq, decide_eq_false (by decide), cond_false]
  exact (congrArg (fun o => o.bind fun val2 : Int => bif val2 != 0 then some (([] : List J), ([] : List Int), val2) else some ([j3], [9], 0)) wk10)
theorem works19 : law19_works = some true := by
  rw [law19_works_eq, wk1, Option.bind_some, wk2, Option.bind_some, wk3, Option.bind_some, wk4, Option.bind_some, wk5, Option.bind_some, wk6, Option.bind_some, wk7, Option.bind_some, wk8, decide_eq_true (show _ ≤ room by simp only [ilen_eq, List.length_cons, List.length_nil, room_eq]; omega), cond_true, Option.bind_some,
    same_self19 (by decide), Option.bind_some, wk9, Option.bind_some, wk10, Option.bind_some, ilen_eq, ilen_eq, ilen_eq]
  decide +kernel
end Go.Proofs.Ytknmnhkocdnnhaa.PE
