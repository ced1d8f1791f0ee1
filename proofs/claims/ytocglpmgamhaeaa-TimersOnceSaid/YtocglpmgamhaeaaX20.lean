import Derived.Test.YtocglpmgamhaeaaEFun
import Derived.Test.YtocglpmgamhaeaaEInsD
import Derived.KernelRfl
namespace Go.Proofs.Ytocglpmgamhaeaa.PE
set_option linter.unusedVariables false
open Go.Proofs
noncomputable def S0 : List (Nat × Sig) := []
theorem S0_ok : ListOk Try.prog S0 := ListOk.nil
noncomputable def timers_Clone_C : Cfg := { P := Try.prog, sig := lookSig S0, hb := fun _ _ => none, hr := fun _ _ => none }
noncomputable def timers_Clone_un : List DV → Option ((List (Int × Int × Int))) := fun | [⟨.slice (.pair (.int .i64) (.pair (.int .i64) (.int .i64))), r0⟩] => some r0 | _ => none
noncomputable def timers_Clone_mk : (List (Int × Int × Int)) → List DV := fun r0 => [⟨.slice (.pair (.int .i64) (.pair (.int .i64) (.int .i64))), r0⟩]
theorem timers_Clone_ex : ∃ f : (List (Int × Int × Int)) → Option ((List (Int × Int × Int))), f = fun (x0 : List (Int × Int × Int)) => avRun timers_Clone_C 3 29 [(false, [(true, .slice (.pair (.int .i64) (.pair (.int .i64) (.int .i64))))])] timers_Clone_un [.fz (.pair (.int .i64) (.pair (.int .i64) (.int .i64))) x0 false true] := ⟨_, rfl⟩
noncomputable def timers_Clone : (List (Int × Int × Int)) → Option ((List (Int × Int × Int))) := timers_Clone_ex.choose
theorem timers_Clone_raw (x0 : List (Int × Int × Int)) : timers_Clone x0 = avRun timers_Clone_C 3 29 [(false, [(true, .slice (.pair (.int .i64) (.pair (.int .i64) (.int .i64))))])] timers_Clone_un [.fz (.pair (.int .i64) (.pair (.int .i64) (.int .i64))) x0 false true] := congrFun (timers_Clone_ex.choose_spec) x0
theorem timers_Clone_eq (x0 : List (Int × Int × Int)) : timers_Clone x0 =
  bif decide ((0 + ilen x0) * 24 ≤ room)
  then some ([] ++ x0)
  else none := (timers_Clone_raw x0).trans (by kernel_rfl)
theorem timers_Clone_nil : avRun timers_Clone_C 3 29 [(false, [(true, .slice (.pair (.int .i64) (.pair (.int .i64) (.int .i64))))])] timers_Clone_un [.nils] = some ([]) := by kernel_rfl
noncomputable def timers_Clone_sig : Sig := { pm := [(false, [(false, .slice (.pair (.int .i64) (.pair (.int .i64) (.int .i64))))])], rm := [(false, [(true, .slice (.pair (.int .i64) (.pair (.int .i64) (.int .i64))))])], f := fun | [⟨.slice (.pair (.int .i64) (.pair (.int .i64) (.int .i64))), x0⟩] => .yes _ (timers_Clone x0) timers_Clone_mk | _ => .no }
theorem timers_Clone_ok : SigOk Try.prog 29 timers_Clone_sig := by
  refine contract_slice (C := timers_Clone_C) (d := 3) S0_ok rfl (callable_ex (by kernel_rfl)) ?_
  intro dvs
  unfold timers_Clone_sig
  dsimp only
  split
  · refine .inr ⟨_, timers_Clone_un, timers_Clone_mk, _, rfl, congrArg (fun o => Cl.yes _ o _) (timers_Clone_raw _), ?_, ?_⟩
    · intro ds x h
      unfold timers_Clone_un at h
      split at h
      · cases h; rfl
      · cases h
    · intro x hl ho
      subst hl
      rw [← timers_Clone_raw, timers_Clone_eq] at ho
      rw [timers_Clone_nil]
      simpa [ilen, room] using ho
  · exact .inl rfl
noncomputable def S1 : List (Nat × Sig) := (29, timers_Clone_sig) :: S0
theorem S1_ok : ListOk Try.prog S1 := ListOk.cons S0_ok timers_Clone_ok
noncomputable def timers_one_C : Cfg := { P := Try.prog, sig := lookSig S1, hb := fun _ _ => none, hr := fun _ _ => none, un := fun f b => bif Nat.beq f 23 && Nat.beq b 0 then 4 else 0 }
noncomputable def timers_one_un : List DV → Option (Bool) := fun | [⟨.bool, r0⟩] => some r0 | _ => none
noncomputable def timers_one_mk : Bool → List DV := fun r0 => [⟨.bool, r0⟩]
theorem timers_one_ex : ∃ f : (Int) → (Int) → (Int) → Option (Bool), f = fun (x0 : Int) (x1 : Int) (x2 : Int) => funRun timers_one_C 3 23 [(true, [(false, .int .i64), (false, .int .i64), (false, .int .i64)])] [(false, [(false, .bool)])] timers_one_un [⟨.int .i64, x0⟩, ⟨.int .i64, x1⟩, ⟨.int .i64, x2⟩] := ⟨_, rfl⟩
noncomputable def timers_one : (Int) → (Int) → (Int) → Option (Bool) := timers_one_ex.choose
theorem timers_one_raw (x0 : Int) (x1 : Int) (x2 : Int) : timers_one x0 x1 x2 = funRun timers_one_C 3 23 [(true, [(false, .int .i64), (false, .int .i64), (false, .int .i64)])] [(false, [(false, .bool)])] timers_one_un [⟨.int .i64, x0⟩, ⟨.int .i64, x1⟩, ⟨.int .i64, x2⟩] := congrFun (congrFun (congrFun (timers_one_ex.choose_spec) x0) x1) x2
theorem timers_one_eq (x0 : Int) (x1 : Int) (x2 : Int) : timers_one x0 x1 x2 =
  bif decide (x0 < 0)
  then some false
  else bif decide (x0 > 1099511627776)
    then some false
    else bif decide (x1 < 1)
      then some false
      else bif decide (x1 > 1099511627776)
        then some false
        else bif decide (x2 < 1)
          then some false
          else bif decide (x2 > 1099511627776)
            then some false
            else some true := (timers_one_raw x0 x1 x2).trans (by kernel_rfl)
noncomputable def timers_one_sig : Sig := { pm := [(true, [(false, .int .i64), (false, .int .i64), (false, .int .i64)])], rm := [(false, [(false, .bool)])], f := fun | [⟨.int .i64, x0⟩, ⟨.int .i64, x1⟩, ⟨.int .i64, x2⟩] => .yes _ (timers_one x0 x1 x2) timers_one_mk | _ => .no }
theorem timers_one_ok : SigOk Try.prog 23 timers_one_sig := by
  refine contract_of (C := timers_one_C) (d := 3) S1_ok (callable_ex (by kernel_rfl)) ?_
  intro dvs
  unfold timers_one_sig
  dsimp only
  split
  · refine .inr ⟨_, timers_one_un, timers_one_mk, congrArg (fun o => Cl.yes _ o _) (timers_one_raw _ _ _), ?_⟩
    intro ds x h
    unfold timers_one_un at h
    split at h
    · cases h; rfl
    · cases h
  · exact .inl rfl
noncomputable def S2 : List (Nat × Sig) := (23, timers_one_sig) :: S1
theorem S2_ok : ListOk Try.prog S2 := ListOk.cons S1_ok timers_one_ok
noncomputable def timers_order_C : Cfg := { P := Try.prog, sig := lookSig S2, hb := fun _ _ => none, hr := fun _ _ => none, un := fun f b => bif Nat.beq f 24 && Nat.beq b 0 then 4 else 0 }
noncomputable def timers_order_un : List DV → Option (Int) := fun | [⟨.int .i64, r0⟩] => some r0 | _ => none
noncomputable def timers_order_mk : Int → List DV := fun r0 => [⟨.int .i64, r0⟩]
theorem timers_order_ex : ∃ f : (Int) → (Int) → (Int) → (Int) → (Int) → (Int) → Option (Int), f = fun (x0 : Int) (x1 : Int) (x2 : Int) (x3 : Int) (x4 : Int) (x5 : Int) => funRun timers_order_C 3 24 [(true, [(false, .int .i64), (false, .int .i64), (false, .int .i64)]), (true, [(false, .int .i64), (false, .int .i64), (false, .int .i64)])] [(false, [(false, .int .i64)])] timers_order_un [⟨.int .i64, x0⟩, ⟨.int .i64, x1⟩, ⟨.int .i64, x2⟩, ⟨.int .i64, x3⟩, ⟨.int .i64, x4⟩, ⟨.int .i64, x5⟩] := ⟨_, rfl⟩
noncomputable def timers_order : (Int) → (Int) → (Int) → (Int) → (Int) → (Int) → Option (Int) := timers_order_ex.choose
theorem timers_order_raw (x0 : Int) (x1 : Int) (x2 : Int) (x3 : Int) (x4 : Int) (x5 : Int) : timers_order x0 x1 x2 x3 x4 x5 = funRun timers_order_C 3 24 [(true, [(false, .int .i64), (false, .int .i64), (false, .int .i64)]), (true, [(false, .int .i64), (false, .int .i64), (false, .int .i64)])] [(false, [(false, .int .i64)])] timers_order_un [⟨.int .i64, x0⟩, ⟨.int .i64, x1⟩, ⟨.int .i64, x2⟩, ⟨.int .i64, x3⟩, ⟨.int .i64, x4⟩, ⟨.int .i64, x5⟩] := congrFun (congrFun (congrFun (congrFun (congrFun (congrFun (timers_order_ex.choose_spec) x0) x1) x2) x3) x4) x5
theorem timers_order_eq (x0 : Int) (x1 : Int) (x2 : Int) (x3 : Int) (x4 : Int) (x5 : Int) : timers_order x0 x1 x2 x3 x4 x5 =
  bif decide (x0 < x3)
  then some (-1)
  else bif decide (x0 > x3)
    then some (1)
    else bif decide (x1 < x4)
      then some (-1)
      else bif decide (x1 > x4)
        then some (1)
        else bif decide (x2 < x5)
          then some (-1)
          else bif decide (x2 > x5)
            then some (1)
            else some (0) := (timers_order_raw x0 x1 x2 x3 x4 x5).trans (by kernel_rfl)
noncomputable def timers_order_sig : Sig := { pm := [(true, [(false, .int .i64), (false, .int .i64), (false, .int .i64)]), (true, [(false, .int .i64), (false, .int .i64), (false, .int .i64)])], rm := [(false, [(false, .int .i64)])], f := fun | [⟨.int .i64, x0⟩, ⟨.int .i64, x1⟩, ⟨.int .i64, x2⟩, ⟨.int .i64, x3⟩, ⟨.int .i64, x4⟩, ⟨.int .i64, x5⟩] => .yes _ (timers_order x0 x1 x2 x3 x4 x5) timers_order_mk | _ => .no }
theorem timers_order_ok : SigOk Try.prog 24 timers_order_sig := by
  refine contract_of (C := timers_order_C) (d := 3) S2_ok (callable_ex (by kernel_rfl)) ?_
  intro dvs
  unfold timers_order_sig
  dsimp only
  split
  · refine .inr ⟨_, timers_order_un, timers_order_mk, congrArg (fun o => Cl.yes _ o _) (timers_order_raw _ _ _ _ _ _), ?_⟩
    intro ds x h
    unfold timers_order_un at h
    split at h
    · cases h; rfl
    · cases h
  · exact .inl rfl
noncomputable def S3 : List (Nat × Sig) := (24, timers_order_sig) :: S2
theorem S3_ok : ListOk Try.prog S3 := ListOk.cons S2_ok timers_order_ok
noncomputable def timers_Check_C : Cfg := { P := Try.prog, sig := lookSig S3, hb := fun f b => bif Nat.beq f 8 && Nat.beq b 0 then some { tmps := [0, 5, 6, 7], obs := [], nils := [], kl := [132] } else none, hr := fun _ _ => none }
noncomputable def timers_Check_un : List DV → Option (Int) := fun | [⟨.int .i64, r0⟩] => some r0 | _ => none
noncomputable def timers_Check_mk : Int → List DV := fun r0 => [⟨.int .i64, r0⟩]
theorem timers_Check_ex : ∃ f : (List (Int × Int × Int)) → Option (Int), f = fun (x0 : List (Int × Int × Int)) => funRun timers_Check_C 3 8 [(false, [(false, .slice (.pair (.int .i64) (.pair (.int .i64) (.int .i64))))])] [(false, [(false, .int .i64)])] timers_Check_un [⟨.slice (.pair (.int .i64) (.pair (.int .i64) (.int .i64))), x0⟩] := ⟨_, rfl⟩
noncomputable def timers_Check : (List (Int × Int × Int)) → Option (Int) := timers_Check_ex.choose
theorem timers_Check_raw (x0 : List (Int × Int × Int)) : timers_Check x0 = funRun timers_Check_C 3 8 [(false, [(false, .slice (.pair (.int .i64) (.pair (.int .i64) (.int .i64))))])] [(false, [(false, .int .i64)])] timers_Check_un [⟨.slice (.pair (.int .i64) (.pair (.int .i64) (.int .i64))), x0⟩] := congrFun (timers_Check_ex.choose_spec) x0
noncomputable def timers_Check_l0 (y0 : List ((Int) × ((Int) × (Int)))) (y1 : List ((Int) × ((Int) × (Int)))) (y2 : Int) (y3 : Int) : Option (Int) := loopAt timers_Check_C 3 8 [(false, [(false, .int .i64)])] timers_Check_un [true, false, true, false] (St.ofLists [(0, .fz ((Ty.int IntKind.i64).pair ((Ty.int IntKind.i64).pair (Ty.int IntKind.i64))) y0 false false), (5, .fz ((Ty.int IntKind.i64).pair ((Ty.int IntKind.i64).pair (Ty.int IntKind.i64))) y1 false false), (6, .int .i64 y2), (7, .int .i64 y3)] [] [132])
theorem timers_Check_eq (x0 : List (Int × Int × Int)) : timers_Check x0 =
  timers_Check_l0 (x0) (x0) (ilen x0) (0) := (timers_Check_raw x0).trans (by kernel_rfl)
theorem timers_Check_l0_eq (y0 : List ((Int) × ((Int) × (Int)))) (y1 : List ((Int) × ((Int) × (Int)))) (y2 : Int) (y3 : Int) : timers_Check_l0 y0 y1 y2 y3 =
  bif decide (y3 < y2)
  then bif decide (0 ≤ y3)
    then (y1[y3.toNat]?).bind fun val4 =>
      (timers_one val4.fst val4.snd.fst val4.snd.snd).bind fun val6 =>
        bif !val6
          then some (1)
          else bif decide (y3 > 0)
            then bif decide (0 ≤ IntKind.i64.wrap (y3 - 1))
              then (y0[(IntKind.i64.wrap (y3 - 1)).toNat]?).bind fun val14 =>
                (timers_order val14.fst val14.snd.fst val14.snd.snd val4.fst val4.snd.fst val4.snd.snd).bind fun val16 =>
                  bif decide (val16 ≥ 0)
                    then some (1)
                    else timers_Check_l0 (y0) (y1) (y2) (IntKind.i64.wrap (y3 + 1))
              else none
            else timers_Check_l0 (y0) (y1) (y2) (IntKind.i64.wrap (y3 + 1))
    else none
  else some (0) := (loopAt_step _ _ _ _ _ _ _).trans (by kernel_rfl)
noncomputable def timers_Check_sig : Sig := { pm := [(false, [(false, .slice (.pair (.int .i64) (.pair (.int .i64) (.int .i64))))])], rm := [(false, [(false, .int .i64)])], f := fun | [⟨.slice (.pair (.int .i64) (.pair (.int .i64) (.int .i64))), x0⟩] => .yes _ (timers_Check x0) timers_Check_mk | _ => .no }
theorem timers_Check_ok : SigOk Try.prog 8 timers_Check_sig := by
  refine contract_of (C := timers_Check_C) (d := 3) S3_ok (callable_ex (by kernel_rfl)) ?_
  intro dvs
  unfold timers_Check_sig
  dsimp only
  split
  · refine .inr ⟨_, timers_Check_un, timers_Check_mk, congrArg (fun o => Cl.yes _ o _) (timers_Check_raw _), ?_⟩
    intro ds x h
    unfold timers_Check_un at h
    split at h
    · cases h; rfl
    · cases h
  · exact .inl rfl
noncomputable def S4 : List (Nat × Sig) := (8, timers_Check_sig) :: S3
theorem S4_ok : ListOk Try.prog S4 := ListOk.cons S3_ok timers_Check_ok
noncomputable def ref20_One_C : Cfg := { P := Try.prog, sig := lookSig S4, hb := fun _ _ => none, hr := fun _ _ => none }
noncomputable def ref20_One_un : List DV → Option (Bool) := fun | [⟨.bool, r0⟩] => some r0 | _ => none
noncomputable def ref20_One_mk : Bool → List DV := fun r0 => [⟨.bool, r0⟩]
theorem ref20_One_ex : ∃ f : (Int) → (Int) → (Int) → Option (Bool), f = fun (x0 : Int) (x1 : Int) (x2 : Int) => funRun ref20_One_C 3 25 [(true, [(false, .int .i64), (false, .int .i64), (false, .int .i64)])] [(false, [(false, .bool)])] ref20_One_un [⟨.int .i64, x0⟩, ⟨.int .i64, x1⟩, ⟨.int .i64, x2⟩] := ⟨_, rfl⟩
noncomputable def ref20_One : (Int) → (Int) → (Int) → Option (Bool) := ref20_One_ex.choose
theorem ref20_One_raw (x0 : Int) (x1 : Int) (x2 : Int) : ref20_One x0 x1 x2 = funRun ref20_One_C 3 25 [(true, [(false, .int .i64), (false, .int .i64), (false, .int .i64)])] [(false, [(false, .bool)])] ref20_One_un [⟨.int .i64, x0⟩, ⟨.int .i64, x1⟩, ⟨.int .i64, x2⟩] := congrFun (congrFun (congrFun (ref20_One_ex.choose_spec) x0) x1) x2
theorem ref20_One_eq (x0 : Int) (x1 : Int) (x2 : Int) : ref20_One x0 x1 x2 =
  bif decide (x0 ≥ 0)
  then bif decide (x0 ≤ 1099511627776)
    then bif decide (x1 ≥ 1)
      then bif decide (x1 ≤ 1099511627776)
        then bif decide (x2 ≥ 1)
          then some (decide (x2 ≤ 1099511627776))
          else some false
        else some false
      else some false
    else some false
  else some false := (ref20_One_raw x0 x1 x2).trans (by kernel_rfl)
noncomputable def ref20_One_sig : Sig := { pm := [(true, [(false, .int .i64), (false, .int .i64), (false, .int .i64)])], rm := [(false, [(false, .bool)])], f := fun | [⟨.int .i64, x0⟩, ⟨.int .i64, x1⟩, ⟨.int .i64, x2⟩] => .yes _ (ref20_One x0 x1 x2) ref20_One_mk | _ => .no }
theorem ref20_One_ok : SigOk Try.prog 25 ref20_One_sig := by
  refine contract_of (C := ref20_One_C) (d := 3) S4_ok (callable_ex (by kernel_rfl)) ?_
  intro dvs
  unfold ref20_One_sig
  dsimp only
  split
  · refine .inr ⟨_, ref20_One_un, ref20_One_mk, congrArg (fun o => Cl.yes _ o _) (ref20_One_raw _ _ _), ?_⟩
    intro ds x h
    unfold ref20_One_un at h
    split at h
    · cases h; rfl
    · cases h
  · exact .inl rfl
noncomputable def S5 : List (Nat × Sig) := (25, ref20_One_sig) :: S4
theorem S5_ok : ListOk Try.prog S5 := ListOk.cons S4_ok ref20_One_ok
noncomputable def ref20_Ahead_C : Cfg := { P := Try.prog, sig := lookSig S5, hb := fun _ _ => none, hr := fun _ _ => none }
noncomputable def ref20_Ahead_un : List DV → Option (Bool) := fun | [⟨.bool, r0⟩] => some r0 | _ => none
noncomputable def ref20_Ahead_mk : Bool → List DV := fun r0 => [⟨.bool, r0⟩]
theorem ref20_Ahead_ex : ∃ f : (Int) → (Int) → (Int) → (Int) → (Int) → (Int) → Option (Bool), f = fun (x0 : Int) (x1 : Int) (x2 : Int) (x3 : Int) (x4 : Int) (x5 : Int) => funRun ref20_Ahead_C 3 26 [(true, [(false, .int .i64), (false, .int .i64), (false, .int .i64)]), (true, [(false, .int .i64), (false, .int .i64), (false, .int .i64)])] [(false, [(false, .bool)])] ref20_Ahead_un [⟨.int .i64, x0⟩, ⟨.int .i64, x1⟩, ⟨.int .i64, x2⟩, ⟨.int .i64, x3⟩, ⟨.int .i64, x4⟩, ⟨.int .i64, x5⟩] := ⟨_, rfl⟩
noncomputable def ref20_Ahead : (Int) → (Int) → (Int) → (Int) → (Int) → (Int) → Option (Bool) := ref20_Ahead_ex.choose
theorem ref20_Ahead_raw (x0 : Int) (x1 : Int) (x2 : Int) (x3 : Int) (x4 : Int) (x5 : Int) : ref20_Ahead x0 x1 x2 x3 x4 x5 = funRun ref20_Ahead_C 3 26 [(true, [(false, .int .i64), (false, .int .i64), (false, .int .i64)]), (true, [(false, .int .i64), (false, .int .i64), (false, .int .i64)])] [(false, [(false, .bool)])] ref20_Ahead_un [⟨.int .i64, x0⟩, ⟨.int .i64, x1⟩, ⟨.int .i64, x2⟩, ⟨.int .i64, x3⟩, ⟨.int .i64, x4⟩, ⟨.int .i64, x5⟩] := congrFun (congrFun (congrFun (congrFun (congrFun (congrFun (ref20_Ahead_ex.choose_spec) x0) x1) x2) x3) x4) x5
theorem ref20_Ahead_eq (x0 : Int) (x1 : Int) (x2 : Int) (x3 : Int) (x4 : Int) (x5 : Int) : ref20_Ahead x0 x1 x2 x3 x4 x5 =
  bif x0 != x3
  then some (decide (x0 < x3))
  else bif x1 != x4
    then some (decide (x1 < x4))
    else some (decide (x2 < x5)) := (ref20_Ahead_raw x0 x1 x2 x3 x4 x5).trans (by kernel_rfl)
noncomputable def ref20_Ahead_sig : Sig := { pm := [(true, [(false, .int .i64), (false, .int .i64), (false, .int .i64)]), (true, [(false, .int .i64), (false, .int .i64), (false, .int .i64)])], rm := [(false, [(false, .bool)])], f := fun | [⟨.int .i64, x0⟩, ⟨.int .i64, x1⟩, ⟨.int .i64, x2⟩, ⟨.int .i64, x3⟩, ⟨.int .i64, x4⟩, ⟨.int .i64, x5⟩] => .yes _ (ref20_Ahead x0 x1 x2 x3 x4 x5) ref20_Ahead_mk | _ => .no }
theorem ref20_Ahead_ok : SigOk Try.prog 26 ref20_Ahead_sig := by
  refine contract_of (C := ref20_Ahead_C) (d := 3) S5_ok (callable_ex (by kernel_rfl)) ?_
  intro dvs
  unfold ref20_Ahead_sig
  dsimp only
  split
  · refine .inr ⟨_, ref20_Ahead_un, ref20_Ahead_mk, congrArg (fun o => Cl.yes _ o _) (ref20_Ahead_raw _ _ _ _ _ _), ?_⟩
    intro ds x h
    unfold ref20_Ahead_un at h
    split at h
    · cases h; rfl
    · cases h
  · exact .inl rfl
noncomputable def S6 : List (Nat × Sig) := (26, ref20_Ahead_sig) :: S5
theorem S6_ok : ListOk Try.prog S6 := ListOk.cons S5_ok ref20_Ahead_ok
noncomputable def ref20_Check_C : Cfg := { P := Try.prog, sig := lookSig S6, hb := fun f b => bif Nat.beq f 9 && Nat.beq b 0 then some { tmps := [0, 3], obs := [], nils := [], kl := [] } else none, hr := fun _ _ => none }
noncomputable def ref20_Check_un : List DV → Option (Int) := fun | [⟨.int .i64, r0⟩] => some r0 | _ => none
noncomputable def ref20_Check_mk : Int → List DV := fun r0 => [⟨.int .i64, r0⟩]
theorem ref20_Check_ex : ∃ f : (List (Int × Int × Int)) → Option (Int), f = fun (x0 : List (Int × Int × Int)) => funRun ref20_Check_C 3 9 [(false, [(false, .slice (.pair (.int .i64) (.pair (.int .i64) (.int .i64))))])] [(false, [(false, .int .i64)])] ref20_Check_un [⟨.slice (.pair (.int .i64) (.pair (.int .i64) (.int .i64))), x0⟩] := ⟨_, rfl⟩
noncomputable def ref20_Check : (List (Int × Int × Int)) → Option (Int) := ref20_Check_ex.choose
theorem ref20_Check_raw (x0 : List (Int × Int × Int)) : ref20_Check x0 = funRun ref20_Check_C 3 9 [(false, [(false, .slice (.pair (.int .i64) (.pair (.int .i64) (.int .i64))))])] [(false, [(false, .int .i64)])] ref20_Check_un [⟨.slice (.pair (.int .i64) (.pair (.int .i64) (.int .i64))), x0⟩] := congrFun (ref20_Check_ex.choose_spec) x0
noncomputable def ref20_Check_l0 (y0 : List ((Int) × ((Int) × (Int)))) (y1 : Int) : Option (Int) := loopAt ref20_Check_C 3 9 [(false, [(false, .int .i64)])] ref20_Check_un [true, false, true, false] (St.ofLists [(0, .fz ((Ty.int IntKind.i64).pair ((Ty.int IntKind.i64).pair (Ty.int IntKind.i64))) y0 false false), (3, .int .i64 y1)] [] [])
theorem ref20_Check_eq (x0 : List (Int × Int × Int)) : ref20_Check x0 =
  ref20_Check_l0 (x0) (0) := (ref20_Check_raw x0).trans (by kernel_rfl)
theorem ref20_Check_l0_eq (y0 : List ((Int) × ((Int) × (Int)))) (y1 : Int) : ref20_Check_l0 y0 y1 =
  bif decide (y1 < ilen y0)
  then bif decide (0 ≤ y1)
    then (y0[y1.toNat]?).bind fun val4 =>
      (ref20_One val4.fst val4.snd.fst val4.snd.snd).bind fun val6 =>
        bif !val6
          then some (1)
          else bif decide (y1 > 0)
            then bif decide (0 ≤ IntKind.i64.wrap (y1 - 1))
              then (y0[(IntKind.i64.wrap (y1 - 1)).toNat]?).bind fun val14 =>
                bif decide (0 ≤ y1)
                  then (y0[y1.toNat]?).bind fun val18 =>
                    (ref20_Ahead val14.fst val14.snd.fst val14.snd.snd val18.fst val18.snd.fst val18.snd.snd).bind fun val20 =>
                      bif !val20
                        then some (1)
                        else ref20_Check_l0 (y0) (IntKind.i64.wrap (y1 + 1))
                  else none
              else none
            else ref20_Check_l0 (y0) (IntKind.i64.wrap (y1 + 1))
    else none
  else some (0) := (loopAt_step _ _ _ _ _ _ _).trans (by kernel_rfl)
noncomputable def ref20_Check_sig : Sig := { pm := [(false, [(false, .slice (.pair (.int .i64) (.pair (.int .i64) (.int .i64))))])], rm := [(false, [(false, .int .i64)])], f := fun | [⟨.slice (.pair (.int .i64) (.pair (.int .i64) (.int .i64))), x0⟩] => .yes _ (ref20_Check x0) ref20_Check_mk | _ => .no }
theorem ref20_Check_ok : SigOk Try.prog 9 ref20_Check_sig := by
  refine contract_of (C := ref20_Check_C) (d := 3) S6_ok (callable_ex (by kernel_rfl)) ?_
  intro dvs
  unfold ref20_Check_sig
  dsimp only
  split
  · refine .inr ⟨_, ref20_Check_un, ref20_Check_mk, congrArg (fun o => Cl.yes _ o _) (ref20_Check_raw _), ?_⟩
    intro ds x h
    unfold ref20_Check_un at h
    split at h
    · cases h; rfl
    · cases h
  · exact .inl rfl
noncomputable def S7 : List (Nat × Sig) := (9, ref20_Check_sig) :: S6
theorem S7_ok : ListOk Try.prog S7 := ListOk.cons S6_ok ref20_Check_ok
noncomputable def law20_may_C : Cfg := { P := Try.prog, sig := lookSig S7, hb := fun _ _ => none, hr := fun _ _ => none }
noncomputable def law20_may_un : List DV → Option (Bool) := fun | [⟨.bool, r0⟩] => some r0 | _ => none
noncomputable def law20_may_mk : Bool → List DV := fun r0 => [⟨.bool, r0⟩]
theorem law20_may_ex : ∃ f : (List (Int × Int × Int)) → Option (Bool), f = fun (x0 : List (Int × Int × Int)) => funRun law20_may_C 3 10 [(false, [(false, .slice (.pair (.int .i64) (.pair (.int .i64) (.int .i64))))])] [(false, [(false, .bool)])] law20_may_un [⟨.slice (.pair (.int .i64) (.pair (.int .i64) (.int .i64))), x0⟩] := ⟨_, rfl⟩
noncomputable def law20_may : (List (Int × Int × Int)) → Option (Bool) := law20_may_ex.choose
theorem law20_may_raw (x0 : List (Int × Int × Int)) : law20_may x0 = funRun law20_may_C 3 10 [(false, [(false, .slice (.pair (.int .i64) (.pair (.int .i64) (.int .i64))))])] [(false, [(false, .bool)])] law20_may_un [⟨.slice (.pair (.int .i64) (.pair (.int .i64) (.int .i64))), x0⟩] := congrFun (law20_may_ex.choose_spec) x0
theorem law20_may_eq (x0 : List (Int × Int × Int)) : law20_may x0 =
  bif decide (ilen x0 ≤ 200)
  then (ref20_Check x0).bind fun val2 =>
    some (val2 == 0)
  else some false := (law20_may_raw x0).trans (by kernel_rfl)
noncomputable def law20_may_sig : Sig := { pm := [(false, [(false, .slice (.pair (.int .i64) (.pair (.int .i64) (.int .i64))))])], rm := [(false, [(false, .bool)])], f := fun | [⟨.slice (.pair (.int .i64) (.pair (.int .i64) (.int .i64))), x0⟩] => .yes _ (law20_may x0) law20_may_mk | _ => .no }
theorem law20_may_ok : SigOk Try.prog 10 law20_may_sig := by
  refine contract_of (C := law20_may_C) (d := 3) S7_ok (callable_ex (by kernel_rfl)) ?_
  intro dvs
  unfold law20_may_sig
  dsimp only
  split
  · refine .inr ⟨_, law20_may_un, law20_may_mk, congrArg (fun o => Cl.yes _ o _) (law20_may_raw _), ?_⟩
    intro ds x h
    unfold law20_may_un at h
    split at h
    · cases h; rfl
    · cases h
  · exact .inl rfl
noncomputable def S8 : List (Nat × Sig) := (10, law20_may_sig) :: S7
theorem S8_ok : ListOk Try.prog S8 := ListOk.cons S7_ok law20_may_ok
noncomputable def timers_Search_C : Cfg := { P := Try.prog, sig := lookSig S8, hb := fun f b => bif Nat.beq f 27 && Nat.beq b 0 then some { tmps := [0, 2, 4, 8, 9, 10], obs := [132], nils := [], kl := [132] } else none, hr := fun _ _ => none }
noncomputable def timers_Search_un : List DV → Option (Int × Bool) := fun | [⟨.int .i64, r0⟩, ⟨.bool, r1⟩] => some (r0, r1) | _ => none
noncomputable def timers_Search_mk : (Int × Bool) → List DV := fun ⟨r0, r1⟩ => [⟨.int .i64, r0⟩, ⟨.bool, r1⟩]
theorem timers_Search_ex : ∃ f : (List (Int × Int × Int)) → (Int) → (Int) → (Int) → Option (Int × Bool), f = fun (x0 : List (Int × Int × Int)) (x1 : Int) (x2 : Int) (x3 : Int) => funRun timers_Search_C 3 27 [(false, [(false, .slice (.pair (.int .i64) (.pair (.int .i64) (.int .i64))))]), (true, [(false, .int .i64), (false, .int .i64), (false, .int .i64)]), (false, [(false, .fn 24 (.unit))])] [(false, [(false, .int .i64)]), (false, [(false, .bool)])] timers_Search_un [⟨.slice (.pair (.int .i64) (.pair (.int .i64) (.int .i64))), x0⟩, ⟨.int .i64, x1⟩, ⟨.int .i64, x2⟩, ⟨.int .i64, x3⟩, ⟨.fn 24 (.unit), ()⟩] := ⟨_, rfl⟩
noncomputable def timers_Search : (List (Int × Int × Int)) → (Int) → (Int) → (Int) → Option (Int × Bool) := timers_Search_ex.choose
theorem timers_Search_raw (x0 : List (Int × Int × Int)) (x1 : Int) (x2 : Int) (x3 : Int) : timers_Search x0 x1 x2 x3 = funRun timers_Search_C 3 27 [(false, [(false, .slice (.pair (.int .i64) (.pair (.int .i64) (.int .i64))))]), (true, [(false, .int .i64), (false, .int .i64), (false, .int .i64)]), (false, [(false, .fn 24 (.unit))])] [(false, [(false, .int .i64)]), (false, [(false, .bool)])] timers_Search_un [⟨.slice (.pair (.int .i64) (.pair (.int .i64) (.int .i64))), x0⟩, ⟨.int .i64, x1⟩, ⟨.int .i64, x2⟩, ⟨.int .i64, x3⟩, ⟨.fn 24 (.unit), ()⟩] := congrFun (congrFun (congrFun (congrFun (timers_Search_ex.choose_spec) x0) x1) x2) x3
noncomputable def timers_Search_l0 (y0 : List ((Int) × ((Int) × (Int)))) (y1 : Int) (y2 : Int) (y3 : Int) (y4 : Int) (y5 : Int) (y6 : Int) : Option (Int × Bool) := loopAt timers_Search_C 3 27 [(false, [(false, .int .i64)]), (false, [(false, .bool)])] timers_Search_un [true, true, true, false, false] (St.ofLists [(0, .fz ((Ty.int IntKind.i64).pair ((Ty.int IntKind.i64).pair (Ty.int IntKind.i64))) y0 false false), (2, .func 24 []), (4, .ptr 132 0), (8, .int .i64 y1), (9, .int .i64 y2), (10, .int .i64 y3)] [(132, some (.cells [.int .i64 y4, .int .i64 y5, .int .i64 y6]))] [132])
theorem timers_Search_eq (x0 : List (Int × Int × Int)) (x1 : Int) (x2 : Int) (x3 : Int) : timers_Search x0 x1 x2 x3 =
  timers_Search_l0 (x0) (ilen x0) (0) (ilen x0) (x1) (x2) (x3) := (timers_Search_raw x0 x1 x2 x3).trans (by kernel_rfl)
theorem timers_Search_l0_eq (y0 : List ((Int) × ((Int) × (Int)))) (y1 : Int) (y2 : Int) (y3 : Int) (y4 : Int) (y5 : Int) (y6 : Int) : timers_Search_l0 y0 y1 y2 y3 y4 y5 y6 =
  bif decide (y2 < y3)
  then bif decide (0 ≤ IntKind.i64.wrap ((IntKind.u64.wrap (IntKind.i64.wrap (y2 + y3))).fdiv (2 ^ min (Int.toNat 1) IntKind.u64.bits)))
    then (y0[(IntKind.i64.wrap ((IntKind.u64.wrap (IntKind.i64.wrap (y2 + y3))).fdiv (2 ^ min (Int.toNat 1) IntKind.u64.bits))).toNat]?).bind fun val4 =>
      (timers_order val4.fst val4.snd.fst val4.snd.snd y4 y5 y6).bind fun val6 =>
        bif decide (val6 < 0)
          then timers_Search_l0 (y0) (y1) (IntKind.i64.wrap (IntKind.i64.wrap ((IntKind.u64.wrap (IntKind.i64.wrap (y2 + y3))).fdiv (2 ^ min (Int.toNat 1) IntKind.u64.bits)) + 1)) (y3) (y4) (y5) (y6)
          else timers_Search_l0 (y0) (y1) (y2) (IntKind.i64.wrap ((IntKind.u64.wrap (IntKind.i64.wrap (y2 + y3))).fdiv (2 ^ min (Int.toNat 1) IntKind.u64.bits))) (y4) (y5) (y6)
    else none
  else bif decide (y2 < y1)
    then bif decide (0 ≤ y2)
      then (y0[y2.toNat]?).bind fun val6 =>
        (timers_order val6.fst val6.snd.fst val6.snd.snd y4 y5 y6).bind fun val8 =>
          some ((y2), (val8 == 0))
      else none
    else some ((y2), false) := (loopAt_step _ _ _ _ _ _ _).trans (by kernel_rfl)
noncomputable def timers_Search_sig : Sig := { pm := [(false, [(false, .slice (.pair (.int .i64) (.pair (.int .i64) (.int .i64))))]), (true, [(false, .int .i64), (false, .int .i64), (false, .int .i64)]), (false, [(false, .fn 24 (.unit))])], rm := [(false, [(false, .int .i64)]), (false, [(false, .bool)])], f := fun | [⟨.slice (.pair (.int .i64) (.pair (.int .i64) (.int .i64))), x0⟩, ⟨.int .i64, x1⟩, ⟨.int .i64, x2⟩, ⟨.int .i64, x3⟩, ⟨.fn 24 (.unit), ()⟩] => .yes _ (timers_Search x0 x1 x2 x3) timers_Search_mk | _ => .no }
theorem timers_Search_ok : SigOk Try.prog 27 timers_Search_sig := by
  refine contract_of (C := timers_Search_C) (d := 3) S8_ok (callable_ex (by kernel_rfl)) ?_
  intro dvs
  unfold timers_Search_sig
  dsimp only
  split
  · refine .inr ⟨_, timers_Search_un, timers_Search_mk, congrArg (fun o => Cl.yes _ o _) (timers_Search_raw _ _ _ _), ?_⟩
    intro ds x h
    unfold timers_Search_un at h
    split at h
    · cases h; rfl
    · cases h
  · exact .inl rfl
noncomputable def S9 : List (Nat × Sig) := (27, timers_Search_sig) :: S8
theorem S9_ok : ListOk Try.prog S9 := ListOk.cons S8_ok timers_Search_ok
noncomputable def S10 : List (Nat × Sig) := (28, insF_sig) :: S9
theorem S10_ok : ListOk Try.prog S10 := ListOk.cons S9_ok insF_ok
noncomputable def timers_Add_C : Cfg := { P := Try.prog, sig := lookSig S10, hb := fun _ _ => none, hr := fun _ _ => none }
noncomputable def timers_Add_un : List DV → Option ((List (Int × Int × Int)) × Int) := fun | [⟨.slice (.pair (.int .i64) (.pair (.int .i64) (.int .i64))), r0⟩, ⟨.int .i64, r1⟩] => some (r0, r1) | _ => none
noncomputable def timers_Add_mk : ((List (Int × Int × Int)) × Int) → List DV := fun ⟨r0, r1⟩ => [⟨.slice (.pair (.int .i64) (.pair (.int .i64) (.int .i64))), r0⟩, ⟨.int .i64, r1⟩]
theorem timers_Add_ex : ∃ f : (List (Int × Int × Int)) → (Int) → (Int) → (Int) → Option ((List (Int × Int × Int)) × Int), f = fun (x0 : List (Int × Int × Int)) (x1 : Int) (x2 : Int) (x3 : Int) => funRun timers_Add_C 3 11 [(false, [(false, .slice (.pair (.int .i64) (.pair (.int .i64) (.int .i64))))]), (true, [(false, .int .i64), (false, .int .i64), (false, .int .i64)])] [(false, [(true, .slice (.pair (.int .i64) (.pair (.int .i64) (.int .i64))))]), (false, [(false, .int .i64)])] timers_Add_un [⟨.slice (.pair (.int .i64) (.pair (.int .i64) (.int .i64))), x0⟩, ⟨.int .i64, x1⟩, ⟨.int .i64, x2⟩, ⟨.int .i64, x3⟩] := ⟨_, rfl⟩
noncomputable def timers_Add : (List (Int × Int × Int)) → (Int) → (Int) → (Int) → Option ((List (Int × Int × Int)) × Int) := timers_Add_ex.choose
theorem timers_Add_raw (x0 : List (Int × Int × Int)) (x1 : Int) (x2 : Int) (x3 : Int) : timers_Add x0 x1 x2 x3 = funRun timers_Add_C 3 11 [(false, [(false, .slice (.pair (.int .i64) (.pair (.int .i64) (.int .i64))))]), (true, [(false, .int .i64), (false, .int .i64), (false, .int .i64)])] [(false, [(true, .slice (.pair (.int .i64) (.pair (.int .i64) (.int .i64))))]), (false, [(false, .int .i64)])] timers_Add_un [⟨.slice (.pair (.int .i64) (.pair (.int .i64) (.int .i64))), x0⟩, ⟨.int .i64, x1⟩, ⟨.int .i64, x2⟩, ⟨.int .i64, x3⟩] := congrFun (congrFun (congrFun (congrFun (timers_Add_ex.choose_spec) x0) x1) x2) x3
theorem timers_Add_eq (x0 : List (Int × Int × Int)) (x1 : Int) (x2 : Int) (x3 : Int) : timers_Add x0 x1 x2 x3 =
  (timers_Check [(x1, x2, x3)]).bind fun val0 =>
  bif val0 != 0
    then some (([]), (val0))
    else (timers_Search x0 x1 x2 x3).bind fun val4 =>
      bif val4.2
        then some (([]), (10))
        else (timers_Clone x0).bind fun val8 =>
          (insF val8 val4.1 [(x1, x2, x3)]).bind fun val10 =>
            some ((val10), (0)) := (timers_Add_raw x0 x1 x2 x3).trans (by kernel_rfl)
noncomputable def timers_Add_sig : Sig := { pm := [(false, [(false, .slice (.pair (.int .i64) (.pair (.int .i64) (.int .i64))))]), (true, [(false, .int .i64), (false, .int .i64), (false, .int .i64)])], rm := [(false, [(true, .slice (.pair (.int .i64) (.pair (.int .i64) (.int .i64))))]), (false, [(false, .int .i64)])], f := fun | [⟨.slice (.pair (.int .i64) (.pair (.int .i64) (.int .i64))), x0⟩, ⟨.int .i64, x1⟩, ⟨.int .i64, x2⟩, ⟨.int .i64, x3⟩] => .yes _ (timers_Add x0 x1 x2 x3) timers_Add_mk | _ => .no }
theorem timers_Add_ok : SigOk Try.prog 11 timers_Add_sig := by
  refine contract_of (C := timers_Add_C) (d := 3) S10_ok (callable_ex (by kernel_rfl)) ?_
  intro dvs
  unfold timers_Add_sig
  dsimp only
  split
  · refine .inr ⟨_, timers_Add_un, timers_Add_mk, congrArg (fun o => Cl.yes _ o _) (timers_Add_raw _ _ _ _), ?_⟩
    intro ds x h
    unfold timers_Add_un at h
    split at h
    · cases h; rfl
    · cases h
  · exact .inl rfl
noncomputable def S11 : List (Nat × Sig) := (11, timers_Add_sig) :: S10
theorem S11_ok : ListOk Try.prog S11 := ListOk.cons S10_ok timers_Add_ok
noncomputable def ref20_Add_C : Cfg := { P := Try.prog, sig := lookSig S11, hb := fun f b => bif Nat.beq f 12 && Nat.beq b 0 then some { tmps := [0, 3, 6, 7, 8], obs := [124, 62], nils := [(6, 60, (.pair (.int .i64) (.pair (.int .i64) (.int .i64)))), (6, 61, (.pair (.int .i64) (.pair (.int .i64) (.int .i64)))), (6, 62, (.pair (.int .i64) (.pair (.int .i64) (.int .i64))))], kl := [124, 396, 444, 396, 388, 452, 61, 62, 60, 61, 60] } else none, hr := fun _ _ => none }
noncomputable def ref20_Add_un : List DV → Option ((List (Int × Int × Int)) × Int) := fun | [⟨.slice (.pair (.int .i64) (.pair (.int .i64) (.int .i64))), r0⟩, ⟨.int .i64, r1⟩] => some (r0, r1) | _ => none
noncomputable def ref20_Add_mk : ((List (Int × Int × Int)) × Int) → List DV := fun ⟨r0, r1⟩ => [⟨.slice (.pair (.int .i64) (.pair (.int .i64) (.int .i64))), r0⟩, ⟨.int .i64, r1⟩]
theorem ref20_Add_ex : ∃ f : (List (Int × Int × Int)) → (Int) → (Int) → (Int) → Option ((List (Int × Int × Int)) × Int), f = fun (x0 : List (Int × Int × Int)) (x1 : Int) (x2 : Int) (x3 : Int) => funRun ref20_Add_C 3 12 [(false, [(false, .slice (.pair (.int .i64) (.pair (.int .i64) (.int .i64))))]), (true, [(false, .int .i64), (false, .int .i64), (false, .int .i64)])] [(false, [(true, .slice (.pair (.int .i64) (.pair (.int .i64) (.int .i64))))]), (false, [(false, .int .i64)])] ref20_Add_un [⟨.slice (.pair (.int .i64) (.pair (.int .i64) (.int .i64))), x0⟩, ⟨.int .i64, x1⟩, ⟨.int .i64, x2⟩, ⟨.int .i64, x3⟩] := ⟨_, rfl⟩
noncomputable def ref20_Add : (List (Int × Int × Int)) → (Int) → (Int) → (Int) → Option ((List (Int × Int × Int)) × Int) := ref20_Add_ex.choose
theorem ref20_Add_raw (x0 : List (Int × Int × Int)) (x1 : Int) (x2 : Int) (x3 : Int) : ref20_Add x0 x1 x2 x3 = funRun ref20_Add_C 3 12 [(false, [(false, .slice (.pair (.int .i64) (.pair (.int .i64) (.int .i64))))]), (true, [(false, .int .i64), (false, .int .i64), (false, .int .i64)])] [(false, [(true, .slice (.pair (.int .i64) (.pair (.int .i64) (.int .i64))))]), (false, [(false, .int .i64)])] ref20_Add_un [⟨.slice (.pair (.int .i64) (.pair (.int .i64) (.int .i64))), x0⟩, ⟨.int .i64, x1⟩, ⟨.int .i64, x2⟩, ⟨.int .i64, x3⟩] := congrFun (congrFun (congrFun (congrFun (ref20_Add_ex.choose_spec) x0) x1) x2) x3
noncomputable def ref20_Add_l0 (y0 : List ((Int) × ((Int) × (Int)))) (y1 : Bool) (y2 : Int) (y3 : Int) (y4 : Int) (y5 : Int) (y6 : List ((Int) × ((Int) × (Int)))) : Option ((List (Int × Int × Int)) × Int) := loopAt ref20_Add_C 3 12 [(false, [(true, .slice (.pair (.int .i64) (.pair (.int .i64) (.int .i64))))]), (false, [(false, .int .i64)])] ref20_Add_un [true, true, true, true, false, true, false] (St.ofLists [(0, .fz ((Ty.int IntKind.i64).pair ((Ty.int IntKind.i64).pair (Ty.int IntKind.i64))) y0 false false), (3, .ptr 124 0), (6, .ow 62), (7, .bool y1), (8, .int .i64 y2)] [(124, some (.cells [.int .i64 y3, .int .i64 y4, .int .i64 y5])), (62, some (.row ((Ty.int IntKind.i64).pair ((Ty.int IntKind.i64).pair (Ty.int IntKind.i64))) y6 0 false))] [124, 396, 444, 396, 388, 452, 61, 62, 60, 61, 60])
theorem ref20_Add_eq (x0 : List (Int × Int × Int)) (x1 : Int) (x2 : Int) (x3 : Int) : ref20_Add x0 x1 x2 x3 =
  (ref20_One x1 x2 x3).bind fun val0 =>
  bif !val0
    then some (([]), (1))
    else ref20_Add_l0 (x0) (false) (0) (x1) (x2) (x3) ([]) := (ref20_Add_raw x0 x1 x2 x3).trans (by kernel_rfl)
theorem ref20_Add_l0_eq (y0 : List ((Int) × ((Int) × (Int)))) (y1 : Bool) (y2 : Int) (y3 : Int) (y4 : Int) (y5 : Int) (y6 : List ((Int) × ((Int) × (Int)))) : ref20_Add_l0 y0 y1 y2 y3 y4 y5 y6 =
  bif decide (y2 < ilen y0)
  then bif decide (0 ≤ y2)
    then (y0[y2.toNat]?).bind fun val4 =>
      bif val4.fst == y3 && (val4.snd.fst == y4 && (val4.snd.snd == y5 && true))
        then some (([]), (10))
        else bif !y1
          then bif decide (0 ≤ y2)
            then (y0[y2.toNat]?).bind fun val12 =>
              (ref20_Ahead y3 y4 y5 val12.fst val12.snd.fst val12.snd.snd).bind fun val14 =>
                bif val14
                  then bif decide ((ilen y6 + ilen [(y3, y4, y5)]) * 24 ≤ room)
                    then bif decide (0 ≤ y2)
                      then (y0[y2.toNat]?).bind fun val22 =>
                        bif decide ((ilen (y6 ++ [(y3, y4, y5)]) + ilen [val22]) * 24 ≤ room)
                          then ref20_Add_l0 (y0) (true) (IntKind.i64.wrap (y2 + 1)) (y3) (y4) (y5) (y6 ++ [(y3, y4, y5)] ++ [val22])
                          else none
                      else none
                    else none
                  else bif decide (0 ≤ y2)
                    then (y0[y2.toNat]?).bind fun val20 =>
                      bif decide ((ilen y6 + ilen [val20]) * 24 ≤ room)
                        then ref20_Add_l0 (y0) (y1) (IntKind.i64.wrap (y2 + 1)) (y3) (y4) (y5) (y6 ++ [val20])
                        else none
                    else none
            else none
          else bif decide (0 ≤ y2)
            then (y0[y2.toNat]?).bind fun val12 =>
              bif decide ((ilen y6 + ilen [val12]) * 24 ≤ room)
                then ref20_Add_l0 (y0) (y1) (IntKind.i64.wrap (y2 + 1)) (y3) (y4) (y5) (y6 ++ [val12])
                else none
            else none
    else none
  else bif !y1
    then bif decide ((ilen y6 + ilen [(y3, y4, y5)]) * 24 ≤ room)
      then some ((y6 ++ [(y3, y4, y5)]), (0))
      else none
    else some ((y6), (0)) := (loopAt_step _ _ _ _ _ _ _).trans (by kernel_rfl)
noncomputable def ref20_Add_sig : Sig := { pm := [(false, [(false, .slice (.pair (.int .i64) (.pair (.int .i64) (.int .i64))))]), (true, [(false, .int .i64), (false, .int .i64), (false, .int .i64)])], rm := [(false, [(true, .slice (.pair (.int .i64) (.pair (.int .i64) (.int .i64))))]), (false, [(false, .int .i64)])], f := fun | [⟨.slice (.pair (.int .i64) (.pair (.int .i64) (.int .i64))), x0⟩, ⟨.int .i64, x1⟩, ⟨.int .i64, x2⟩, ⟨.int .i64, x3⟩] => .yes _ (ref20_Add x0 x1 x2 x3) ref20_Add_mk | _ => .no }
theorem ref20_Add_ok : SigOk Try.prog 12 ref20_Add_sig := by
  refine contract_of (C := ref20_Add_C) (d := 3) S11_ok (callable_ex (by kernel_rfl)) ?_
  intro dvs
  unfold ref20_Add_sig
  dsimp only
  split
  · refine .inr ⟨_, ref20_Add_un, ref20_Add_mk, congrArg (fun o => Cl.yes _ o _) (ref20_Add_raw _ _ _ _), ?_⟩
    intro ds x h
    unfold ref20_Add_un at h
    split at h
    · cases h; rfl
    · cases h
  · exact .inl rfl
noncomputable def S12 : List (Nat × Sig) := (12, ref20_Add_sig) :: S11
theorem S12_ok : ListOk Try.prog S12 := ListOk.cons S11_ok ref20_Add_ok
noncomputable def ref20_Same_C : Cfg := { P := Try.prog, sig := lookSig S12, hb := fun f b => bif Nat.beq f 13 && Nat.beq b 0 then some { tmps := [0, 1, 5], obs := [], nils := [], kl := [] } else none, hr := fun _ _ => none }
noncomputable def ref20_Same_un : List DV → Option (Bool) := fun | [⟨.bool, r0⟩] => some r0 | _ => none
noncomputable def ref20_Same_mk : Bool → List DV := fun r0 => [⟨.bool, r0⟩]
theorem ref20_Same_ex : ∃ f : (List (Int × Int × Int)) → (List (Int × Int × Int)) → Option (Bool), f = fun (x0 : List (Int × Int × Int)) (x1 : List (Int × Int × Int)) => funRun ref20_Same_C 3 13 [(false, [(false, .slice (.pair (.int .i64) (.pair (.int .i64) (.int .i64))))]), (false, [(false, .slice (.pair (.int .i64) (.pair (.int .i64) (.int .i64))))])] [(false, [(false, .bool)])] ref20_Same_un [⟨.slice (.pair (.int .i64) (.pair (.int .i64) (.int .i64))), x0⟩, ⟨.slice (.pair (.int .i64) (.pair (.int .i64) (.int .i64))), x1⟩] := ⟨_, rfl⟩
noncomputable def ref20_Same : (List (Int × Int × Int)) → (List (Int × Int × Int)) → Option (Bool) := ref20_Same_ex.choose
theorem ref20_Same_raw (x0 : List (Int × Int × Int)) (x1 : List (Int × Int × Int)) : ref20_Same x0 x1 = funRun ref20_Same_C 3 13 [(false, [(false, .slice (.pair (.int .i64) (.pair (.int .i64) (.int .i64))))]), (false, [(false, .slice (.pair (.int .i64) (.pair (.int .i64) (.int .i64))))])] [(false, [(false, .bool)])] ref20_Same_un [⟨.slice (.pair (.int .i64) (.pair (.int .i64) (.int .i64))), x0⟩, ⟨.slice (.pair (.int .i64) (.pair (.int .i64) (.int .i64))), x1⟩] := congrFun (congrFun (ref20_Same_ex.choose_spec) x0) x1
noncomputable def ref20_Same_l0 (y0 : List ((Int) × ((Int) × (Int)))) (y1 : List ((Int) × ((Int) × (Int)))) (y2 : Int) : Option (Bool) := loopAt ref20_Same_C 3 13 [(false, [(false, .bool)])] ref20_Same_un [true, true, false, true, false] (St.ofLists [(0, .fz ((Ty.int IntKind.i64).pair ((Ty.int IntKind.i64).pair (Ty.int IntKind.i64))) y0 false false), (1, .fz ((Ty.int IntKind.i64).pair ((Ty.int IntKind.i64).pair (Ty.int IntKind.i64))) y1 false false), (5, .int .i64 y2)] [] [])
theorem ref20_Same_eq (x0 : List (Int × Int × Int)) (x1 : List (Int × Int × Int)) : ref20_Same x0 x1 =
  bif ilen x0 != ilen x1
  then some false
  else ref20_Same_l0 (x0) (x1) (0) := (ref20_Same_raw x0 x1).trans (by kernel_rfl)
theorem ref20_Same_l0_eq (y0 : List ((Int) × ((Int) × (Int)))) (y1 : List ((Int) × ((Int) × (Int)))) (y2 : Int) : ref20_Same_l0 y0 y1 y2 =
  bif decide (y2 < ilen y0)
  then bif decide (0 ≤ y2)
    then (y0[y2.toNat]?).bind fun val4 =>
      bif decide (0 ≤ y2)
        then (y1[y2.toNat]?).bind fun val8 =>
          bif !(val4.fst == val8.fst && (val4.snd.fst == val8.snd.fst && (val4.snd.snd == val8.snd.snd && true)))
            then some false
            else ref20_Same_l0 (y0) (y1) (IntKind.i64.wrap (y2 + 1))
        else none
    else none
  else some true := (loopAt_step _ _ _ _ _ _ _).trans (by kernel_rfl)
noncomputable def ref20_Same_sig : Sig := { pm := [(false, [(false, .slice (.pair (.int .i64) (.pair (.int .i64) (.int .i64))))]), (false, [(false, .slice (.pair (.int .i64) (.pair (.int .i64) (.int .i64))))])], rm := [(false, [(false, .bool)])], f := fun | [⟨.slice (.pair (.int .i64) (.pair (.int .i64) (.int .i64))), x0⟩, ⟨.slice (.pair (.int .i64) (.pair (.int .i64) (.int .i64))), x1⟩] => .yes _ (ref20_Same x0 x1) ref20_Same_mk | _ => .no }
theorem ref20_Same_ok : SigOk Try.prog 13 ref20_Same_sig := by
  refine contract_of (C := ref20_Same_C) (d := 3) S12_ok (callable_ex (by kernel_rfl)) ?_
  intro dvs
  unfold ref20_Same_sig
  dsimp only
  split
  · refine .inr ⟨_, ref20_Same_un, ref20_Same_mk, congrArg (fun o => Cl.yes _ o _) (ref20_Same_raw _ _), ?_⟩
    intro ds x h
    unfold ref20_Same_un at h
    split at h
    · cases h; rfl
    · cases h
  · exact .inl rfl
noncomputable def S13 : List (Nat × Sig) := (13, ref20_Same_sig) :: S12
theorem S13_ok : ListOk Try.prog S13 := ListOk.cons S12_ok ref20_Same_ok
noncomputable def timers_SearchDue_C : Cfg := { P := Try.prog, sig := lookSig S13, hb := fun f b => bif Nat.beq f 30 && Nat.beq b 0 then some { tmps := [0, 1, 2, 8, 9, 10], obs := [], nils := [], kl := [] } else none, hr := fun _ _ => none }
noncomputable def timers_SearchDue_un : List DV → Option (Int × Bool) := fun | [⟨.int .i64, r0⟩, ⟨.bool, r1⟩] => some (r0, r1) | _ => none
noncomputable def timers_SearchDue_mk : (Int × Bool) → List DV := fun ⟨r0, r1⟩ => [⟨.int .i64, r0⟩, ⟨.bool, r1⟩]
theorem timers_SearchDue_ex : ∃ f : (List (Int × Int × Int)) → (Int) → Option (Int × Bool), f = fun (x0 : List (Int × Int × Int)) (x1 : Int) => funRun timers_SearchDue_C 3 30 [(false, [(false, .slice (.pair (.int .i64) (.pair (.int .i64) (.int .i64))))]), (false, [(false, .int .i64)]), (false, [(false, .fn 31 (.unit))])] [(false, [(false, .int .i64)]), (false, [(false, .bool)])] timers_SearchDue_un [⟨.slice (.pair (.int .i64) (.pair (.int .i64) (.int .i64))), x0⟩, ⟨.int .i64, x1⟩, ⟨.fn 31 (.unit), ()⟩] := ⟨_, rfl⟩
noncomputable def timers_SearchDue : (List (Int × Int × Int)) → (Int) → Option (Int × Bool) := timers_SearchDue_ex.choose
theorem timers_SearchDue_raw (x0 : List (Int × Int × Int)) (x1 : Int) : timers_SearchDue x0 x1 = funRun timers_SearchDue_C 3 30 [(false, [(false, .slice (.pair (.int .i64) (.pair (.int .i64) (.int .i64))))]), (false, [(false, .int .i64)]), (false, [(false, .fn 31 (.unit))])] [(false, [(false, .int .i64)]), (false, [(false, .bool)])] timers_SearchDue_un [⟨.slice (.pair (.int .i64) (.pair (.int .i64) (.int .i64))), x0⟩, ⟨.int .i64, x1⟩, ⟨.fn 31 (.unit), ()⟩] := congrFun (congrFun (timers_SearchDue_ex.choose_spec) x0) x1
noncomputable def timers_SearchDue_l0 (y0 : List ((Int) × ((Int) × (Int)))) (y1 : Int) (y2 : Int) (y3 : Int) (y4 : Int) : Option (Int × Bool) := loopAt timers_SearchDue_C 3 30 [(false, [(false, .int .i64)]), (false, [(false, .bool)])] timers_SearchDue_un [true, true, true, false, false] (St.ofLists [(0, .fz ((Ty.int IntKind.i64).pair ((Ty.int IntKind.i64).pair (Ty.int IntKind.i64))) y0 false false), (1, .int .i64 y1), (2, .func 31 []), (8, .int .i64 y2), (9, .int .i64 y3), (10, .int .i64 y4)] [] [])
theorem timers_SearchDue_eq (x0 : List (Int × Int × Int)) (x1 : Int) : timers_SearchDue x0 x1 =
  timers_SearchDue_l0 (x0) (x1) (ilen x0) (0) (ilen x0) := (timers_SearchDue_raw x0 x1).trans (by kernel_rfl)
theorem timers_SearchDue_l0_eq (y0 : List ((Int) × ((Int) × (Int)))) (y1 : Int) (y2 : Int) (y3 : Int) (y4 : Int) : timers_SearchDue_l0 y0 y1 y2 y3 y4 =
  bif decide (y3 < y4)
  then bif decide (0 ≤ IntKind.i64.wrap ((IntKind.u64.wrap (IntKind.i64.wrap (y3 + y4))).fdiv (2 ^ min (Int.toNat 1) IntKind.u64.bits)))
    then (y0[(IntKind.i64.wrap ((IntKind.u64.wrap (IntKind.i64.wrap (y3 + y4))).fdiv (2 ^ min (Int.toNat 1) IntKind.u64.bits))).toNat]?).bind fun val4 =>
      bif decide (val4.fst ≤ y1)
        then timers_SearchDue_l0 (y0) (y1) (y2) (IntKind.i64.wrap (IntKind.i64.wrap ((IntKind.u64.wrap (IntKind.i64.wrap (y3 + y4))).fdiv (2 ^ min (Int.toNat 1) IntKind.u64.bits)) + 1)) (y4)
        else timers_SearchDue_l0 (y0) (y1) (y2) (y3) (IntKind.i64.wrap ((IntKind.u64.wrap (IntKind.i64.wrap (y3 + y4))).fdiv (2 ^ min (Int.toNat 1) IntKind.u64.bits)))
    else none
  else bif decide (y3 < y2)
    then bif decide (0 ≤ y3)
      then (y0[y3.toNat]?).bind fun val6 =>
        bif decide (val6.fst ≤ y1)
          then some ((y3), false)
          else some ((y3), false)
      else none
    else some ((y3), false) := (loopAt_step _ _ _ _ _ _ _).trans (by kernel_rfl)
noncomputable def timers_SearchDue_sig : Sig := { pm := [(false, [(false, .slice (.pair (.int .i64) (.pair (.int .i64) (.int .i64))))]), (false, [(false, .int .i64)]), (false, [(false, .fn 31 (.unit))])], rm := [(false, [(false, .int .i64)]), (false, [(false, .bool)])], f := fun | [⟨.slice (.pair (.int .i64) (.pair (.int .i64) (.int .i64))), x0⟩, ⟨.int .i64, x1⟩, ⟨.fn 31 (.unit), ()⟩] => .yes _ (timers_SearchDue x0 x1) timers_SearchDue_mk | _ => .no }
theorem timers_SearchDue_ok : SigOk Try.prog 30 timers_SearchDue_sig := by
  refine contract_of (C := timers_SearchDue_C) (d := 3) S13_ok (callable_ex (by kernel_rfl)) ?_
  intro dvs
  unfold timers_SearchDue_sig
  dsimp only
  split
  · refine .inr ⟨_, timers_SearchDue_un, timers_SearchDue_mk, congrArg (fun o => Cl.yes _ o _) (timers_SearchDue_raw _ _), ?_⟩
    intro ds x h
    unfold timers_SearchDue_un at h
    split at h
    · cases h; rfl
    · cases h
  · exact .inl rfl
noncomputable def S14 : List (Nat × Sig) := (30, timers_SearchDue_sig) :: S13
theorem S14_ok : ListOk Try.prog S14 := ListOk.cons S13_ok timers_SearchDue_ok
noncomputable def timers_Due_C : Cfg := { P := Try.prog, sig := lookSig S14, hb := fun _ _ => none, hr := fun _ _ => none }
noncomputable def timers_Due_un : List DV → Option ((List (Int × Int × Int)) × (List (Int × Int × Int))) := fun | [⟨.slice (.pair (.int .i64) (.pair (.int .i64) (.int .i64))), r0⟩, ⟨.slice (.pair (.int .i64) (.pair (.int .i64) (.int .i64))), r1⟩] => some (r0, r1) | _ => none
noncomputable def timers_Due_mk : ((List (Int × Int × Int)) × (List (Int × Int × Int))) → List DV := fun ⟨r0, r1⟩ => [⟨.slice (.pair (.int .i64) (.pair (.int .i64) (.int .i64))), r0⟩, ⟨.slice (.pair (.int .i64) (.pair (.int .i64) (.int .i64))), r1⟩]
theorem timers_Due_ex : ∃ f : (List (Int × Int × Int)) → (Int) → Option ((List (Int × Int × Int)) × (List (Int × Int × Int))), f = fun (x0 : List (Int × Int × Int)) (x1 : Int) => funRun timers_Due_C 3 14 [(false, [(false, .slice (.pair (.int .i64) (.pair (.int .i64) (.int .i64))))]), (false, [(false, .int .i64)])] [(false, [(false, .slice (.pair (.int .i64) (.pair (.int .i64) (.int .i64))))]), (false, [(false, .slice (.pair (.int .i64) (.pair (.int .i64) (.int .i64))))])] timers_Due_un [⟨.slice (.pair (.int .i64) (.pair (.int .i64) (.int .i64))), x0⟩, ⟨.int .i64, x1⟩] := ⟨_, rfl⟩
noncomputable def timers_Due : (List (Int × Int × Int)) → (Int) → Option ((List (Int × Int × Int)) × (List (Int × Int × Int))) := timers_Due_ex.choose
theorem timers_Due_raw (x0 : List (Int × Int × Int)) (x1 : Int) : timers_Due x0 x1 = funRun timers_Due_C 3 14 [(false, [(false, .slice (.pair (.int .i64) (.pair (.int .i64) (.int .i64))))]), (false, [(false, .int .i64)])] [(false, [(false, .slice (.pair (.int .i64) (.pair (.int .i64) (.int .i64))))]), (false, [(false, .slice (.pair (.int .i64) (.pair (.int .i64) (.int .i64))))])] timers_Due_un [⟨.slice (.pair (.int .i64) (.pair (.int .i64) (.int .i64))), x0⟩, ⟨.int .i64, x1⟩] := congrFun (congrFun (timers_Due_ex.choose_spec) x0) x1
theorem timers_Due_eq (x0 : List (Int × Int × Int)) (x1 : Int) : timers_Due x0 x1 =
  (timers_SearchDue x0 x1).bind fun val0 =>
  bif decide (0 ≤ val0.1)
    then bif decide (val0.1 ≤ ilen x0)
      then (timers_Clone (List.drop (Int.toNat 0) (List.take val0.1.toNat x0))).bind fun val6 =>
        bif decide (0 ≤ val0.1)
          then bif decide (val0.1 ≤ ilen x0)
            then bif decide (ilen x0 ≤ ilen x0)
              then (timers_Clone (List.drop val0.1.toNat (List.take (ilen x0).toNat x0))).bind fun val14 =>
                some ((val6), (val14))
              else none
            else none
          else none
      else none
    else none := (timers_Due_raw x0 x1).trans (by kernel_rfl)
noncomputable def timers_Due_sig : Sig := { pm := [(false, [(false, .slice (.pair (.int .i64) (.pair (.int .i64) (.int .i64))))]), (false, [(false, .int .i64)])], rm := [(false, [(false, .slice (.pair (.int .i64) (.pair (.int .i64) (.int .i64))))]), (false, [(false, .slice (.pair (.int .i64) (.pair (.int .i64) (.int .i64))))])], f := fun | [⟨.slice (.pair (.int .i64) (.pair (.int .i64) (.int .i64))), x0⟩, ⟨.int .i64, x1⟩] => .yes _ (timers_Due x0 x1) timers_Due_mk | _ => .no }
theorem timers_Due_ok : SigOk Try.prog 14 timers_Due_sig := by
  refine contract_of (C := timers_Due_C) (d := 3) S14_ok (callable_ex (by kernel_rfl)) ?_
  intro dvs
  unfold timers_Due_sig
  dsimp only
  split
  · refine .inr ⟨_, timers_Due_un, timers_Due_mk, congrArg (fun o => Cl.yes _ o _) (timers_Due_raw _ _), ?_⟩
    intro ds x h
    unfold timers_Due_un at h
    split at h
    · cases h; rfl
    · cases h
  · exact .inl rfl
noncomputable def S15 : List (Nat × Sig) := (14, timers_Due_sig) :: S14
theorem S15_ok : ListOk Try.prog S15 := ListOk.cons S14_ok timers_Due_ok
noncomputable def ref20_Due_C : Cfg := { P := Try.prog, sig := lookSig S15, hb := fun f b => bif Nat.beq f 15 && Nat.beq b 0 then some { tmps := [0, 1, 6, 7, 8], obs := [60, 61], nils := [(6, 60, (.pair (.int .i64) (.pair (.int .i64) (.int .i64)))), (7, 61, (.pair (.int .i64) (.pair (.int .i64) (.int .i64))))], kl := [324, 316, 380, 372, 61, 60] } else none, hr := fun _ _ => none }
noncomputable def ref20_Due_un : List DV → Option ((List (Int × Int × Int)) × (List (Int × Int × Int))) := fun | [⟨.slice (.pair (.int .i64) (.pair (.int .i64) (.int .i64))), r0⟩, ⟨.slice (.pair (.int .i64) (.pair (.int .i64) (.int .i64))), r1⟩] => some (r0, r1) | _ => none
noncomputable def ref20_Due_mk : ((List (Int × Int × Int)) × (List (Int × Int × Int))) → List DV := fun ⟨r0, r1⟩ => [⟨.slice (.pair (.int .i64) (.pair (.int .i64) (.int .i64))), r0⟩, ⟨.slice (.pair (.int .i64) (.pair (.int .i64) (.int .i64))), r1⟩]
theorem ref20_Due_ex : ∃ f : (List (Int × Int × Int)) → (Int) → Option ((List (Int × Int × Int)) × (List (Int × Int × Int))), f = fun (x0 : List (Int × Int × Int)) (x1 : Int) => funRun ref20_Due_C 3 15 [(false, [(false, .slice (.pair (.int .i64) (.pair (.int .i64) (.int .i64))))]), (false, [(false, .int .i64)])] [(false, [(true, .slice (.pair (.int .i64) (.pair (.int .i64) (.int .i64))))]), (false, [(true, .slice (.pair (.int .i64) (.pair (.int .i64) (.int .i64))))])] ref20_Due_un [⟨.slice (.pair (.int .i64) (.pair (.int .i64) (.int .i64))), x0⟩, ⟨.int .i64, x1⟩] := ⟨_, rfl⟩
noncomputable def ref20_Due : (List (Int × Int × Int)) → (Int) → Option ((List (Int × Int × Int)) × (List (Int × Int × Int))) := ref20_Due_ex.choose
theorem ref20_Due_raw (x0 : List (Int × Int × Int)) (x1 : Int) : ref20_Due x0 x1 = funRun ref20_Due_C 3 15 [(false, [(false, .slice (.pair (.int .i64) (.pair (.int .i64) (.int .i64))))]), (false, [(false, .int .i64)])] [(false, [(true, .slice (.pair (.int .i64) (.pair (.int .i64) (.int .i64))))]), (false, [(true, .slice (.pair (.int .i64) (.pair (.int .i64) (.int .i64))))])] ref20_Due_un [⟨.slice (.pair (.int .i64) (.pair (.int .i64) (.int .i64))), x0⟩, ⟨.int .i64, x1⟩] := congrFun (congrFun (ref20_Due_ex.choose_spec) x0) x1
noncomputable def ref20_Due_l0 (y0 : List ((Int) × ((Int) × (Int)))) (y1 : Int) (y2 : Int) (y3 : List ((Int) × ((Int) × (Int)))) (y4 : List ((Int) × ((Int) × (Int)))) : Option ((List (Int × Int × Int)) × (List (Int × Int × Int))) := loopAt ref20_Due_C 3 15 [(false, [(true, .slice (.pair (.int .i64) (.pair (.int .i64) (.int .i64))))]), (false, [(true, .slice (.pair (.int .i64) (.pair (.int .i64) (.int .i64))))])] ref20_Due_un [true, true, false, true, false] (St.ofLists [(0, .fz ((Ty.int IntKind.i64).pair ((Ty.int IntKind.i64).pair (Ty.int IntKind.i64))) y0 false false), (1, .int .i64 y1), (6, .ow 60), (7, .ow 61), (8, .int .i64 y2)] [(60, some (.row ((Ty.int IntKind.i64).pair ((Ty.int IntKind.i64).pair (Ty.int IntKind.i64))) y3 0 false)), (61, some (.row ((Ty.int IntKind.i64).pair ((Ty.int IntKind.i64).pair (Ty.int IntKind.i64))) y4 0 false))] [324, 316, 380, 372, 61, 60])
theorem ref20_Due_eq (x0 : List (Int × Int × Int)) (x1 : Int) : ref20_Due x0 x1 =
  ref20_Due_l0 (x0) (x1) (0) ([]) ([]) := (ref20_Due_raw x0 x1).trans (by kernel_rfl)
theorem ref20_Due_l0_eq (y0 : List ((Int) × ((Int) × (Int)))) (y1 : Int) (y2 : Int) (y3 : List ((Int) × ((Int) × (Int)))) (y4 : List ((Int) × ((Int) × (Int)))) : ref20_Due_l0 y0 y1 y2 y3 y4 =
  bif decide (y2 < ilen y0)
  then bif decide (0 ≤ y2)
    then (y0[y2.toNat]?).bind fun val4 =>
      bif decide (val4.fst ≤ y1)
        then bif decide (0 ≤ y2)
          then (y0[y2.toNat]?).bind fun val10 =>
            bif decide ((ilen y3 + ilen [val10]) * 24 ≤ room)
              then ref20_Due_l0 (y0) (y1) (IntKind.i64.wrap (y2 + 1)) (y3 ++ [val10]) (y4)
              else none
          else none
        else bif decide (0 ≤ y2)
          then (y0[y2.toNat]?).bind fun val10 =>
            bif decide ((ilen y4 + ilen [val10]) * 24 ≤ room)
              then ref20_Due_l0 (y0) (y1) (IntKind.i64.wrap (y2 + 1)) (y3) (y4 ++ [val10])
              else none
          else none
    else none
  else some ((y3), (y4)) := (loopAt_step _ _ _ _ _ _ _).trans (by kernel_rfl)
noncomputable def ref20_Due_sig : Sig := { pm := [(false, [(false, .slice (.pair (.int .i64) (.pair (.int .i64) (.int .i64))))]), (false, [(false, .int .i64)])], rm := [(false, [(true, .slice (.pair (.int .i64) (.pair (.int .i64) (.int .i64))))]), (false, [(true, .slice (.pair (.int .i64) (.pair (.int .i64) (.int .i64))))])], f := fun | [⟨.slice (.pair (.int .i64) (.pair (.int .i64) (.int .i64))), x0⟩, ⟨.int .i64, x1⟩] => .yes _ (ref20_Due x0 x1) ref20_Due_mk | _ => .no }
theorem ref20_Due_ok : SigOk Try.prog 15 ref20_Due_sig := by
  refine contract_of (C := ref20_Due_C) (d := 3) S15_ok (callable_ex (by kernel_rfl)) ?_
  intro dvs
  unfold ref20_Due_sig
  dsimp only
  split
  · refine .inr ⟨_, ref20_Due_un, ref20_Due_mk, congrArg (fun o => Cl.yes _ o _) (ref20_Due_raw _ _), ?_⟩
    intro ds x h
    unfold ref20_Due_un at h
    split at h
    · cases h; rfl
    · cases h
  · exact .inl rfl
noncomputable def S16 : List (Nat × Sig) := (15, ref20_Due_sig) :: S15
theorem S16_ok : ListOk Try.prog S16 := ListOk.cons S15_ok ref20_Due_ok
noncomputable def timers_Next_C : Cfg := { P := Try.prog, sig := lookSig S16, hb := fun _ _ => none, hr := fun _ _ => none }
noncomputable def timers_Next_un : List DV → Option (Int × Bool) := fun | [⟨.int .i64, r0⟩, ⟨.bool, r1⟩] => some (r0, r1) | _ => none
noncomputable def timers_Next_mk : (Int × Bool) → List DV := fun ⟨r0, r1⟩ => [⟨.int .i64, r0⟩, ⟨.bool, r1⟩]
theorem timers_Next_ex : ∃ f : (List (Int × Int × Int)) → Option (Int × Bool), f = fun (x0 : List (Int × Int × Int)) => funRun timers_Next_C 3 16 [(false, [(false, .slice (.pair (.int .i64) (.pair (.int .i64) (.int .i64))))])] [(false, [(false, .int .i64)]), (false, [(false, .bool)])] timers_Next_un [⟨.slice (.pair (.int .i64) (.pair (.int .i64) (.int .i64))), x0⟩] := ⟨_, rfl⟩
noncomputable def timers_Next : (List (Int × Int × Int)) → Option (Int × Bool) := timers_Next_ex.choose
theorem timers_Next_raw (x0 : List (Int × Int × Int)) : timers_Next x0 = funRun timers_Next_C 3 16 [(false, [(false, .slice (.pair (.int .i64) (.pair (.int .i64) (.int .i64))))])] [(false, [(false, .int .i64)]), (false, [(false, .bool)])] timers_Next_un [⟨.slice (.pair (.int .i64) (.pair (.int .i64) (.int .i64))), x0⟩] := congrFun (timers_Next_ex.choose_spec) x0
theorem timers_Next_eq (x0 : List (Int × Int × Int)) : timers_Next x0 =
  bif ilen x0 == 0
  then some ((0), false)
  else (x0[Int.toNat 0]?).bind fun val2 =>
    some ((val2.fst), true) := (timers_Next_raw x0).trans (by kernel_rfl)
noncomputable def timers_Next_sig : Sig := { pm := [(false, [(false, .slice (.pair (.int .i64) (.pair (.int .i64) (.int .i64))))])], rm := [(false, [(false, .int .i64)]), (false, [(false, .bool)])], f := fun | [⟨.slice (.pair (.int .i64) (.pair (.int .i64) (.int .i64))), x0⟩] => .yes _ (timers_Next x0) timers_Next_mk | _ => .no }
theorem timers_Next_ok : SigOk Try.prog 16 timers_Next_sig := by
  refine contract_of (C := timers_Next_C) (d := 3) S16_ok (callable_ex (by kernel_rfl)) ?_
  intro dvs
  unfold timers_Next_sig
  dsimp only
  split
  · refine .inr ⟨_, timers_Next_un, timers_Next_mk, congrArg (fun o => Cl.yes _ o _) (timers_Next_raw _), ?_⟩
    intro ds x h
    unfold timers_Next_un at h
    split at h
    · cases h; rfl
    · cases h
  · exact .inl rfl
noncomputable def S17 : List (Nat × Sig) := (16, timers_Next_sig) :: S16
theorem S17_ok : ListOk Try.prog S17 := ListOk.cons S16_ok timers_Next_ok
noncomputable def ref20_Next_C : Cfg := { P := Try.prog, sig := lookSig S17, hb := fun f b => bif Nat.beq f 17 && Nat.beq b 0 then some { tmps := [0, 4, 5], obs := [], nils := [], kl := [] } else none, hr := fun _ _ => none }
noncomputable def ref20_Next_un : List DV → Option (Int × Bool) := fun | [⟨.int .i64, r0⟩, ⟨.bool, r1⟩] => some (r0, r1) | _ => none
noncomputable def ref20_Next_mk : (Int × Bool) → List DV := fun ⟨r0, r1⟩ => [⟨.int .i64, r0⟩, ⟨.bool, r1⟩]
theorem ref20_Next_ex : ∃ f : (List (Int × Int × Int)) → Option (Int × Bool), f = fun (x0 : List (Int × Int × Int)) => funRun ref20_Next_C 3 17 [(false, [(false, .slice (.pair (.int .i64) (.pair (.int .i64) (.int .i64))))])] [(false, [(false, .int .i64)]), (false, [(false, .bool)])] ref20_Next_un [⟨.slice (.pair (.int .i64) (.pair (.int .i64) (.int .i64))), x0⟩] := ⟨_, rfl⟩
noncomputable def ref20_Next : (List (Int × Int × Int)) → Option (Int × Bool) := ref20_Next_ex.choose
theorem ref20_Next_raw (x0 : List (Int × Int × Int)) : ref20_Next x0 = funRun ref20_Next_C 3 17 [(false, [(false, .slice (.pair (.int .i64) (.pair (.int .i64) (.int .i64))))])] [(false, [(false, .int .i64)]), (false, [(false, .bool)])] ref20_Next_un [⟨.slice (.pair (.int .i64) (.pair (.int .i64) (.int .i64))), x0⟩] := congrFun (ref20_Next_ex.choose_spec) x0
noncomputable def ref20_Next_l0 (y0 : List ((Int) × ((Int) × (Int)))) (y1 : Int) (y2 : Int) : Option (Int × Bool) := loopAt ref20_Next_C 3 17 [(false, [(false, .int .i64)]), (false, [(false, .bool)])] ref20_Next_un [true, true, true, false, true, false] (St.ofLists [(0, .fz ((Ty.int IntKind.i64).pair ((Ty.int IntKind.i64).pair (Ty.int IntKind.i64))) y0 false false), (4, .int .i64 y1), (5, .int .i64 y2)] [] [])
theorem ref20_Next_eq (x0 : List (Int × Int × Int)) : ref20_Next x0 =
  bif ilen x0 == 0
  then some ((0), false)
  else (x0[Int.toNat 0]?).bind fun val2 =>
    ref20_Next_l0 (x0) (val2.fst) (0) := (ref20_Next_raw x0).trans (by kernel_rfl)
theorem ref20_Next_l0_eq (y0 : List ((Int) × ((Int) × (Int)))) (y1 : Int) (y2 : Int) : ref20_Next_l0 y0 y1 y2 =
  bif decide (y2 < ilen y0)
  then bif decide (0 ≤ y2)
    then (y0[y2.toNat]?).bind fun val4 =>
      bif decide (val4.fst < y1)
        then bif decide (0 ≤ y2)
          then (y0[y2.toNat]?).bind fun val10 =>
            ref20_Next_l0 (y0) (val10.fst) (IntKind.i64.wrap (y2 + 1))
          else none
        else ref20_Next_l0 (y0) (y1) (IntKind.i64.wrap (y2 + 1))
    else none
  else some ((y1), true) := (loopAt_step _ _ _ _ _ _ _).trans (by kernel_rfl)
noncomputable def ref20_Next_sig : Sig := { pm := [(false, [(false, .slice (.pair (.int .i64) (.pair (.int .i64) (.int .i64))))])], rm := [(false, [(false, .int .i64)]), (false, [(false, .bool)])], f := fun | [⟨.slice (.pair (.int .i64) (.pair (.int .i64) (.int .i64))), x0⟩] => .yes _ (ref20_Next x0) ref20_Next_mk | _ => .no }
theorem ref20_Next_ok : SigOk Try.prog 17 ref20_Next_sig := by
  refine contract_of (C := ref20_Next_C) (d := 3) S17_ok (callable_ex (by kernel_rfl)) ?_
  intro dvs
  unfold ref20_Next_sig
  dsimp only
  split
  · refine .inr ⟨_, ref20_Next_un, ref20_Next_mk, congrArg (fun o => Cl.yes _ o _) (ref20_Next_raw _), ?_⟩
    intro ds x h
    unfold ref20_Next_un at h
    split at h
    · cases h; rfl
    · cases h
  · exact .inl rfl
noncomputable def S18 : List (Nat × Sig) := (17, ref20_Next_sig) :: S17
theorem S18_ok : ListOk Try.prog S18 := ListOk.cons S17_ok ref20_Next_ok
noncomputable def timers_IndexFunc_C : Cfg := { P := Try.prog, sig := lookSig S18, hb := fun f b => bif Nat.beq f 38 && Nat.beq b 0 then some { tmps := [0, 1, 7, 8], obs := [], nils := [], kl := [] } else none, hr := fun _ _ => none }
noncomputable def timers_IndexFunc_un : List DV → Option (Int) := fun | [⟨.int .i64, r0⟩] => some r0 | _ => none
noncomputable def timers_IndexFunc_mk : Int → List DV := fun r0 => [⟨.int .i64, r0⟩]
theorem timers_IndexFunc_ex : ∃ f : (List (Int × Int × Int)) → (Int) → Option (Int), f = fun (x0 : List (Int × Int × Int)) (x1 : Int) => funRun timers_IndexFunc_C 3 38 [(false, [(false, .slice (.pair (.int .i64) (.pair (.int .i64) (.int .i64))))]), (false, [(false, .fn 33 (.ref (.int .i64)))])] [(false, [(false, .int .i64)])] timers_IndexFunc_un [⟨.slice (.pair (.int .i64) (.pair (.int .i64) (.int .i64))), x0⟩, ⟨.fn 33 (.ref (.int .i64)), x1⟩] := ⟨_, rfl⟩
noncomputable def timers_IndexFunc : (List (Int × Int × Int)) → (Int) → Option (Int) := timers_IndexFunc_ex.choose
theorem timers_IndexFunc_raw (x0 : List (Int × Int × Int)) (x1 : Int) : timers_IndexFunc x0 x1 = funRun timers_IndexFunc_C 3 38 [(false, [(false, .slice (.pair (.int .i64) (.pair (.int .i64) (.int .i64))))]), (false, [(false, .fn 33 (.ref (.int .i64)))])] [(false, [(false, .int .i64)])] timers_IndexFunc_un [⟨.slice (.pair (.int .i64) (.pair (.int .i64) (.int .i64))), x0⟩, ⟨.fn 33 (.ref (.int .i64)), x1⟩] := congrFun (congrFun (timers_IndexFunc_ex.choose_spec) x0) x1
noncomputable def timers_IndexFunc_l0 (y0 : List ((Int) × ((Int) × (Int)))) (y1 : (Int)) (y2 : Int) (y3 : Int) : Option (Int) := loopAt timers_IndexFunc_C 3 38 [(false, [(false, .int .i64)])] timers_IndexFunc_un [true, false, true, false] (St.ofLists [(0, .fz ((Ty.int IntKind.i64).pair ((Ty.int IntKind.i64).pair (Ty.int IntKind.i64))) y0 false false), (1, .func 33 [.fptr (Ty.int IntKind.i64) y1 0]), (7, .int .i64 y2), (8, .int .i64 y3)] [] [])
theorem timers_IndexFunc_eq (x0 : List (Int × Int × Int)) (x1 : Int) : timers_IndexFunc x0 x1 =
  timers_IndexFunc_l0 (x0) (x1) (ilen x0) (0) := (timers_IndexFunc_raw x0 x1).trans (by kernel_rfl)
theorem timers_IndexFunc_l0_eq (y0 : List ((Int) × ((Int) × (Int)))) (y1 : (Int)) (y2 : Int) (y3 : Int) : timers_IndexFunc_l0 y0 y1 y2 y3 =
  bif decide (y3 < y2)
  then bif decide (0 ≤ y3)
    then (y0[y3.toNat]?).bind fun val4 =>
      bif val4.snd.fst == y1
        then some (y3)
        else timers_IndexFunc_l0 (y0) (y1) (y2) (IntKind.i64.wrap (y3 + 1))
    else none
  else some (-1) := (loopAt_step _ _ _ _ _ _ _).trans (by kernel_rfl)
noncomputable def timers_IndexFunc_sig : Sig := { pm := [(false, [(false, .slice (.pair (.int .i64) (.pair (.int .i64) (.int .i64))))]), (false, [(false, .fn 33 (.ref (.int .i64)))])], rm := [(false, [(false, .int .i64)])], f := fun | [⟨.slice (.pair (.int .i64) (.pair (.int .i64) (.int .i64))), x0⟩, ⟨.fn 33 (.ref (.int .i64)), x1⟩] => .yes _ (timers_IndexFunc x0 x1) timers_IndexFunc_mk | _ => .no }
theorem timers_IndexFunc_ok : SigOk Try.prog 38 timers_IndexFunc_sig := by
  refine contract_of (C := timers_IndexFunc_C) (d := 3) S18_ok (callable_ex (by kernel_rfl)) ?_
  intro dvs
  unfold timers_IndexFunc_sig
  dsimp only
  split
  · refine .inr ⟨_, timers_IndexFunc_un, timers_IndexFunc_mk, congrArg (fun o => Cl.yes _ o _) (timers_IndexFunc_raw _ _), ?_⟩
    intro ds x h
    unfold timers_IndexFunc_un at h
    split at h
    · cases h; rfl
    · cases h
  · exact .inl rfl
noncomputable def S19 : List (Nat × Sig) := (38, timers_IndexFunc_sig) :: S18
theorem S19_ok : ListOk Try.prog S19 := ListOk.cons S18_ok timers_IndexFunc_ok
noncomputable def timers_DeleteFunc_C : Cfg := { P := Try.prog, sig := lookSig S19, hb := fun f b => bif Nat.beq f 32 && Nat.beq b 0 then some { tmps := [0, 1, 5, 6], obs := [0], nils := [], kl := [156] } else none, hr := fun _ _ => none }
noncomputable def timers_DeleteFunc_un : List DV → Option ((List (Int × Int × Int))) := fun | [⟨.slice (.pair (.int .i64) (.pair (.int .i64) (.int .i64))), r0⟩] => some r0 | _ => none
noncomputable def timers_DeleteFunc_mk : (List (Int × Int × Int)) → List DV := fun r0 => [⟨.slice (.pair (.int .i64) (.pair (.int .i64) (.int .i64))), r0⟩]
theorem timers_DeleteFunc_ex : ∃ f : (List (Int × Int × Int)) → (Int) → Option ((List (Int × Int × Int))), f = fun (x0 : List (Int × Int × Int)) (x1 : Int) => funRun timers_DeleteFunc_C 3 32 [(false, [(true, .slice (.pair (.int .i64) (.pair (.int .i64) (.int .i64))))]), (false, [(false, .fn 33 (.ref (.int .i64)))])] [(false, [(true, .slice (.pair (.int .i64) (.pair (.int .i64) (.int .i64))))])] timers_DeleteFunc_un [⟨.slice (.pair (.int .i64) (.pair (.int .i64) (.int .i64))), x0⟩, ⟨.fn 33 (.ref (.int .i64)), x1⟩] := ⟨_, rfl⟩
noncomputable def timers_DeleteFunc : (List (Int × Int × Int)) → (Int) → Option ((List (Int × Int × Int))) := timers_DeleteFunc_ex.choose
theorem timers_DeleteFunc_raw (x0 : List (Int × Int × Int)) (x1 : Int) : timers_DeleteFunc x0 x1 = funRun timers_DeleteFunc_C 3 32 [(false, [(true, .slice (.pair (.int .i64) (.pair (.int .i64) (.int .i64))))]), (false, [(false, .fn 33 (.ref (.int .i64)))])] [(false, [(true, .slice (.pair (.int .i64) (.pair (.int .i64) (.int .i64))))])] timers_DeleteFunc_un [⟨.slice (.pair (.int .i64) (.pair (.int .i64) (.int .i64))), x0⟩, ⟨.fn 33 (.ref (.int .i64)), x1⟩] := congrFun (congrFun (timers_DeleteFunc_ex.choose_spec) x0) x1
noncomputable def timers_DeleteFunc_l0 (y0 : (Int)) (y1 : Int) (y2 : Int) (y3 : List ((Int) × ((Int) × (Int)))) : Option ((List (Int × Int × Int))) := loopAt timers_DeleteFunc_C 3 32 [(false, [(true, .slice (.pair (.int .i64) (.pair (.int .i64) (.int .i64))))])] timers_DeleteFunc_un [true, true, true, false, true, false] (St.ofLists [(0, .ow 0), (1, .func 33 [.fptr (Ty.int IntKind.i64) y0 0]), (5, .int .i64 y1), (6, .int .i64 y2)] [(0, some (.row ((Ty.int IntKind.i64).pair ((Ty.int IntKind.i64).pair (Ty.int IntKind.i64))) y3 0 false))] [156])
theorem timers_DeleteFunc_eq (x0 : List (Int × Int × Int)) (x1 : Int) : timers_DeleteFunc x0 x1 =
  (timers_IndexFunc x0 x1).bind fun val0 =>
  bif val0 == -1
    then some (x0)
    else timers_DeleteFunc_l0 (x1) (val0) (IntKind.i64.wrap (val0 + 1)) (x0) := (timers_DeleteFunc_raw x0 x1).trans (by kernel_rfl)
theorem timers_DeleteFunc_l0_eq (y0 : (Int)) (y1 : Int) (y2 : Int) (y3 : List ((Int) × ((Int) × (Int)))) : timers_DeleteFunc_l0 y0 y1 y2 y3 =
  bif decide (y2 < ilen y3)
  then bif decide (0 ≤ y2)
    then bif decide (y2 < ilen y3)
      then (y3[y2.toNat]?).bind fun val6 =>
        bif !val6.snd.fst == y0
          then bif decide (0 ≤ y1)
            then bif decide (y1 < ilen y3)
              then (y3[y1.toNat]?).bind fun val14 =>
                timers_DeleteFunc_l0 (y0) (IntKind.i64.wrap (y1 + 1)) (IntKind.i64.wrap (y2 + 1)) (y3.set y1.toNat val6)
              else none
            else none
          else timers_DeleteFunc_l0 (y0) (y1) (IntKind.i64.wrap (y2 + 1)) (y3)
      else none
    else none
  else bif decide (0 ≤ y1)
    then bif decide (y1 ≤ ilen y3)
      then bif decide (ilen y3 ≤ ilen y3)
        then bif (y1.toNat + ((ilen y3).toNat - y1.toNat)).ble (max 0 y3.length)
          then bif decide (0 ≤ y1)
            then bif decide (y1 ≤ ilen (List.take y1.toNat y3 ++ List.replicate (min ((ilen y3).toNat - y1.toNat) (y3.length - y1.toNat)) (zeroOf ((Ty.int IntKind.i64).pair ((Ty.int IntKind.i64).pair (Ty.int IntKind.i64)))) ++ List.drop (y1.toNat + ((ilen y3).toNat - y1.toNat)) y3))
              then bif (y1.toNat - Int.toNat 0).ble (List.take y1.toNat y3 ++ List.replicate (min ((ilen y3).toNat - y1.toNat) (y3.length - y1.toNat)) (zeroOf ((Ty.int IntKind.i64).pair ((Ty.int IntKind.i64).pair (Ty.int IntKind.i64)))) ++ List.drop (y1.toNat + ((ilen y3).toNat - y1.toNat)) y3).length
                then some (List.take (y1.toNat - Int.toNat 0) (List.take y1.toNat y3 ++ List.replicate (min ((ilen y3).toNat - y1.toNat) (y3.length - y1.toNat)) (zeroOf ((Ty.int IntKind.i64).pair ((Ty.int IntKind.i64).pair (Ty.int IntKind.i64)))) ++ List.drop (y1.toNat + ((ilen y3).toNat - y1.toNat)) y3))
                else none
              else bif decide (y1 ≤ ↑0)
                then bif (y1.toNat - Int.toNat 0).ble (List.take y1.toNat y3 ++ List.replicate (min ((ilen y3).toNat - y1.toNat) (y3.length - y1.toNat)) (zeroOf ((Ty.int IntKind.i64).pair ((Ty.int IntKind.i64).pair (Ty.int IntKind.i64)))) ++ List.drop (y1.toNat + ((ilen y3).toNat - y1.toNat)) y3).length
                  then some (List.take (y1.toNat - Int.toNat 0) (List.take y1.toNat y3 ++ List.replicate (min ((ilen y3).toNat - y1.toNat) (y3.length - y1.toNat)) (zeroOf ((Ty.int IntKind.i64).pair ((Ty.int IntKind.i64).pair (Ty.int IntKind.i64)))) ++ List.drop (y1.toNat + ((ilen y3).toNat - y1.toNat)) y3))
                  else none
                else none
            else none
          else none
        else bif decide (ilen y3 ≤ ↑0)
          then bif (y1.toNat + ((ilen y3).toNat - y1.toNat)).ble (max 0 y3.length)
            then bif decide (0 ≤ y1)
              then bif decide (y1 ≤ ilen (List.take y1.toNat y3 ++ List.replicate (min ((ilen y3).toNat - y1.toNat) (y3.length - y1.toNat)) (zeroOf ((Ty.int IntKind.i64).pair ((Ty.int IntKind.i64).pair (Ty.int IntKind.i64)))) ++ List.drop (y1.toNat + ((ilen y3).toNat - y1.toNat)) y3))
                then bif (y1.toNat - Int.toNat 0).ble (List.take y1.toNat y3 ++ List.replicate (min ((ilen y3).toNat - y1.toNat) (y3.length - y1.toNat)) (zeroOf ((Ty.int IntKind.i64).pair ((Ty.int IntKind.i64).pair (Ty.int IntKind.i64)))) ++ List.drop (y1.toNat + ((ilen y3).toNat - y1.toNat)) y3).length
                  then some (List.take (y1.toNat - Int.toNat 0) (List.take y1.toNat y3 ++ List.replicate (min ((ilen y3).toNat - y1.toNat) (y3.length - y1.toNat)) (zeroOf ((Ty.int IntKind.i64).pair ((Ty.int IntKind.i64).pair (Ty.int IntKind.i64)))) ++ List.drop (y1.toNat + ((ilen y3).toNat - y1.toNat)) y3))
                  else none
                else bif decide (y1 ≤ ↑0)
                  then bif (y1.toNat - Int.toNat 0).ble (List.take y1.toNat y3 ++ List.replicate (min ((ilen y3).toNat - y1.toNat) (y3.length - y1.toNat)) (zeroOf ((Ty.int IntKind.i64).pair ((Ty.int IntKind.i64).pair (Ty.int IntKind.i64)))) ++ List.drop (y1.toNat + ((ilen y3).toNat - y1.toNat)) y3).length
                    then some (List.take (y1.toNat - Int.toNat 0) (List.take y1.toNat y3 ++ List.replicate (min ((ilen y3).toNat - y1.toNat) (y3.length - y1.toNat)) (zeroOf ((Ty.int IntKind.i64).pair ((Ty.int IntKind.i64).pair (Ty.int IntKind.i64)))) ++ List.drop (y1.toNat + ((ilen y3).toNat - y1.toNat)) y3))
                    else none
                  else none
              else none
            else none
          else none
      else none
    else none := (loopAt_step _ _ _ _ _ _ _).trans (by kernel_rfl)
noncomputable def timers_DeleteFunc_sig : Sig := { pm := [(false, [(true, .slice (.pair (.int .i64) (.pair (.int .i64) (.int .i64))))]), (false, [(false, .fn 33 (.ref (.int .i64)))])], rm := [(false, [(true, .slice (.pair (.int .i64) (.pair (.int .i64) (.int .i64))))])], f := fun | [⟨.slice (.pair (.int .i64) (.pair (.int .i64) (.int .i64))), x0⟩, ⟨.fn 33 (.ref (.int .i64)), x1⟩] => .yes _ (timers_DeleteFunc x0 x1) timers_DeleteFunc_mk | _ => .no }
theorem timers_DeleteFunc_ok : SigOk Try.prog 32 timers_DeleteFunc_sig := by
  refine contract_of (C := timers_DeleteFunc_C) (d := 3) S19_ok (callable_ex (by kernel_rfl)) ?_
  intro dvs
  unfold timers_DeleteFunc_sig
  dsimp only
  split
  · refine .inr ⟨_, timers_DeleteFunc_un, timers_DeleteFunc_mk, congrArg (fun o => Cl.yes _ o _) (timers_DeleteFunc_raw _ _), ?_⟩
    intro ds x h
    unfold timers_DeleteFunc_un at h
    split at h
    · cases h; rfl
    · cases h
  · exact .inl rfl
noncomputable def S20 : List (Nat × Sig) := (32, timers_DeleteFunc_sig) :: S19
theorem S20_ok : ListOk Try.prog S20 := ListOk.cons S19_ok timers_DeleteFunc_ok
noncomputable def timers_Without_C : Cfg := { P := Try.prog, sig := lookSig S20, hb := fun _ _ => none, hr := fun _ _ => none }
noncomputable def timers_Without_un : List DV → Option ((List (Int × Int × Int))) := fun | [⟨.slice (.pair (.int .i64) (.pair (.int .i64) (.int .i64))), r0⟩] => some r0 | _ => none
noncomputable def timers_Without_mk : (List (Int × Int × Int)) → List DV := fun r0 => [⟨.slice (.pair (.int .i64) (.pair (.int .i64) (.int .i64))), r0⟩]
theorem timers_Without_ex : ∃ f : (List (Int × Int × Int)) → (Int) → Option ((List (Int × Int × Int))), f = fun (x0 : List (Int × Int × Int)) (x1 : Int) => funRun timers_Without_C 3 18 [(false, [(false, .slice (.pair (.int .i64) (.pair (.int .i64) (.int .i64))))]), (false, [(false, .int .i64)])] [(false, [(true, .slice (.pair (.int .i64) (.pair (.int .i64) (.int .i64))))])] timers_Without_un [⟨.slice (.pair (.int .i64) (.pair (.int .i64) (.int .i64))), x0⟩, ⟨.int .i64, x1⟩] := ⟨_, rfl⟩
noncomputable def timers_Without : (List (Int × Int × Int)) → (Int) → Option ((List (Int × Int × Int))) := timers_Without_ex.choose
theorem timers_Without_raw (x0 : List (Int × Int × Int)) (x1 : Int) : timers_Without x0 x1 = funRun timers_Without_C 3 18 [(false, [(false, .slice (.pair (.int .i64) (.pair (.int .i64) (.int .i64))))]), (false, [(false, .int .i64)])] [(false, [(true, .slice (.pair (.int .i64) (.pair (.int .i64) (.int .i64))))])] timers_Without_un [⟨.slice (.pair (.int .i64) (.pair (.int .i64) (.int .i64))), x0⟩, ⟨.int .i64, x1⟩] := congrFun (congrFun (timers_Without_ex.choose_spec) x0) x1
theorem timers_Without_eq (x0 : List (Int × Int × Int)) (x1 : Int) : timers_Without x0 x1 =
  (timers_Clone x0).bind fun val0 =>
  (timers_DeleteFunc val0 x1).bind fun val2 =>
    some (val2) := (timers_Without_raw x0 x1).trans (by kernel_rfl)
noncomputable def timers_Without_sig : Sig := { pm := [(false, [(false, .slice (.pair (.int .i64) (.pair (.int .i64) (.int .i64))))]), (false, [(false, .int .i64)])], rm := [(false, [(true, .slice (.pair (.int .i64) (.pair (.int .i64) (.int .i64))))])], f := fun | [⟨.slice (.pair (.int .i64) (.pair (.int .i64) (.int .i64))), x0⟩, ⟨.int .i64, x1⟩] => .yes _ (timers_Without x0 x1) timers_Without_mk | _ => .no }
theorem timers_Without_ok : SigOk Try.prog 18 timers_Without_sig := by
  refine contract_of (C := timers_Without_C) (d := 3) S20_ok (callable_ex (by kernel_rfl)) ?_
  intro dvs
  unfold timers_Without_sig
  dsimp only
  split
  · refine .inr ⟨_, timers_Without_un, timers_Without_mk, congrArg (fun o => Cl.yes _ o _) (timers_Without_raw _ _), ?_⟩
    intro ds x h
    unfold timers_Without_un at h
    split at h
    · cases h; rfl
    · cases h
  · exact .inl rfl
noncomputable def S21 : List (Nat × Sig) := (18, timers_Without_sig) :: S20
theorem S21_ok : ListOk Try.prog S21 := ListOk.cons S20_ok timers_Without_ok
noncomputable def ref20_Without_C : Cfg := { P := Try.prog, sig := lookSig S21, hb := fun f b => bif Nat.beq f 19 && Nat.beq b 0 then some { tmps := [0, 1, 5, 6], obs := [60], nils := [(5, 60, (.pair (.int .i64) (.pair (.int .i64) (.int .i64))))], kl := [308, 300, 60] } else none, hr := fun _ _ => none }
noncomputable def ref20_Without_un : List DV → Option ((List (Int × Int × Int))) := fun | [⟨.slice (.pair (.int .i64) (.pair (.int .i64) (.int .i64))), r0⟩] => some r0 | _ => none
noncomputable def ref20_Without_mk : (List (Int × Int × Int)) → List DV := fun r0 => [⟨.slice (.pair (.int .i64) (.pair (.int .i64) (.int .i64))), r0⟩]
theorem ref20_Without_ex : ∃ f : (List (Int × Int × Int)) → (Int) → Option ((List (Int × Int × Int))), f = fun (x0 : List (Int × Int × Int)) (x1 : Int) => funRun ref20_Without_C 3 19 [(false, [(false, .slice (.pair (.int .i64) (.pair (.int .i64) (.int .i64))))]), (false, [(false, .int .i64)])] [(false, [(true, .slice (.pair (.int .i64) (.pair (.int .i64) (.int .i64))))])] ref20_Without_un [⟨.slice (.pair (.int .i64) (.pair (.int .i64) (.int .i64))), x0⟩, ⟨.int .i64, x1⟩] := ⟨_, rfl⟩
noncomputable def ref20_Without : (List (Int × Int × Int)) → (Int) → Option ((List (Int × Int × Int))) := ref20_Without_ex.choose
theorem ref20_Without_raw (x0 : List (Int × Int × Int)) (x1 : Int) : ref20_Without x0 x1 = funRun ref20_Without_C 3 19 [(false, [(false, .slice (.pair (.int .i64) (.pair (.int .i64) (.int .i64))))]), (false, [(false, .int .i64)])] [(false, [(true, .slice (.pair (.int .i64) (.pair (.int .i64) (.int .i64))))])] ref20_Without_un [⟨.slice (.pair (.int .i64) (.pair (.int .i64) (.int .i64))), x0⟩, ⟨.int .i64, x1⟩] := congrFun (congrFun (ref20_Without_ex.choose_spec) x0) x1
noncomputable def ref20_Without_l0 (y0 : List ((Int) × ((Int) × (Int)))) (y1 : Int) (y2 : Int) (y3 : List ((Int) × ((Int) × (Int)))) : Option ((List (Int × Int × Int))) := loopAt ref20_Without_C 3 19 [(false, [(true, .slice (.pair (.int .i64) (.pair (.int .i64) (.int .i64))))])] ref20_Without_un [true, true, false, true, false] (St.ofLists [(0, .fz ((Ty.int IntKind.i64).pair ((Ty.int IntKind.i64).pair (Ty.int IntKind.i64))) y0 false false), (1, .int .i64 y1), (5, .ow 60), (6, .int .i64 y2)] [(60, some (.row ((Ty.int IntKind.i64).pair ((Ty.int IntKind.i64).pair (Ty.int IntKind.i64))) y3 0 false))] [308, 300, 60])
theorem ref20_Without_eq (x0 : List (Int × Int × Int)) (x1 : Int) : ref20_Without x0 x1 =
  ref20_Without_l0 (x0) (x1) (0) ([]) := (ref20_Without_raw x0 x1).trans (by kernel_rfl)
theorem ref20_Without_l0_eq (y0 : List ((Int) × ((Int) × (Int)))) (y1 : Int) (y2 : Int) (y3 : List ((Int) × ((Int) × (Int)))) : ref20_Without_l0 y0 y1 y2 y3 =
  bif decide (y2 < ilen y0)
  then bif decide (0 ≤ y2)
    then (y0[y2.toNat]?).bind fun val4 =>
      bif val4.snd.fst != y1
        then bif decide (0 ≤ y2)
          then (y0[y2.toNat]?).bind fun val10 =>
            bif decide ((ilen y3 + ilen [val10]) * 24 ≤ room)
              then ref20_Without_l0 (y0) (y1) (IntKind.i64.wrap (y2 + 1)) (y3 ++ [val10])
              else none
          else none
        else ref20_Without_l0 (y0) (y1) (IntKind.i64.wrap (y2 + 1)) (y3)
    else none
  else some (y3) := (loopAt_step _ _ _ _ _ _ _).trans (by kernel_rfl)
noncomputable def ref20_Without_sig : Sig := { pm := [(false, [(false, .slice (.pair (.int .i64) (.pair (.int .i64) (.int .i64))))]), (false, [(false, .int .i64)])], rm := [(false, [(true, .slice (.pair (.int .i64) (.pair (.int .i64) (.int .i64))))])], f := fun | [⟨.slice (.pair (.int .i64) (.pair (.int .i64) (.int .i64))), x0⟩, ⟨.int .i64, x1⟩] => .yes _ (ref20_Without x0 x1) ref20_Without_mk | _ => .no }
theorem ref20_Without_ok : SigOk Try.prog 19 ref20_Without_sig := by
  refine contract_of (C := ref20_Without_C) (d := 3) S21_ok (callable_ex (by kernel_rfl)) ?_
  intro dvs
  unfold ref20_Without_sig
  dsimp only
  split
  · refine .inr ⟨_, ref20_Without_un, ref20_Without_mk, congrArg (fun o => Cl.yes _ o _) (ref20_Without_raw _ _), ?_⟩
    intro ds x h
    unfold ref20_Without_un at h
    split at h
    · cases h; rfl
    · cases h
  · exact .inl rfl
noncomputable def S22 : List (Nat × Sig) := (19, ref20_Without_sig) :: S21
theorem S22_ok : ListOk Try.prog S22 := ListOk.cons S21_ok ref20_Without_ok
noncomputable def pack_ReadUint_C : Cfg := { P := Try.prog, sig := lookSig S22, hb := fun f b => bif Nat.beq f 34 && Nat.beq b 0 then some { tmps := [0, 5, 10, 11], obs := [], nils := [], kl := [] } else none, hr := fun _ _ => none }
noncomputable def pack_ReadUint_un : List DV → Option (Int × (List Int) × Int) := fun | [⟨.int .u64, r0⟩, ⟨.slice (.int .u8), r1⟩, ⟨.int .i64, r2⟩] => some (r0, r1, r2) | _ => none
noncomputable def pack_ReadUint_mk : (Int × (List Int) × Int) → List DV := fun ⟨r0, r1, r2⟩ => [⟨.int .u64, r0⟩, ⟨.slice (.int .u8), r1⟩, ⟨.int .i64, r2⟩]
theorem pack_ReadUint_ex : ∃ f : (List Int) → Option (Int × (List Int) × Int), f = fun (x0 : List Int) => funRun pack_ReadUint_C 3 34 [(false, [(false, .slice (.int .u8))])] [(false, [(false, .int .u64)]), (false, [(false, .slice (.int .u8))]), (false, [(false, .int .i64)])] pack_ReadUint_un [⟨.slice (.int .u8), x0⟩] := ⟨_, rfl⟩
noncomputable def pack_ReadUint : (List Int) → Option (Int × (List Int) × Int) := pack_ReadUint_ex.choose
theorem pack_ReadUint_raw (x0 : List Int) : pack_ReadUint x0 = funRun pack_ReadUint_C 3 34 [(false, [(false, .slice (.int .u8))])] [(false, [(false, .int .u64)]), (false, [(false, .slice (.int .u8))]), (false, [(false, .int .i64)])] pack_ReadUint_un [⟨.slice (.int .u8), x0⟩] := congrFun (pack_ReadUint_ex.choose_spec) x0
noncomputable def pack_ReadUint_l0 (y0 : List (Int)) (y1 : Int) (y2 : Int) (y3 : Int) : Option (Int × (List Int) × Int) := loopAt pack_ReadUint_C 3 34 [(false, [(false, .int .u64)]), (false, [(false, .slice (.int .u8))]), (false, [(false, .int .i64)])] pack_ReadUint_un [true, true, false, true, false] (St.ofLists [(0, .fz (Ty.int IntKind.u8) y0 false false), (5, .int .u64 y1), (10, .int .i64 y2), (11, .int .i64 y3)] [] [])
theorem pack_ReadUint_eq (x0 : List Int) : pack_ReadUint x0 =
  pack_ReadUint_l0 (x0) (0) (if 10 < ilen x0 then 10 else ilen x0) (0) := (pack_ReadUint_raw x0).trans (by kernel_rfl)
theorem pack_ReadUint_l0_eq (y0 : List (Int)) (y1 : Int) (y2 : Int) (y3 : Int) : pack_ReadUint_l0 y0 y1 y2 y3 =
  bif decide (y3 < y2)
  then bif decide (0 ≤ y3)
    then (y0[y3.toNat]?).bind fun val4 =>
      bif y3 == 9
        then bif decide (IntKind.u64.wrap val4 > 1)
          then some ((0), (([]), (2)))
          else bif decide (IntKind.i64.wrap (7 * y3) < 0)
            then none
            else bif decide (IntKind.u64.wrap val4 < 128)
              then bif IntKind.u64.wrap val4 == 0
                then bif decide (y3 > 0)
                  then some ((0), (([]), (2)))
                  else bif decide (0 ≤ IntKind.i64.wrap (y3 + 1))
                    then bif decide (IntKind.i64.wrap (y3 + 1) ≤ ilen y0)
                      then bif decide (ilen y0 ≤ ilen y0)
                        then some ((IntKind.u64.wrap ↑(BitVec.ofInt IntKind.u64.bits y1 ||| BitVec.ofInt IntKind.u64.bits (IntKind.u64.wrap (IntKind.u64.wrap ↑(BitVec.ofInt IntKind.u64.bits (IntKind.u64.wrap val4) &&& BitVec.ofInt IntKind.u64.bits 127).toNat * 2 ^ min (IntKind.i64.wrap (7 * y3)).toNat IntKind.u64.bits))).toNat), ((List.drop (IntKind.i64.wrap (y3 + 1)).toNat (List.take (ilen y0).toNat y0)), (0)))
                        else none
                      else none
                    else none
                else bif decide (0 ≤ IntKind.i64.wrap (y3 + 1))
                  then bif decide (IntKind.i64.wrap (y3 + 1) ≤ ilen y0)
                    then bif decide (ilen y0 ≤ ilen y0)
                      then some ((IntKind.u64.wrap ↑(BitVec.ofInt IntKind.u64.bits y1 ||| BitVec.ofInt IntKind.u64.bits (IntKind.u64.wrap (IntKind.u64.wrap ↑(BitVec.ofInt IntKind.u64.bits (IntKind.u64.wrap val4) &&& BitVec.ofInt IntKind.u64.bits 127).toNat * 2 ^ min (IntKind.i64.wrap (7 * y3)).toNat IntKind.u64.bits))).toNat), ((List.drop (IntKind.i64.wrap (y3 + 1)).toNat (List.take (ilen y0).toNat y0)), (0)))
                      else none
                    else none
                  else none
              else pack_ReadUint_l0 (y0) (IntKind.u64.wrap ↑(BitVec.ofInt IntKind.u64.bits y1 ||| BitVec.ofInt IntKind.u64.bits (IntKind.u64.wrap (IntKind.u64.wrap ↑(BitVec.ofInt IntKind.u64.bits (IntKind.u64.wrap val4) &&& BitVec.ofInt IntKind.u64.bits 127).toNat * 2 ^ min (IntKind.i64.wrap (7 * y3)).toNat IntKind.u64.bits))).toNat) (y2) (IntKind.i64.wrap (y3 + 1))
        else bif decide (IntKind.i64.wrap (7 * y3) < 0)
          then none
          else bif decide (IntKind.u64.wrap val4 < 128)
            then bif IntKind.u64.wrap val4 == 0
              then bif decide (y3 > 0)
                then some ((0), (([]), (2)))
                else bif decide (0 ≤ IntKind.i64.wrap (y3 + 1))
                  then bif decide (IntKind.i64.wrap (y3 + 1) ≤ ilen y0)
                    then bif decide (ilen y0 ≤ ilen y0)
                      then some ((IntKind.u64.wrap ↑(BitVec.ofInt IntKind.u64.bits y1 ||| BitVec.ofInt IntKind.u64.bits (IntKind.u64.wrap (IntKind.u64.wrap ↑(BitVec.ofInt IntKind.u64.bits (IntKind.u64.wrap val4) &&& BitVec.ofInt IntKind.u64.bits 127).toNat * 2 ^ min (IntKind.i64.wrap (7 * y3)).toNat IntKind.u64.bits))).toNat), ((List.drop (IntKind.i64.wrap (y3 + 1)).toNat (List.take (ilen y0).toNat y0)), (0)))
                      else none
                    else none
                  else none
              else bif decide (0 ≤ IntKind.i64.wrap (y3 + 1))
                then bif decide (IntKind.i64.wrap (y3 + 1) ≤ ilen y0)
                  then bif decide (ilen y0 ≤ ilen y0)
                    then some ((IntKind.u64.wrap ↑(BitVec.ofInt IntKind.u64.bits y1 ||| BitVec.ofInt IntKind.u64.bits (IntKind.u64.wrap (IntKind.u64.wrap ↑(BitVec.ofInt IntKind.u64.bits (IntKind.u64.wrap val4) &&& BitVec.ofInt IntKind.u64.bits 127).toNat * 2 ^ min (IntKind.i64.wrap (7 * y3)).toNat IntKind.u64.bits))).toNat), ((List.drop (IntKind.i64.wrap (y3 + 1)).toNat (List.take (ilen y0).toNat y0)), (0)))
                    else none
                  else none
                else none
            else pack_ReadUint_l0 (y0) (IntKind.u64.wrap ↑(BitVec.ofInt IntKind.u64.bits y1 ||| BitVec.ofInt IntKind.u64.bits (IntKind.u64.wrap (IntKind.u64.wrap ↑(BitVec.ofInt IntKind.u64.bits (IntKind.u64.wrap val4) &&& BitVec.ofInt IntKind.u64.bits 127).toNat * 2 ^ min (IntKind.i64.wrap (7 * y3)).toNat IntKind.u64.bits))).toNat) (y2) (IntKind.i64.wrap (y3 + 1))
    else none
  else some ((0), (([]), (5))) := (loopAt_step _ _ _ _ _ _ _).trans (by kernel_rfl)
noncomputable def pack_ReadUint_sig : Sig := { pm := [(false, [(false, .slice (.int .u8))])], rm := [(false, [(false, .int .u64)]), (false, [(false, .slice (.int .u8))]), (false, [(false, .int .i64)])], f := fun | [⟨.slice (.int .u8), x0⟩] => .yes _ (pack_ReadUint x0) pack_ReadUint_mk | _ => .no }
theorem pack_ReadUint_ok : SigOk Try.prog 34 pack_ReadUint_sig := by
  refine contract_of (C := pack_ReadUint_C) (d := 3) S22_ok (callable_ex (by kernel_rfl)) ?_
  intro dvs
  unfold pack_ReadUint_sig
  dsimp only
  split
  · refine .inr ⟨_, pack_ReadUint_un, pack_ReadUint_mk, congrArg (fun o => Cl.yes _ o _) (pack_ReadUint_raw _), ?_⟩
    intro ds x h
    unfold pack_ReadUint_un at h
    split at h
    · cases h; rfl
    · cases h
  · exact .inl rfl
noncomputable def S23 : List (Nat × Sig) := (34, pack_ReadUint_sig) :: S22
theorem S23_ok : ListOk Try.prog S23 := ListOk.cons S22_ok pack_ReadUint_ok
noncomputable def pack_Uint_C : Cfg := { P := Try.prog, sig := lookSig S23, hb := fun f b => bif Nat.beq f 35 && Nat.beq b 0 then some { tmps := [0, 1], obs := [0], nils := [], kl := [0, 188] } else none, hr := fun _ _ => none }
noncomputable def pack_Uint_un : List DV → Option ((List Int)) := fun | [⟨.slice (.int .u8), r0⟩] => some r0 | _ => none
noncomputable def pack_Uint_mk : (List Int) → List DV := fun r0 => [⟨.slice (.int .u8), r0⟩]
theorem pack_Uint_ex : ∃ f : (List Int) → (Int) → Option ((List Int)), f = fun (x0 : List Int) (x1 : Int) => funRun pack_Uint_C 3 35 [(false, [(true, .slice (.int .u8))]), (false, [(false, .int .u64)])] [(false, [(true, .slice (.int .u8))])] pack_Uint_un [⟨.slice (.int .u8), x0⟩, ⟨.int .u64, x1⟩] := ⟨_, rfl⟩
noncomputable def pack_Uint : (List Int) → (Int) → Option ((List Int)) := pack_Uint_ex.choose
theorem pack_Uint_raw (x0 : List Int) (x1 : Int) : pack_Uint x0 x1 = funRun pack_Uint_C 3 35 [(false, [(true, .slice (.int .u8))]), (false, [(false, .int .u64)])] [(false, [(true, .slice (.int .u8))])] pack_Uint_un [⟨.slice (.int .u8), x0⟩, ⟨.int .u64, x1⟩] := congrFun (congrFun (pack_Uint_ex.choose_spec) x0) x1
noncomputable def pack_Uint_l0 (y0 : Int) (y1 : List (Int)) : Option ((List Int)) := loopAt pack_Uint_C 3 35 [(false, [(true, .slice (.int .u8))])] pack_Uint_un [true, false, false] (St.ofLists [(0, .ow 0), (1, .int .u64 y0)] [(0, some (.row (Ty.int IntKind.u8) y1 0 false))] [0, 188])
theorem pack_Uint_eq (x0 : List Int) (x1 : Int) : pack_Uint x0 x1 =
  pack_Uint_l0 (x1) (x0) := (pack_Uint_raw x0 x1).trans (by kernel_rfl)
theorem pack_Uint_l0_eq (y0 : Int) (y1 : List (Int)) : pack_Uint_l0 y0 y1 =
  bif decide (y0 ≥ 128)
  then bif decide ((ilen y1 + ilen [IntKind.u8.wrap ↑(BitVec.ofInt IntKind.u8.bits (IntKind.u8.wrap y0) ||| BitVec.ofInt IntKind.u8.bits 128).toNat]) * 1 ≤ room)
    then pack_Uint_l0 (y0.fdiv (2 ^ min (Int.toNat 7) IntKind.u64.bits)) (y1 ++ [IntKind.u8.wrap ↑(BitVec.ofInt IntKind.u8.bits (IntKind.u8.wrap y0) ||| BitVec.ofInt IntKind.u8.bits 128).toNat])
    else none
  else bif decide ((ilen y1 + ilen [IntKind.u8.wrap y0]) * 1 ≤ room)
    then some (y1 ++ [IntKind.u8.wrap y0])
    else none := (loopAt_step _ _ _ _ _ _ _).trans (by kernel_rfl)
noncomputable def pack_Uint_sig : Sig := { pm := [(false, [(true, .slice (.int .u8))]), (false, [(false, .int .u64)])], rm := [(false, [(true, .slice (.int .u8))])], f := fun | [⟨.slice (.int .u8), x0⟩, ⟨.int .u64, x1⟩] => .yes _ (pack_Uint x0 x1) pack_Uint_mk | _ => .no }
theorem pack_Uint_ok : SigOk Try.prog 35 pack_Uint_sig := by
  refine contract_of (C := pack_Uint_C) (d := 3) S23_ok (callable_ex (by kernel_rfl)) ?_
  intro dvs
  unfold pack_Uint_sig
  dsimp only
  split
  · refine .inr ⟨_, pack_Uint_un, pack_Uint_mk, congrArg (fun o => Cl.yes _ o _) (pack_Uint_raw _ _), ?_⟩
    intro ds x h
    unfold pack_Uint_un at h
    split at h
    · cases h; rfl
    · cases h
  · exact .inl rfl
noncomputable def S24 : List (Nat × Sig) := (35, pack_Uint_sig) :: S23
theorem S24_ok : ListOk Try.prog S24 := ListOk.cons S23_ok pack_Uint_ok
noncomputable def timers_Read_C : Cfg := { P := Try.prog, sig := lookSig S24, hb := fun f b => bif Nat.beq f 20 && Nat.beq b 0 then some { tmps := [0, 5, 7, 8], obs := [60], nils := [(7, 60, (.pair (.int .i64) (.pair (.int .i64) (.int .i64))))], kl := [612, 604, 172, 60] } else none, hr := fun _ _ => none, un := fun f b => bif Nat.beq f 20 && Nat.beq b 2 then 4 else 0 }
noncomputable def timers_Read_un : List DV → Option ((List (Int × Int × Int)) × (List Int) × Int) := fun | [⟨.slice (.pair (.int .i64) (.pair (.int .i64) (.int .i64))), r0⟩, ⟨.slice (.int .u8), r1⟩, ⟨.int .i64, r2⟩] => some (r0, r1, r2) | _ => none
noncomputable def timers_Read_mk : ((List (Int × Int × Int)) × (List Int) × Int) → List DV := fun ⟨r0, r1, r2⟩ => [⟨.slice (.pair (.int .i64) (.pair (.int .i64) (.int .i64))), r0⟩, ⟨.slice (.int .u8), r1⟩, ⟨.int .i64, r2⟩]
theorem timers_Read_ex : ∃ f : (List Int) → Option ((List (Int × Int × Int)) × (List Int) × Int), f = fun (x0 : List Int) => funRun timers_Read_C 3 20 [(false, [(false, .slice (.int .u8))])] [(false, [(false, .slice (.pair (.int .i64) (.pair (.int .i64) (.int .i64))))]), (false, [(false, .slice (.int .u8))]), (false, [(false, .int .i64)])] timers_Read_un [⟨.slice (.int .u8), x0⟩] := ⟨_, rfl⟩
noncomputable def timers_Read : (List Int) → Option ((List (Int × Int × Int)) × (List Int) × Int) := timers_Read_ex.choose
theorem timers_Read_raw (x0 : List Int) : timers_Read x0 = funRun timers_Read_C 3 20 [(false, [(false, .slice (.int .u8))])] [(false, [(false, .slice (.pair (.int .i64) (.pair (.int .i64) (.int .i64))))]), (false, [(false, .slice (.int .u8))]), (false, [(false, .int .i64)])] timers_Read_un [⟨.slice (.int .u8), x0⟩] := congrFun (timers_Read_ex.choose_spec) x0
noncomputable def timers_Read_l0 (y0 : List (Int)) (y1 : Int) (y2 : Int) (y3 : List ((Int) × ((Int) × (Int)))) : Option ((List (Int × Int × Int)) × (List Int) × Int) := loopAt timers_Read_C 3 20 [(false, [(false, .slice (.pair (.int .i64) (.pair (.int .i64) (.int .i64))))]), (false, [(false, .slice (.int .u8))]), (false, [(false, .int .i64)])] timers_Read_un [true, true, true, true, true, false, false] (St.ofLists [(0, .fz (Ty.int IntKind.u8) y0 false false), (5, .int .u64 y1), (7, .ow 60), (8, .int .i64 y2)] [(60, some (.row ((Ty.int IntKind.i64).pair ((Ty.int IntKind.i64).pair (Ty.int IntKind.i64))) y3 0 false))] [612, 604, 172, 60])
theorem timers_Read_eq (x0 : List Int) : timers_Read x0 =
  (pack_ReadUint x0).bind fun val0 =>
  bif val0.2.2 != 0
    then some (([]), (([]), (val0.2.2)))
    else timers_Read_l0 (val0.2.1) (val0.1) (0) ([]) := (timers_Read_raw x0).trans (by kernel_rfl)
theorem timers_Read_l0_eq (y0 : List (Int)) (y1 : Int) (y2 : Int) (y3 : List ((Int) × ((Int) × (Int)))) : timers_Read_l0 y0 y1 y2 y3 =
  bif decide (y1 > 0)
  then (pack_ReadUint y0).bind fun val2 =>
    bif val2.2.2 != 0
      then some (([]), (([]), (val2.2.2)))
      else bif decide (val2.1 > 1099511627776)
        then some (([]), (([]), (6)))
        else (pack_ReadUint val2.2.1).bind fun val8 =>
          bif val8.2.2 != 0
            then some (([]), (([]), (val8.2.2)))
            else bif decide (val8.1 > 1099511627776)
              then some (([]), (([]), (6)))
              else (pack_ReadUint val8.2.1).bind fun val14 =>
                bif val14.2.2 != 0
                  then some (([]), (([]), (val14.2.2)))
                  else bif decide (val14.1 > 1099511627776)
                    then some (([]), (([]), (6)))
                    else bif decide (IntKind.i64.wrap (y2 + IntKind.i64.wrap val2.1) > 1099511627776)
                      then some (([]), (([]), (6)))
                      else bif decide ((ilen y3 + ilen [(IntKind.i64.wrap (y2 + IntKind.i64.wrap val2.1), IntKind.i64.wrap val8.1, IntKind.i64.wrap val14.1)]) * 24 ≤ room)
                        then timers_Read_l0 (val14.2.1) (IntKind.u64.wrap (y1 - 1)) (IntKind.i64.wrap (y2 + IntKind.i64.wrap val2.1)) (y3 ++ [(IntKind.i64.wrap (y2 + IntKind.i64.wrap val2.1), IntKind.i64.wrap val8.1, IntKind.i64.wrap val14.1)])
                        else none
  else (timers_Check y3).bind fun val2 =>
    bif val2 != 0
      then some (([]), (([]), (val2)))
      else some ((y3), ((y0), (0))) := (loopAt_step _ _ _ _ _ _ _).trans (by kernel_rfl)
noncomputable def timers_Read_sig : Sig := { pm := [(false, [(false, .slice (.int .u8))])], rm := [(false, [(false, .slice (.pair (.int .i64) (.pair (.int .i64) (.int .i64))))]), (false, [(false, .slice (.int .u8))]), (false, [(false, .int .i64)])], f := fun | [⟨.slice (.int .u8), x0⟩] => .yes _ (timers_Read x0) timers_Read_mk | _ => .no }
theorem timers_Read_ok : SigOk Try.prog 20 timers_Read_sig := by
  refine contract_of (C := timers_Read_C) (d := 3) S24_ok (callable_ex (by kernel_rfl)) ?_
  intro dvs
  unfold timers_Read_sig
  dsimp only
  split
  · refine .inr ⟨_, timers_Read_un, timers_Read_mk, congrArg (fun o => Cl.yes _ o _) (timers_Read_raw _), ?_⟩
    intro ds x h
    unfold timers_Read_un at h
    split at h
    · cases h; rfl
    · cases h
  · exact .inl rfl
noncomputable def S25 : List (Nat × Sig) := (20, timers_Read_sig) :: S24
theorem S25_ok : ListOk Try.prog S25 := ListOk.cons S24_ok timers_Read_ok
noncomputable def timers_Put_C : Cfg := { P := Try.prog, sig := lookSig S25, hb := fun f b => bif Nat.beq f 21 && Nat.beq b 0 then some { tmps := [0, 5, 13, 14, 15], obs := [60], nils := [(0, 60, (.int .u8))], kl := [196, 380, 340, 300, 156, 60] } else none, hr := fun _ _ => none }
noncomputable def timers_Put_un : List DV → Option ((List Int)) := fun | [⟨.slice (.int .u8), r0⟩] => some r0 | _ => none
noncomputable def timers_Put_mk : (List Int) → List DV := fun r0 => [⟨.slice (.int .u8), r0⟩]
theorem timers_Put_ex : ∃ f : (List Int) → (List (Int × Int × Int)) → Option ((List Int)), f = fun (x0 : List Int) (x1 : List (Int × Int × Int)) => funRun timers_Put_C 3 21 [(false, [(true, .slice (.int .u8))]), (false, [(false, .slice (.pair (.int .i64) (.pair (.int .i64) (.int .i64))))])] [(false, [(true, .slice (.int .u8))])] timers_Put_un [⟨.slice (.int .u8), x0⟩, ⟨.slice (.pair (.int .i64) (.pair (.int .i64) (.int .i64))), x1⟩] := ⟨_, rfl⟩
noncomputable def timers_Put : (List Int) → (List (Int × Int × Int)) → Option ((List Int)) := timers_Put_ex.choose
theorem timers_Put_raw (x0 : List Int) (x1 : List (Int × Int × Int)) : timers_Put x0 x1 = funRun timers_Put_C 3 21 [(false, [(true, .slice (.int .u8))]), (false, [(false, .slice (.pair (.int .i64) (.pair (.int .i64) (.int .i64))))])] [(false, [(true, .slice (.int .u8))])] timers_Put_un [⟨.slice (.int .u8), x0⟩, ⟨.slice (.pair (.int .i64) (.pair (.int .i64) (.int .i64))), x1⟩] := congrFun (congrFun (timers_Put_ex.choose_spec) x0) x1
noncomputable def timers_Put_l0 (y0 : Int) (y1 : List ((Int) × ((Int) × (Int)))) (y2 : Int) (y3 : Int) (y4 : List (Int)) : Option ((List Int)) := loopAt timers_Put_C 3 21 [(false, [(true, .slice (.int .u8))])] timers_Put_un [true, true, true, false, true, false] (St.ofLists [(0, .ow 60), (5, .int .i64 y0), (13, .fz ((Ty.int IntKind.i64).pair ((Ty.int IntKind.i64).pair (Ty.int IntKind.i64))) y1 false false), (14, .int .i64 y2), (15, .int .i64 y3)] [(60, some (.row (Ty.int IntKind.u8) y4 0 false))] [196, 380, 340, 300, 156, 60])
theorem timers_Put_eq (x0 : List Int) (x1 : List (Int × Int × Int)) : timers_Put x0 x1 =
  (pack_Uint x0 (IntKind.u64.wrap (ilen x1))).bind fun val0 =>
  timers_Put_l0 (0) (x1) (ilen x1) (0) (val0) := (timers_Put_raw x0 x1).trans (by kernel_rfl)
theorem timers_Put_l0_eq (y0 : Int) (y1 : List ((Int) × ((Int) × (Int)))) (y2 : Int) (y3 : Int) (y4 : List (Int)) : timers_Put_l0 y0 y1 y2 y3 y4 =
  bif decide (y3 < y2)
  then bif decide (0 ≤ y3)
    then (y1[y3.toNat]?).bind fun val4 =>
      (pack_Uint y4 (IntKind.u64.wrap (IntKind.i64.wrap (val4.fst - y0)))).bind fun val6 =>
        (pack_Uint val6 (IntKind.u64.wrap val4.snd.fst)).bind fun val8 =>
          (pack_Uint val8 (IntKind.u64.wrap val4.snd.snd)).bind fun val10 =>
            timers_Put_l0 (val4.fst) (y1) (y2) (IntKind.i64.wrap (y3 + 1)) (val10)
    else none
  else some (y4) := (loopAt_step _ _ _ _ _ _ _).trans (by kernel_rfl)
noncomputable def timers_Put_sig : Sig := { pm := [(false, [(true, .slice (.int .u8))]), (false, [(false, .slice (.pair (.int .i64) (.pair (.int .i64) (.int .i64))))])], rm := [(false, [(true, .slice (.int .u8))])], f := fun | [⟨.slice (.int .u8), x0⟩, ⟨.slice (.pair (.int .i64) (.pair (.int .i64) (.int .i64))), x1⟩] => .yes _ (timers_Put x0 x1) timers_Put_mk | _ => .no }
theorem timers_Put_ok : SigOk Try.prog 21 timers_Put_sig := by
  refine contract_of (C := timers_Put_C) (d := 3) S25_ok (callable_ex (by kernel_rfl)) ?_
  intro dvs
  unfold timers_Put_sig
  dsimp only
  split
  · refine .inr ⟨_, timers_Put_un, timers_Put_mk, congrArg (fun o => Cl.yes _ o _) (timers_Put_raw _ _), ?_⟩
    intro ds x h
    unfold timers_Put_un at h
    split at h
    · cases h; rfl
    · cases h
  · exact .inl rfl
noncomputable def S26 : List (Nat × Sig) := (21, timers_Put_sig) :: S25
theorem S26_ok : ListOk Try.prog S26 := ListOk.cons S25_ok timers_Put_ok
noncomputable def ref02_Same_C : Cfg := { P := Try.prog, sig := lookSig S26, hb := fun _ _ => none, hr := fun _ _ => none }
noncomputable def ref02_Same_un : List DV → Option (Bool) := fun | [⟨.bool, r0⟩] => some r0 | _ => none
noncomputable def ref02_Same_mk : Bool → List DV := fun r0 => [⟨.bool, r0⟩]
theorem ref02_Same_ex : ∃ f : (List Int) → (List Int) → Option (Bool), f = fun (x0 : List Int) (x1 : List Int) => funRun ref02_Same_C 3 22 [(false, [(false, .slice (.int .u8))]), (false, [(false, .slice (.int .u8))])] [(false, [(false, .bool)])] ref02_Same_un [⟨.slice (.int .u8), x0⟩, ⟨.slice (.int .u8), x1⟩] := ⟨_, rfl⟩
noncomputable def ref02_Same : (List Int) → (List Int) → Option (Bool) := ref02_Same_ex.choose
theorem ref02_Same_raw (x0 : List Int) (x1 : List Int) : ref02_Same x0 x1 = funRun ref02_Same_C 3 22 [(false, [(false, .slice (.int .u8))]), (false, [(false, .slice (.int .u8))])] [(false, [(false, .bool)])] ref02_Same_un [⟨.slice (.int .u8), x0⟩, ⟨.slice (.int .u8), x1⟩] := congrFun (congrFun (ref02_Same_ex.choose_spec) x0) x1
theorem ref02_Same_eq (x0 : List Int) (x1 : List Int) : ref02_Same x0 x1 =
  some ((strOf x0).toList == (strOf x1).toList) := (ref02_Same_raw x0 x1).trans (by kernel_rfl)
noncomputable def ref02_Same_sig : Sig := { pm := [(false, [(false, .slice (.int .u8))]), (false, [(false, .slice (.int .u8))])], rm := [(false, [(false, .bool)])], f := fun | [⟨.slice (.int .u8), x0⟩, ⟨.slice (.int .u8), x1⟩] => .yes _ (ref02_Same x0 x1) ref02_Same_mk | _ => .no }
theorem ref02_Same_ok : SigOk Try.prog 22 ref02_Same_sig := by
  refine contract_of (C := ref02_Same_C) (d := 3) S26_ok (callable_ex (by kernel_rfl)) ?_
  intro dvs
  unfold ref02_Same_sig
  dsimp only
  split
  · refine .inr ⟨_, ref02_Same_un, ref02_Same_mk, congrArg (fun o => Cl.yes _ o _) (ref02_Same_raw _ _), ?_⟩
    intro ds x h
    unfold ref02_Same_un at h
    split at h
    · cases h; rfl
    · cases h
  · exact .inl rfl
noncomputable def S27 : List (Nat × Sig) := (22, ref02_Same_sig) :: S26
theorem S27_ok : ListOk Try.prog S27 := ListOk.cons S26_ok ref02_Same_ok
noncomputable def law20_works_C : Cfg := { P := Try.prog, sig := lookSig S27, hb := fun _ _ => none, hr := fun _ _ => none }
noncomputable def law20_works_un : List DV → Option (Bool) := fun | [⟨.bool, r0⟩] => some r0 | _ => none
noncomputable def law20_works_mk : Bool → List DV := fun r0 => [⟨.bool, r0⟩]
theorem law20_works_ex : ∃ f : Option (Bool), f = funRun law20_works_C 3 7 [] [(false, [(false, .bool)])] law20_works_un [] := ⟨_, rfl⟩
noncomputable def law20_works : Option (Bool) := law20_works_ex.choose
theorem law20_works_raw  : law20_works = funRun law20_works_C 3 7 [] [(false, [(false, .bool)])] law20_works_un [] := law20_works_ex.choose_spec
theorem law20_works_eq  : law20_works =
  (timers_Add [] 9 1 2).bind fun val0 =>
  (timers_Add val0.1 5 2 3).bind fun val2 =>
    bif ilen val2.1 != 2
      then some false
      else bif decide (0 < ilen val2.1)
        then (val2.1[Int.toNat 0]?).bind fun val8 =>
          (timers_Add val2.1 val8.fst val8.snd.fst val8.snd.snd).bind fun val10 =>
            (timers_Due val2.1 5).bind fun val12 =>
              (timers_Next val2.1).bind fun val14 =>
                (timers_Put [] val2.1).bind fun val16 =>
                  bif decide ((ilen val16 + ilen [7]) * 1 ≤ room)
                    then (timers_Read (val16 ++ [7])).bind fun val20 =>
                      bif val0.2 == 0
                        then bif val2.2 == 0
                          then bif val10.2 == 10
                            then bif ilen val12.1 == 1
                              then bif ilen val12.2 == 1
                                then bif val14.1 == 5
                                  then bif val14.2
                                    then bif val20.2.2 == 0
                                      then bif ilen val20.2.1 == 1
                                        then (ref20_Same val2.1 val20.1).bind fun val40 =>
                                          bif val40
                                            then (timers_Without val2.1 2).bind fun val44 =>
                                              bif ilen val44 == 1
                                                then (timers_Check val2.1).bind fun val48 =>
                                                  some (val48 == 0)
                                                else some false
                                            else some false
                                        else some false
                                      else some false
                                    else some false
                                  else some false
                                else some false
                              else some false
                            else some false
                          else some false
                        else some false
                    else none
        else none := (law20_works_raw).trans (by kernel_rfl)
noncomputable def law20_works_sig : Sig := { pm := [], rm := [(false, [(false, .bool)])], f := fun | [] => .yes _ (law20_works) law20_works_mk | _ => .no }
theorem law20_works_ok : SigOk Try.prog 7 law20_works_sig := by
  refine contract_of (C := law20_works_C) (d := 3) S27_ok (callable_ex (by kernel_rfl)) ?_
  intro dvs
  unfold law20_works_sig
  dsimp only
  split
  · refine .inr ⟨_, law20_works_un, law20_works_mk, congrArg (fun o => Cl.yes _ o _) (law20_works_raw), ?_⟩
    intro ds x h
    unfold law20_works_un at h
    split at h
    · cases h; rfl
    · cases h
  · exact .inl rfl
noncomputable def S28 : List (Nat × Sig) := (7, law20_works_sig) :: S27
theorem S28_ok : ListOk Try.prog S28 := ListOk.cons S27_ok law20_works_ok
noncomputable def law20_TimersKeeps_C : Cfg := { P := Try.prog, sig := lookSig S28, hb := fun _ _ => none, hr := fun _ _ => none }
noncomputable def law20_TimersKeeps_un : List DV → Option (Bool) := fun | [⟨.bool, r0⟩] => some r0 | _ => none
noncomputable def law20_TimersKeeps_mk : Bool → List DV := fun r0 => [⟨.bool, r0⟩]
theorem law20_TimersKeeps_ex : ∃ f : (List (Int × Int × Int)) → (Int) → (Int) → (Int) → Option (Bool), f = fun (x0 : List (Int × Int × Int)) (x1 : Int) (x2 : Int) (x3 : Int) => funRun law20_TimersKeeps_C 3 3 [(false, [(false, .slice (.pair (.int .i64) (.pair (.int .i64) (.int .i64))))]), (true, [(false, .int .i64), (false, .int .i64), (false, .int .i64)])] [(false, [(false, .bool)])] law20_TimersKeeps_un [⟨.slice (.pair (.int .i64) (.pair (.int .i64) (.int .i64))), x0⟩, ⟨.int .i64, x1⟩, ⟨.int .i64, x2⟩, ⟨.int .i64, x3⟩] := ⟨_, rfl⟩
noncomputable def law20_TimersKeeps : (List (Int × Int × Int)) → (Int) → (Int) → (Int) → Option (Bool) := law20_TimersKeeps_ex.choose
theorem law20_TimersKeeps_raw (x0 : List (Int × Int × Int)) (x1 : Int) (x2 : Int) (x3 : Int) : law20_TimersKeeps x0 x1 x2 x3 = funRun law20_TimersKeeps_C 3 3 [(false, [(false, .slice (.pair (.int .i64) (.pair (.int .i64) (.int .i64))))]), (true, [(false, .int .i64), (false, .int .i64), (false, .int .i64)])] [(false, [(false, .bool)])] law20_TimersKeeps_un [⟨.slice (.pair (.int .i64) (.pair (.int .i64) (.int .i64))), x0⟩, ⟨.int .i64, x1⟩, ⟨.int .i64, x2⟩, ⟨.int .i64, x3⟩] := congrFun (congrFun (congrFun (congrFun (law20_TimersKeeps_ex.choose_spec) x0) x1) x2) x3
theorem law20_TimersKeeps_eq (x0 : List (Int × Int × Int)) (x1 : Int) (x2 : Int) (x3 : Int) : law20_TimersKeeps x0 x1 x2 x3 =
  bif decide (ilen x0 > 200)
  then (law20_works).bind fun val2 =>
    some (val2)
  else (timers_Check x0).bind fun val2 =>
    (ref20_Check x0).bind fun val4 =>
      bif val2 != val4
        then some false
        else (law20_may x0).bind fun val8 =>
          bif !val8
            then (law20_works).bind fun val12 =>
              some (val12)
            else (timers_Add x0 x1 x2 x3).bind fun val12 =>
              (ref20_Add x0 x1 x2 x3).bind fun val14 =>
                bif val12.2 == val14.2
                  then (ref20_Same val12.1 val14.1).bind fun val18 =>
                    bif val18
                      then (law20_works).bind fun val22 =>
                        some (val22)
                      else some false
                  else some false := (law20_TimersKeeps_raw x0 x1 x2 x3).trans (by kernel_rfl)
noncomputable def law20_TimersKeeps_sig : Sig := { pm := [(false, [(false, .slice (.pair (.int .i64) (.pair (.int .i64) (.int .i64))))]), (true, [(false, .int .i64), (false, .int .i64), (false, .int .i64)])], rm := [(false, [(false, .bool)])], f := fun | [⟨.slice (.pair (.int .i64) (.pair (.int .i64) (.int .i64))), x0⟩, ⟨.int .i64, x1⟩, ⟨.int .i64, x2⟩, ⟨.int .i64, x3⟩] => .yes _ (law20_TimersKeeps x0 x1 x2 x3) law20_TimersKeeps_mk | _ => .no }
theorem law20_TimersKeeps_ok : SigOk Try.prog 3 law20_TimersKeeps_sig := by
  refine contract_of (C := law20_TimersKeeps_C) (d := 3) S28_ok (callable_ex (by kernel_rfl)) ?_
  intro dvs
  unfold law20_TimersKeeps_sig
  dsimp only
  split
  · refine .inr ⟨_, law20_TimersKeeps_un, law20_TimersKeeps_mk, congrArg (fun o => Cl.yes _ o _) (law20_TimersKeeps_raw _ _ _ _), ?_⟩
    intro ds x h
    unfold law20_TimersKeeps_un at h
    split at h
    · cases h; rfl
    · cases h
  · exact .inl rfl
noncomputable def S29 : List (Nat × Sig) := (3, law20_TimersKeeps_sig) :: S28
theorem S29_ok : ListOk Try.prog S29 := ListOk.cons S28_ok law20_TimersKeeps_ok
noncomputable def law20_TimersDue_C : Cfg := { P := Try.prog, sig := lookSig S29, hb := fun _ _ => none, hr := fun _ _ => none }
noncomputable def law20_TimersDue_un : List DV → Option (Bool) := fun | [⟨.bool, r0⟩] => some r0 | _ => none
noncomputable def law20_TimersDue_mk : Bool → List DV := fun r0 => [⟨.bool, r0⟩]
theorem law20_TimersDue_ex : ∃ f : (List (Int × Int × Int)) → (Int) → (Int) → Option (Bool), f = fun (x0 : List (Int × Int × Int)) (x1 : Int) (x2 : Int) => funRun law20_TimersDue_C 3 4 [(false, [(false, .slice (.pair (.int .i64) (.pair (.int .i64) (.int .i64))))]), (false, [(false, .int .i64)]), (false, [(false, .int .i64)])] [(false, [(false, .bool)])] law20_TimersDue_un [⟨.slice (.pair (.int .i64) (.pair (.int .i64) (.int .i64))), x0⟩, ⟨.int .i64, x1⟩, ⟨.int .i64, x2⟩] := ⟨_, rfl⟩
noncomputable def law20_TimersDue : (List (Int × Int × Int)) → (Int) → (Int) → Option (Bool) := law20_TimersDue_ex.choose
theorem law20_TimersDue_raw (x0 : List (Int × Int × Int)) (x1 : Int) (x2 : Int) : law20_TimersDue x0 x1 x2 = funRun law20_TimersDue_C 3 4 [(false, [(false, .slice (.pair (.int .i64) (.pair (.int .i64) (.int .i64))))]), (false, [(false, .int .i64)]), (false, [(false, .int .i64)])] [(false, [(false, .bool)])] law20_TimersDue_un [⟨.slice (.pair (.int .i64) (.pair (.int .i64) (.int .i64))), x0⟩, ⟨.int .i64, x1⟩, ⟨.int .i64, x2⟩] := congrFun (congrFun (congrFun (law20_TimersDue_ex.choose_spec) x0) x1) x2
theorem law20_TimersDue_eq (x0 : List (Int × Int × Int)) (x1 : Int) (x2 : Int) : law20_TimersDue x0 x1 x2 =
  (law20_may x0).bind fun val0 =>
  bif !val0
    then (law20_works).bind fun val4 =>
      some (val4)
    else (timers_Due x0 x1).bind fun val4 =>
      (ref20_Due x0 x1).bind fun val6 =>
        (timers_Next x0).bind fun val8 =>
          (ref20_Next x0).bind fun val10 =>
            (ref20_Same val4.1 val6.1).bind fun val12 =>
              bif val12
                then (ref20_Same val4.2 val6.2).bind fun val16 =>
                  bif val16
                    then bif val8.1 == val10.1
                      then bif val8.2 == val10.2
                        then (timers_Without x0 x2).bind fun val24 =>
                          (ref20_Without x0 x2).bind fun val26 =>
                            (ref20_Same val24 val26).bind fun val28 =>
                              bif val28
                                then (law20_works).bind fun val32 =>
                                  some (val32)
                                else some false
                        else some false
                      else some false
                    else some false
                else some false := (law20_TimersDue_raw x0 x1 x2).trans (by kernel_rfl)
noncomputable def law20_TimersDue_sig : Sig := { pm := [(false, [(false, .slice (.pair (.int .i64) (.pair (.int .i64) (.int .i64))))]), (false, [(false, .int .i64)]), (false, [(false, .int .i64)])], rm := [(false, [(false, .bool)])], f := fun | [⟨.slice (.pair (.int .i64) (.pair (.int .i64) (.int .i64))), x0⟩, ⟨.int .i64, x1⟩, ⟨.int .i64, x2⟩] => .yes _ (law20_TimersDue x0 x1 x2) law20_TimersDue_mk | _ => .no }
theorem law20_TimersDue_ok : SigOk Try.prog 4 law20_TimersDue_sig := by
  refine contract_of (C := law20_TimersDue_C) (d := 3) S29_ok (callable_ex (by kernel_rfl)) ?_
  intro dvs
  unfold law20_TimersDue_sig
  dsimp only
  split
  · refine .inr ⟨_, law20_TimersDue_un, law20_TimersDue_mk, congrArg (fun o => Cl.yes _ o _) (law20_TimersDue_raw _ _ _), ?_⟩
    intro ds x h
    unfold law20_TimersDue_un at h
    split at h
    · cases h; rfl
    · cases h
  · exact .inl rfl
noncomputable def S30 : List (Nat × Sig) := (4, law20_TimersDue_sig) :: S29
theorem S30_ok : ListOk Try.prog S30 := ListOk.cons S29_ok law20_TimersDue_ok
noncomputable def law20_TimersBack_C : Cfg := { P := Try.prog, sig := lookSig S30, hb := fun _ _ => none, hr := fun _ _ => none }
noncomputable def law20_TimersBack_un : List DV → Option (Bool) := fun | [⟨.bool, r0⟩] => some r0 | _ => none
noncomputable def law20_TimersBack_mk : Bool → List DV := fun r0 => [⟨.bool, r0⟩]
theorem law20_TimersBack_ex : ∃ f : (List (Int × Int × Int)) → (List Int) → Option (Bool), f = fun (x0 : List (Int × Int × Int)) (x1 : List Int) => funRun law20_TimersBack_C 3 5 [(false, [(false, .slice (.pair (.int .i64) (.pair (.int .i64) (.int .i64))))]), (false, [(false, .slice (.int .u8))])] [(false, [(false, .bool)])] law20_TimersBack_un [⟨.slice (.pair (.int .i64) (.pair (.int .i64) (.int .i64))), x0⟩, ⟨.slice (.int .u8), x1⟩] := ⟨_, rfl⟩
noncomputable def law20_TimersBack : (List (Int × Int × Int)) → (List Int) → Option (Bool) := law20_TimersBack_ex.choose
theorem law20_TimersBack_raw (x0 : List (Int × Int × Int)) (x1 : List Int) : law20_TimersBack x0 x1 = funRun law20_TimersBack_C 3 5 [(false, [(false, .slice (.pair (.int .i64) (.pair (.int .i64) (.int .i64))))]), (false, [(false, .slice (.int .u8))])] [(false, [(false, .bool)])] law20_TimersBack_un [⟨.slice (.pair (.int .i64) (.pair (.int .i64) (.int .i64))), x0⟩, ⟨.slice (.int .u8), x1⟩] := congrFun (congrFun (law20_TimersBack_ex.choose_spec) x0) x1
theorem law20_TimersBack_eq (x0 : List (Int × Int × Int)) (x1 : List Int) : law20_TimersBack x0 x1 =
  bif decide (ilen x1 > 3000)
  then (law20_works).bind fun val2 =>
    some (val2)
  else (law20_may x0).bind fun val2 =>
    bif val2
      then (timers_Put [] x0).bind fun val6 =>
        bif decide ((ilen val6 + ilen x1) * 1 ≤ room)
          then (timers_Read (val6 ++ x1)).bind fun val10 =>
            bif val10.2.2 != 0
              then some false
              else (ref20_Same val10.1 x0).bind fun val14 =>
                bif !val14
                  then some false
                  else (ref02_Same val10.2.1 x1).bind fun val18 =>
                    bif !val18
                      then some false
                      else (timers_Read x1).bind fun val22 =>
                        bif val22.2.2 != 0
                          then (law20_works).bind fun val26 =>
                            some (val26)
                          else (timers_Put [] val22.1).bind fun val26 =>
                            bif decide ((ilen val26 + ilen val22.2.1) * 1 ≤ room)
                              then (ref02_Same (val26 ++ val22.2.1) x1).bind fun val30 =>
                                bif val30
                                  then (law20_works).bind fun val34 =>
                                    some (val34)
                                  else some false
                              else none
          else none
      else (timers_Read x1).bind fun val6 =>
        bif val6.2.2 != 0
          then (law20_works).bind fun val10 =>
            some (val10)
          else (timers_Put [] val6.1).bind fun val10 =>
            bif decide ((ilen val10 + ilen val6.2.1) * 1 ≤ room)
              then (ref02_Same (val10 ++ val6.2.1) x1).bind fun val14 =>
                bif val14
                  then (law20_works).bind fun val18 =>
                    some (val18)
                  else some false
              else none := (law20_TimersBack_raw x0 x1).trans (by kernel_rfl)
noncomputable def law20_TimersBack_sig : Sig := { pm := [(false, [(false, .slice (.pair (.int .i64) (.pair (.int .i64) (.int .i64))))]), (false, [(false, .slice (.int .u8))])], rm := [(false, [(false, .bool)])], f := fun | [⟨.slice (.pair (.int .i64) (.pair (.int .i64) (.int .i64))), x0⟩, ⟨.slice (.int .u8), x1⟩] => .yes _ (law20_TimersBack x0 x1) law20_TimersBack_mk | _ => .no }
theorem law20_TimersBack_ok : SigOk Try.prog 5 law20_TimersBack_sig := by
  refine contract_of (C := law20_TimersBack_C) (d := 3) S30_ok (callable_ex (by kernel_rfl)) ?_
  intro dvs
  unfold law20_TimersBack_sig
  dsimp only
  split
  · refine .inr ⟨_, law20_TimersBack_un, law20_TimersBack_mk, congrArg (fun o => Cl.yes _ o _) (law20_TimersBack_raw _ _), ?_⟩
    intro ds x h
    unfold law20_TimersBack_un at h
    split at h
    · cases h; rfl
    · cases h
  · exact .inl rfl
noncomputable def S31 : List (Nat × Sig) := (5, law20_TimersBack_sig) :: S30
theorem S31_ok : ListOk Try.prog S31 := ListOk.cons S30_ok law20_TimersBack_ok
noncomputable def law20_TimersOnce_C : Cfg := { P := Try.prog, sig := lookSig S31, hb := fun f b => bif Nat.beq f 6 && Nat.beq b 0 then some { tmps := [0, 1, 5, 7, 8, 9, 10], obs := [140, 60], nils := [(9, 60, (.pair (.int .i64) (.pair (.int .i64) (.int .i64))))], kl := [140, 732, 60] } else bif Nat.beq f 6 && Nat.beq b 2 then some { tmps := [0, 1, 5, 7, 9, 10, 11, 12, 13, 14], obs := [140, 60], nils := [(9, 60, (.pair (.int .i64) (.pair (.int .i64) (.int .i64))))], kl := [140, 732, 60] } else none, hr := fun _ _ => none }
noncomputable def law20_TimersOnce_un : List DV → Option (Bool) := fun | [⟨.bool, r0⟩] => some r0 | _ => none
noncomputable def law20_TimersOnce_mk : Bool → List DV := fun r0 => [⟨.bool, r0⟩]
theorem law20_TimersOnce_ex : ∃ f : (List (Int × Int × Int)) → (List Int) → (Int) → (Int) → (Int) → Option (Bool), f = fun (x0 : List (Int × Int × Int)) (x1 : List Int) (x2 : Int) (x3 : Int) (x4 : Int) => funRun law20_TimersOnce_C 3 6 [(false, [(false, .slice (.pair (.int .i64) (.pair (.int .i64) (.int .i64))))]), (false, [(false, .slice (.int .u16))]), (true, [(false, .int .i64), (false, .int .i64), (false, .int .i64)])] [(false, [(false, .bool)])] law20_TimersOnce_un [⟨.slice (.pair (.int .i64) (.pair (.int .i64) (.int .i64))), x0⟩, ⟨.slice (.int .u16), x1⟩, ⟨.int .i64, x2⟩, ⟨.int .i64, x3⟩, ⟨.int .i64, x4⟩] := ⟨_, rfl⟩
noncomputable def law20_TimersOnce : (List (Int × Int × Int)) → (List Int) → (Int) → (Int) → (Int) → Option (Bool) := law20_TimersOnce_ex.choose
theorem law20_TimersOnce_raw (x0 : List (Int × Int × Int)) (x1 : List Int) (x2 : Int) (x3 : Int) (x4 : Int) : law20_TimersOnce x0 x1 x2 x3 x4 = funRun law20_TimersOnce_C 3 6 [(false, [(false, .slice (.pair (.int .i64) (.pair (.int .i64) (.int .i64))))]), (false, [(false, .slice (.int .u16))]), (true, [(false, .int .i64), (false, .int .i64), (false, .int .i64)])] [(false, [(false, .bool)])] law20_TimersOnce_un [⟨.slice (.pair (.int .i64) (.pair (.int .i64) (.int .i64))), x0⟩, ⟨.slice (.int .u16), x1⟩, ⟨.int .i64, x2⟩, ⟨.int .i64, x3⟩, ⟨.int .i64, x4⟩] := congrFun (congrFun (congrFun (congrFun (congrFun (law20_TimersOnce_ex.choose_spec) x0) x1) x2) x3) x4
noncomputable def law20_TimersOnce_l0 (y0 : List ((Int) × ((Int) × (Int)))) (y1 : List (Int)) (y2 : Int) (y3 : List ((Int) × ((Int) × (Int)))) (y4 : Int) (y5 : Int) (y6 : Int) (y7 : Int) (y8 : List ((Int) × ((Int) × (Int)))) : Option (Bool) := loopAt law20_TimersOnce_C 3 6 [(false, [(false, .bool)])] law20_TimersOnce_un [true, true, true, true, true, false, true, false] (St.ofLists [(0, .fz ((Ty.int IntKind.i64).pair ((Ty.int IntKind.i64).pair (Ty.int IntKind.i64))) y0 false false), (1, .fz (Ty.int IntKind.u16) y1 false false), (5, .ptr 140 0), (7, .int .i64 y2), (8, .fz ((Ty.int IntKind.i64).pair ((Ty.int IntKind.i64).pair (Ty.int IntKind.i64))) y3 false false), (9, .ow 60), (10, .int .i64 y4)] [(140, some (.cells [.int .i64 y5, .int .i64 y6, .int .i64 y7])), (60, some (.row ((Ty.int IntKind.i64).pair ((Ty.int IntKind.i64).pair (Ty.int IntKind.i64))) y8 0 false))] [140, 732, 60])
noncomputable def law20_TimersOnce_l2 (y0 : List ((Int) × ((Int) × (Int)))) (y1 : List (Int)) (y2 : Int) (y3 : Int) (y4 : Int) (y5 : List ((Int) × ((Int) × (Int)))) (y6 : List ((Int) × ((Int) × (Int)))) (y7 : Int) (y8 : Int) (y9 : Int) (y10 : Int) (y11 : List ((Int) × ((Int) × (Int)))) : Option (Bool) := loopAt law20_TimersOnce_C 3 6 [(false, [(false, .bool)])] law20_TimersOnce_un [true, true, true, true, true, false, true, false, false, true, false, false, true, true, true, false, true, false] (St.ofLists [(0, .fz ((Ty.int IntKind.i64).pair ((Ty.int IntKind.i64).pair (Ty.int IntKind.i64))) y0 false false), (1, .fz (Ty.int IntKind.u16) y1 false false), (5, .ptr 140 0), (7, .int .i64 y2), (9, .ow 60), (10, .int .i64 y3), (11, .int .i64 y4), (12, .fz ((Ty.int IntKind.i64).pair ((Ty.int IntKind.i64).pair (Ty.int IntKind.i64))) y5 false false), (13, .fz ((Ty.int IntKind.i64).pair ((Ty.int IntKind.i64).pair (Ty.int IntKind.i64))) y6 false false), (14, .int .i64 y7)] [(140, some (.cells [.int .i64 y8, .int .i64 y9, .int .i64 y10])), (60, some (.row ((Ty.int IntKind.i64).pair ((Ty.int IntKind.i64).pair (Ty.int IntKind.i64))) y11 0 false))] [140, 732, 60])
theorem law20_TimersOnce_eq (x0 : List (Int × Int × Int)) (x1 : List Int) (x2 : Int) (x3 : Int) (x4 : Int) : law20_TimersOnce x0 x1 x2 x3 x4 =
  (law20_may x0).bind fun val0 =>
  bif !val0
    then (law20_works).bind fun val4 =>
      some (val4)
    else bif decide (ilen x1 > 200)
      then (law20_works).bind fun val6 =>
        some (val6)
      else law20_TimersOnce_l0 (x0) (x1) (0) (x0) (0) (x2) (x3) (x4) ([]) := (law20_TimersOnce_raw x0 x1 x2 x3 x4).trans (by kernel_rfl)
theorem law20_TimersOnce_l0_eq (y0 : List ((Int) × ((Int) × (Int)))) (y1 : List (Int)) (y2 : Int) (y3 : List ((Int) × ((Int) × (Int)))) (y4 : Int) (y5 : Int) (y6 : Int) (y7 : Int) (y8 : List ((Int) × ((Int) × (Int)))) : law20_TimersOnce_l0 y0 y1 y2 y3 y4 y5 y6 y7 y8 =
  bif decide (y4 < ilen y1)
  then bif decide (0 ≤ y4)
    then (y1[y4.toNat]?).bind fun val4 =>
      (timers_Due y3 (IntKind.i64.wrap (y2 + IntKind.i64.wrap val4))).bind fun val6 =>
        law20_TimersOnce_l2 (y0) (y1) (IntKind.i64.wrap (y2 + IntKind.i64.wrap val4)) (y4) (y2) (val6.1) (val6.2) (0) (y5) (y6) (y7) (y8)
    else none
  else bif decide ((ilen y8 + ilen y3) * 24 ≤ room)
    then (ref20_Same (y8 ++ y3) y0).bind fun val4 =>
      bif !val4
        then some false
        else (timers_Add y0 y5 y6 y7).bind fun val8 =>
          bif val8.2 != 0
            then (law20_works).bind fun val12 =>
              some (val12)
            else bif decide (y5 ≤ y2)
              then (law20_works).bind fun val14 =>
                some (val14)
              else (timers_Due y0 y2).bind fun val14 =>
                (timers_Due val8.1 y2).bind fun val16 =>
                  (ref20_Same val14.1 val16.1).bind fun val18 =>
                    bif val18
                      then (law20_works).bind fun val22 =>
                        some (val22)
                      else some false
    else none := (loopAt_step _ _ _ _ _ _ _).trans (by kernel_rfl)
theorem law20_TimersOnce_l2_eq (y0 : List ((Int) × ((Int) × (Int)))) (y1 : List (Int)) (y2 : Int) (y3 : Int) (y4 : Int) (y5 : List ((Int) × ((Int) × (Int)))) (y6 : List ((Int) × ((Int) × (Int)))) (y7 : Int) (y8 : Int) (y9 : Int) (y10 : Int) (y11 : List ((Int) × ((Int) × (Int)))) : law20_TimersOnce_l2 y0 y1 y2 y3 y4 y5 y6 y7 y8 y9 y10 y11 =
  bif decide (y7 < ilen y5)
  then bif decide (0 ≤ y7)
    then (y5[y7.toNat]?).bind fun val4 =>
      bif decide (val4.fst > y2)
        then some false
        else bif decide (y3 > 0)
          then bif decide (0 ≤ y7)
            then (y5[y7.toNat]?).bind fun val12 =>
              bif decide (val12.fst ≤ y4)
                then some false
                else law20_TimersOnce_l2 (y0) (y1) (y2) (y3) (y4) (y5) (y6) (IntKind.i64.wrap (y7 + 1)) (y8) (y9) (y10) (y11)
            else none
          else law20_TimersOnce_l2 (y0) (y1) (y2) (y3) (y4) (y5) (y6) (IntKind.i64.wrap (y7 + 1)) (y8) (y9) (y10) (y11)
    else none
  else bif decide ((ilen y11 + ilen y5) * 24 ≤ room)
    then law20_TimersOnce_l0 (y0) (y1) (y2) (y6) (IntKind.i64.wrap (y3 + 1)) (y8) (y9) (y10) (y11 ++ y5)
    else none := (loopAt_step _ _ _ _ _ _ _).trans (by kernel_rfl)
noncomputable def law20_TimersOnce_sig : Sig := { pm := [(false, [(false, .slice (.pair (.int .i64) (.pair (.int .i64) (.int .i64))))]), (false, [(false, .slice (.int .u16))]), (true, [(false, .int .i64), (false, .int .i64), (false, .int .i64)])], rm := [(false, [(false, .bool)])], f := fun | [⟨.slice (.pair (.int .i64) (.pair (.int .i64) (.int .i64))), x0⟩, ⟨.slice (.int .u16), x1⟩, ⟨.int .i64, x2⟩, ⟨.int .i64, x3⟩, ⟨.int .i64, x4⟩] => .yes _ (law20_TimersOnce x0 x1 x2 x3 x4) law20_TimersOnce_mk | _ => .no }
theorem law20_TimersOnce_ok : SigOk Try.prog 6 law20_TimersOnce_sig := by
  refine contract_of (C := law20_TimersOnce_C) (d := 3) S31_ok (callable_ex (by kernel_rfl)) ?_
  intro dvs
  unfold law20_TimersOnce_sig
  dsimp only
  split
  · refine .inr ⟨_, law20_TimersOnce_un, law20_TimersOnce_mk, congrArg (fun o => Cl.yes _ o _) (law20_TimersOnce_raw _ _ _ _ _), ?_⟩
    intro ds x h
    unfold law20_TimersOnce_un at h
    split at h
    · cases h; rfl
    · cases h
  · exact .inl rfl
noncomputable def S32 : List (Nat × Sig) := (6, law20_TimersOnce_sig) :: S31
theorem S32_ok : ListOk Try.prog S32 := ListOk.cons S31_ok law20_TimersOnce_ok
end Go.Proofs.Ytocglpmgamhaeaa.PE
