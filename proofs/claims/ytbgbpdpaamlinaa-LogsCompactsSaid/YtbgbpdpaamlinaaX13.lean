import Derived.Test.YtbgbpdpaamlinaaEFun
import Derived.KernelRfl
namespace Go.Proofs.Ytbgbpdpaamlinaa.PE
set_option linter.unusedVariables false
open Go.Proofs
noncomputable def S0 : List (Nat × Sig) := []
theorem S0_ok : ListOk Try.prog S0 := ListOk.nil
noncomputable def slices_Clone_C : Cfg := { P := Try.prog, sig := lookSig S0, hb := fun _ _ => none, hr := fun _ _ => none }
noncomputable def slices_Clone_un : List DV → Option ((List Int)) := fun | [⟨.slice (.int .u8), r0⟩] => some r0 | _ => none
noncomputable def slices_Clone_mk : (List Int) → List DV := fun r0 => [⟨.slice (.int .u8), r0⟩]
theorem slices_Clone_ex : ∃ f : (List Int) → Option ((List Int)), f = fun (x0 : List Int) => avRun slices_Clone_C 3 42 [(false, [(true, .slice (.int .u8))])] slices_Clone_un [.fz (.int .u8) x0 false true] := ⟨_, rfl⟩
noncomputable def slices_Clone : (List Int) → Option ((List Int)) := slices_Clone_ex.choose
theorem slices_Clone_raw (x0 : List Int) : slices_Clone x0 = avRun slices_Clone_C 3 42 [(false, [(true, .slice (.int .u8))])] slices_Clone_un [.fz (.int .u8) x0 false true] := congrFun (slices_Clone_ex.choose_spec) x0
theorem slices_Clone_eq (x0 : List Int) : slices_Clone x0 =
  bif decide ((0 + ilen x0) * 1 ≤ room)
  then some ([] ++ x0)
  else none := (slices_Clone_raw x0).trans (by kernel_rfl)
theorem slices_Clone_nil : avRun slices_Clone_C 3 42 [(false, [(true, .slice (.int .u8))])] slices_Clone_un [.nils] = some ([]) := by kernel_rfl
noncomputable def slices_Clone_sig : Sig := { pm := [(false, [(false, .slice (.int .u8))])], rm := [(false, [(true, .slice (.int .u8))])], f := fun | [⟨.slice (.int .u8), x0⟩] => .yes _ (slices_Clone x0) slices_Clone_mk | _ => .no }
theorem slices_Clone_ok : SigOk Try.prog 42 slices_Clone_sig := by
  refine contract_slice (C := slices_Clone_C) (d := 3) S0_ok rfl (callable_ex (by kernel_rfl)) ?_
  intro dvs
  unfold slices_Clone_sig
  dsimp only
  split
  · refine .inr ⟨_, slices_Clone_un, slices_Clone_mk, _, rfl, congrArg (fun o => Cl.yes _ o _) (slices_Clone_raw _), ?_, ?_⟩
    · intro ds x h
      unfold slices_Clone_un at h
      split at h
      · cases h; rfl
      · cases h
    · intro x hl ho
      subst hl
      rw [← slices_Clone_raw, slices_Clone_eq] at ho
      rw [slices_Clone_nil]
      simpa [ilen, room] using ho
  · exact .inl rfl
noncomputable def S1 : List (Nat × Sig) := (42, slices_Clone_sig) :: S0
theorem S1_ok : ListOk Try.prog S1 := ListOk.cons S0_ok slices_Clone_ok
noncomputable def logs_Last_C : Cfg := { P := Try.prog, sig := lookSig S1, hb := fun _ _ => none, hr := fun _ _ => none }
noncomputable def logs_Last_un : List DV → Option (Int) := fun | [⟨.int .i64, r0⟩] => some r0 | _ => none
noncomputable def logs_Last_mk : Int → List DV := fun r0 => [⟨.int .i64, r0⟩]
theorem logs_Last_ex : ∃ f : (Int) → (Int) → (List (Int × (List Int))) → Option (Int), f = fun (x0 : Int) (x1 : Int) (x2 : List (Int × (List Int))) => funRun logs_Last_C 3 21 [(true, [(false, .int .i64), (false, .int .i64), (false, .slice (.pair (.int .i64) (.slice (.int .u8))))])] [(false, [(false, .int .i64)])] logs_Last_un [⟨.int .i64, x0⟩, ⟨.int .i64, x1⟩, ⟨.slice (.pair (.int .i64) (.slice (.int .u8))), x2⟩] := ⟨_, rfl⟩
noncomputable def logs_Last : (Int) → (Int) → (List (Int × (List Int))) → Option (Int) := logs_Last_ex.choose
theorem logs_Last_raw (x0 : Int) (x1 : Int) (x2 : List (Int × (List Int))) : logs_Last x0 x1 x2 = funRun logs_Last_C 3 21 [(true, [(false, .int .i64), (false, .int .i64), (false, .slice (.pair (.int .i64) (.slice (.int .u8))))])] [(false, [(false, .int .i64)])] logs_Last_un [⟨.int .i64, x0⟩, ⟨.int .i64, x1⟩, ⟨.slice (.pair (.int .i64) (.slice (.int .u8))), x2⟩] := congrFun (congrFun (congrFun (logs_Last_ex.choose_spec) x0) x1) x2
theorem logs_Last_eq (x0 : Int) (x1 : Int) (x2 : List (Int × (List Int))) : logs_Last x0 x1 x2 =
  some (IntKind.i64.wrap (x0 + ilen x2)) := (logs_Last_raw x0 x1 x2).trans (by kernel_rfl)
noncomputable def logs_Last_sig : Sig := { pm := [(true, [(false, .int .i64), (false, .int .i64), (false, .slice (.pair (.int .i64) (.slice (.int .u8))))])], rm := [(false, [(false, .int .i64)])], f := fun | [⟨.int .i64, x0⟩, ⟨.int .i64, x1⟩, ⟨.slice (.pair (.int .i64) (.slice (.int .u8))), x2⟩] => .yes _ (logs_Last x0 x1 x2) logs_Last_mk | _ => .no }
theorem logs_Last_ok : SigOk Try.prog 21 logs_Last_sig := by
  refine contract_of (C := logs_Last_C) (d := 3) S1_ok (callable_ex (by kernel_rfl)) ?_
  intro dvs
  unfold logs_Last_sig
  dsimp only
  split
  · refine .inr ⟨_, logs_Last_un, logs_Last_mk, congrArg (fun o => Cl.yes _ o _) (logs_Last_raw _ _ _), ?_⟩
    intro ds x h
    unfold logs_Last_un at h
    split at h
    · cases h; rfl
    · cases h
  · exact .inl rfl
noncomputable def S2 : List (Nat × Sig) := (21, logs_Last_sig) :: S1
theorem S2_ok : ListOk Try.prog S2 := ListOk.cons S1_ok logs_Last_ok
noncomputable def logs_Term_C : Cfg := { P := Try.prog, sig := lookSig S2, hb := fun _ _ => none, hr := fun _ _ => none }
noncomputable def logs_Term_un : List DV → Option (Int × Bool) := fun | [⟨.int .i64, r0⟩, ⟨.bool, r1⟩] => some (r0, r1) | _ => none
noncomputable def logs_Term_mk : (Int × Bool) → List DV := fun ⟨r0, r1⟩ => [⟨.int .i64, r0⟩, ⟨.bool, r1⟩]
theorem logs_Term_ex : ∃ f : (Int) → (Int) → (List (Int × (List Int))) → (Int) → Option (Int × Bool), f = fun (x0 : Int) (x1 : Int) (x2 : List (Int × (List Int))) (x3 : Int) => funRun logs_Term_C 3 23 [(true, [(false, .int .i64), (false, .int .i64), (false, .slice (.pair (.int .i64) (.slice (.int .u8))))]), (false, [(false, .int .i64)])] [(false, [(false, .int .i64)]), (false, [(false, .bool)])] logs_Term_un [⟨.int .i64, x0⟩, ⟨.int .i64, x1⟩, ⟨.slice (.pair (.int .i64) (.slice (.int .u8))), x2⟩, ⟨.int .i64, x3⟩] := ⟨_, rfl⟩
noncomputable def logs_Term : (Int) → (Int) → (List (Int × (List Int))) → (Int) → Option (Int × Bool) := logs_Term_ex.choose
theorem logs_Term_raw (x0 : Int) (x1 : Int) (x2 : List (Int × (List Int))) (x3 : Int) : logs_Term x0 x1 x2 x3 = funRun logs_Term_C 3 23 [(true, [(false, .int .i64), (false, .int .i64), (false, .slice (.pair (.int .i64) (.slice (.int .u8))))]), (false, [(false, .int .i64)])] [(false, [(false, .int .i64)]), (false, [(false, .bool)])] logs_Term_un [⟨.int .i64, x0⟩, ⟨.int .i64, x1⟩, ⟨.slice (.pair (.int .i64) (.slice (.int .u8))), x2⟩, ⟨.int .i64, x3⟩] := congrFun (congrFun (congrFun (congrFun (logs_Term_ex.choose_spec) x0) x1) x2) x3
theorem logs_Term_eq (x0 : Int) (x1 : Int) (x2 : List (Int × (List Int))) (x3 : Int) : logs_Term x0 x1 x2 x3 =
  bif x3 == x0
  then some ((x1), true)
  else bif decide (x3 < x0)
    then some ((0), false)
    else (logs_Last x0 x1 x2).bind fun val4 =>
      bif decide (x3 > val4)
        then some ((0), false)
        else bif decide (0 ≤ IntKind.i64.wrap (IntKind.i64.wrap (x3 - x0) - 1))
          then (x2[(IntKind.i64.wrap (IntKind.i64.wrap (x3 - x0) - 1)).toNat]?).bind fun val10 =>
            some ((val10.fst), true)
          else none := (logs_Term_raw x0 x1 x2 x3).trans (by kernel_rfl)
noncomputable def logs_Term_sig : Sig := { pm := [(true, [(false, .int .i64), (false, .int .i64), (false, .slice (.pair (.int .i64) (.slice (.int .u8))))]), (false, [(false, .int .i64)])], rm := [(false, [(false, .int .i64)]), (false, [(false, .bool)])], f := fun | [⟨.int .i64, x0⟩, ⟨.int .i64, x1⟩, ⟨.slice (.pair (.int .i64) (.slice (.int .u8))), x2⟩, ⟨.int .i64, x3⟩] => .yes _ (logs_Term x0 x1 x2 x3) logs_Term_mk | _ => .no }
theorem logs_Term_ok : SigOk Try.prog 23 logs_Term_sig := by
  refine contract_of (C := logs_Term_C) (d := 3) S2_ok (callable_ex (by kernel_rfl)) ?_
  intro dvs
  unfold logs_Term_sig
  dsimp only
  split
  · refine .inr ⟨_, logs_Term_un, logs_Term_mk, congrArg (fun o => Cl.yes _ o _) (logs_Term_raw _ _ _ _), ?_⟩
    intro ds x h
    unfold logs_Term_un at h
    split at h
    · cases h; rfl
    · cases h
  · exact .inl rfl
noncomputable def S3 : List (Nat × Sig) := (23, logs_Term_sig) :: S2
theorem S3_ok : ListOk Try.prog S3 := ListOk.cons S2_ok logs_Term_ok
noncomputable def logs_Check_C : Cfg := { P := Try.prog, sig := lookSig S3, hb := fun f b => bif Nat.beq f 11 && Nat.beq b 0 then some { tmps := [3, 37, 38, 39], obs := [], nils := [], kl := [108, 140] } else none, hr := fun _ _ => none }
noncomputable def logs_Check_un : List DV → Option (Int) := fun | [⟨.int .i64, r0⟩] => some r0 | _ => none
noncomputable def logs_Check_mk : Int → List DV := fun r0 => [⟨.int .i64, r0⟩]
theorem logs_Check_ex : ∃ f : (Int) → (Int) → (List (Int × (List Int))) → Option (Int), f = fun (x0 : Int) (x1 : Int) (x2 : List (Int × (List Int))) => funRun logs_Check_C 3 11 [(true, [(false, .int .i64), (false, .int .i64), (false, .slice (.pair (.int .i64) (.slice (.int .u8))))])] [(false, [(false, .int .i64)])] logs_Check_un [⟨.int .i64, x0⟩, ⟨.int .i64, x1⟩, ⟨.slice (.pair (.int .i64) (.slice (.int .u8))), x2⟩] := ⟨_, rfl⟩
noncomputable def logs_Check : (Int) → (Int) → (List (Int × (List Int))) → Option (Int) := logs_Check_ex.choose
theorem logs_Check_raw (x0 : Int) (x1 : Int) (x2 : List (Int × (List Int))) : logs_Check x0 x1 x2 = funRun logs_Check_C 3 11 [(true, [(false, .int .i64), (false, .int .i64), (false, .slice (.pair (.int .i64) (.slice (.int .u8))))])] [(false, [(false, .int .i64)])] logs_Check_un [⟨.int .i64, x0⟩, ⟨.int .i64, x1⟩, ⟨.slice (.pair (.int .i64) (.slice (.int .u8))), x2⟩] := congrFun (congrFun (congrFun (logs_Check_ex.choose_spec) x0) x1) x2
noncomputable def logs_Check_l0 (y0 : Int) (y1 : List ((Int) × (List (Int)))) (y2 : Int) (y3 : Int) : Option (Int) := loopAt logs_Check_C 3 11 [(false, [(false, .int .i64)])] logs_Check_un [true, true, true, false, true, false] (St.ofLists [(3, .int .i64 y0), (37, .fz ((Ty.int IntKind.i64).pair (Ty.int IntKind.u8).slice) y1 false false), (38, .int .i64 y2), (39, .int .i64 y3)] [] [108, 140])
theorem logs_Check_eq (x0 : Int) (x1 : Int) (x2 : List (Int × (List Int))) : logs_Check x0 x1 x2 =
  bif decide (x0 < 0)
  then some (1)
  else bif decide (x0 > 1099511627776)
    then some (1)
    else bif decide (x1 < 0)
      then some (1)
      else bif decide (x1 > 1099511627776)
        then some (1)
        else bif !(x0 == 0) == (x1 == 0)
          then some (1)
          else logs_Check_l0 (if 1 > x1 then 1 else x1) (x2) (ilen x2) (0) := (logs_Check_raw x0 x1 x2).trans (by kernel_rfl)
theorem logs_Check_l0_eq (y0 : Int) (y1 : List ((Int) × (List (Int)))) (y2 : Int) (y3 : Int) : logs_Check_l0 y0 y1 y2 y3 =
  bif decide (y3 < y2)
  then bif decide (0 ≤ y3)
    then (y1[y3.toNat]?).bind fun val4 =>
      bif decide (val4.fst < y0)
        then some (1)
        else bif decide (val4.fst > 1099511627776)
          then some (1)
          else logs_Check_l0 (val4.fst) (y1) (y2) (IntKind.i64.wrap (y3 + 1))
    else none
  else some (0) := (loopAt_step _ _ _ _ _ _ _).trans (by kernel_rfl)
noncomputable def logs_Check_sig : Sig := { pm := [(true, [(false, .int .i64), (false, .int .i64), (false, .slice (.pair (.int .i64) (.slice (.int .u8))))])], rm := [(false, [(false, .int .i64)])], f := fun | [⟨.int .i64, x0⟩, ⟨.int .i64, x1⟩, ⟨.slice (.pair (.int .i64) (.slice (.int .u8))), x2⟩] => .yes _ (logs_Check x0 x1 x2) logs_Check_mk | _ => .no }
theorem logs_Check_ok : SigOk Try.prog 11 logs_Check_sig := by
  refine contract_of (C := logs_Check_C) (d := 3) S3_ok (callable_ex (by kernel_rfl)) ?_
  intro dvs
  unfold logs_Check_sig
  dsimp only
  split
  · refine .inr ⟨_, logs_Check_un, logs_Check_mk, congrArg (fun o => Cl.yes _ o _) (logs_Check_raw _ _ _), ?_⟩
    intro ds x h
    unfold logs_Check_un at h
    split at h
    · cases h; rfl
    · cases h
  · exact .inl rfl
noncomputable def S4 : List (Nat × Sig) := (11, logs_Check_sig) :: S3
theorem S4_ok : ListOk Try.prog S4 := ListOk.cons S3_ok logs_Check_ok
noncomputable def ref13_Weight_C : Cfg := { P := Try.prog, sig := lookSig S4, hb := fun f b => bif Nat.beq f 9 && Nat.beq b 0 then some { tmps := [0, 1, 5, 6], obs := [], nils := [], kl := [] } else none, hr := fun _ _ => none }
noncomputable def ref13_Weight_un : List DV → Option (Int) := fun | [⟨.int .i64, r0⟩] => some r0 | _ => none
noncomputable def ref13_Weight_mk : Int → List DV := fun r0 => [⟨.int .i64, r0⟩]
theorem ref13_Weight_ex : ∃ f : (List (Int × (List Int))) → (Int) → Option (Int), f = fun (x0 : List (Int × (List Int))) (x1 : Int) => funRun ref13_Weight_C 3 9 [(false, [(false, .slice (.pair (.int .i64) (.slice (.int .u8))))]), (false, [(false, .int .i64)])] [(false, [(false, .int .i64)])] ref13_Weight_un [⟨.slice (.pair (.int .i64) (.slice (.int .u8))), x0⟩, ⟨.int .i64, x1⟩] := ⟨_, rfl⟩
noncomputable def ref13_Weight : (List (Int × (List Int))) → (Int) → Option (Int) := ref13_Weight_ex.choose
theorem ref13_Weight_raw (x0 : List (Int × (List Int))) (x1 : Int) : ref13_Weight x0 x1 = funRun ref13_Weight_C 3 9 [(false, [(false, .slice (.pair (.int .i64) (.slice (.int .u8))))]), (false, [(false, .int .i64)])] [(false, [(false, .int .i64)])] ref13_Weight_un [⟨.slice (.pair (.int .i64) (.slice (.int .u8))), x0⟩, ⟨.int .i64, x1⟩] := congrFun (congrFun (ref13_Weight_ex.choose_spec) x0) x1
noncomputable def ref13_Weight_l0 (y0 : List ((Int) × (List (Int)))) (y1 : Int) (y2 : Int) (y3 : Int) : Option (Int) := loopAt ref13_Weight_C 3 9 [(false, [(false, .int .i64)])] ref13_Weight_un [true, true, false, true, false] (St.ofLists [(0, .fz ((Ty.int IntKind.i64).pair (Ty.int IntKind.u8).slice) y0 false false), (1, .int .i64 y1), (5, .int .i64 y2), (6, .int .i64 y3)] [] [])
theorem ref13_Weight_eq (x0 : List (Int × (List Int))) (x1 : Int) : ref13_Weight x0 x1 =
  ref13_Weight_l0 (x0) (x1) (0) (0) := (ref13_Weight_raw x0 x1).trans (by kernel_rfl)
theorem ref13_Weight_l0_eq (y0 : List ((Int) × (List (Int)))) (y1 : Int) (y2 : Int) (y3 : Int) : ref13_Weight_l0 y0 y1 y2 y3 =
  bif decide (y3 < ilen y0)
  then bif decide (y2 ≤ y1)
    then bif decide (0 ≤ y3)
      then (y0[y3.toNat]?).bind fun val6 =>
        ref13_Weight_l0 (y0) (y1) (IntKind.i64.wrap (IntKind.i64.wrap (y2 + 1) + IntKind.i64.wrap ((ilen val6.snd).tdiv 20))) (IntKind.i64.wrap (y3 + 1))
      else none
    else some (y2)
  else some (y2) := (loopAt_step _ _ _ _ _ _ _).trans (by kernel_rfl)
noncomputable def ref13_Weight_sig : Sig := { pm := [(false, [(false, .slice (.pair (.int .i64) (.slice (.int .u8))))]), (false, [(false, .int .i64)])], rm := [(false, [(false, .int .i64)])], f := fun | [⟨.slice (.pair (.int .i64) (.slice (.int .u8))), x0⟩, ⟨.int .i64, x1⟩] => .yes _ (ref13_Weight x0 x1) ref13_Weight_mk | _ => .no }
theorem ref13_Weight_ok : SigOk Try.prog 9 ref13_Weight_sig := by
  refine contract_of (C := ref13_Weight_C) (d := 3) S4_ok (callable_ex (by kernel_rfl)) ?_
  intro dvs
  unfold ref13_Weight_sig
  dsimp only
  split
  · refine .inr ⟨_, ref13_Weight_un, ref13_Weight_mk, congrArg (fun o => Cl.yes _ o _) (ref13_Weight_raw _ _), ?_⟩
    intro ds x h
    unfold ref13_Weight_un at h
    split at h
    · cases h; rfl
    · cases h
  · exact .inl rfl
noncomputable def S5 : List (Nat × Sig) := (9, ref13_Weight_sig) :: S4
theorem S5_ok : ListOk Try.prog S5 := ListOk.cons S4_ok ref13_Weight_ok
noncomputable def logs_copied_C : Cfg := { P := Try.prog, sig := lookSig S5, hb := fun f b => bif Nat.beq f 39 && Nat.beq b 0 then some { tmps := [3, 6, 7, 8], obs := [60], nils := [(3, 60, .pair (.int .i64) (.slice (.int .u8)))], kl := [260, 252, 236, 140, 60] } else none, hr := fun _ _ => none }
noncomputable def logs_copied_un : List DV → Option ((List (Int × (List Int)))) := fun | [⟨.slice (.pair (.int .i64) (.slice (.int .u8))), r0⟩] => some r0 | _ => none
noncomputable def logs_copied_mk : (List (Int × (List Int))) → List DV := fun r0 => [⟨.slice (.pair (.int .i64) (.slice (.int .u8))), r0⟩]
theorem logs_copied_ex : ∃ f : (List (Int × (List Int))) → Option ((List (Int × (List Int)))), f = fun (x0 : List (Int × (List Int))) => funRun logs_copied_C 3 39 [(false, [(false, .slice (.pair (.int .i64) (.slice (.int .u8))))])] [(false, [(true, .slice (.pair (.int .i64) (.slice (.int .u8))))])] logs_copied_un [⟨.slice (.pair (.int .i64) (.slice (.int .u8))), x0⟩] := ⟨_, rfl⟩
noncomputable def logs_copied : (List (Int × (List Int))) → Option ((List (Int × (List Int)))) := logs_copied_ex.choose
theorem logs_copied_raw (x0 : List (Int × (List Int))) : logs_copied x0 = funRun logs_copied_C 3 39 [(false, [(false, .slice (.pair (.int .i64) (.slice (.int .u8))))])] [(false, [(true, .slice (.pair (.int .i64) (.slice (.int .u8))))])] logs_copied_un [⟨.slice (.pair (.int .i64) (.slice (.int .u8))), x0⟩] := congrFun (logs_copied_ex.choose_spec) x0
noncomputable def logs_copied_l0 (y0 : List ((Int) × (List (Int)))) (y1 : Int) (y2 : Int) (y3 : List ((Int) × (List (Int)))) : Option ((List (Int × (List Int)))) := loopAt logs_copied_C 3 39 [(false, [(true, .slice (.pair (.int .i64) (.slice (.int .u8))))])] logs_copied_un [true, true, false, true, false] (St.ofLists [(3, .ow 60), (6, .fz ((Ty.int IntKind.i64).pair (Ty.int IntKind.u8).slice) y0 false false), (7, .int .i64 y1), (8, .int .i64 y2)] [(60, some (.row ((Ty.int IntKind.i64).pair (Ty.int IntKind.u8).slice) y3 0 false))] [260, 252, 236, 140, 60])
theorem logs_copied_eq (x0 : List (Int × (List Int))) : logs_copied x0 =
  logs_copied_l0 (x0) (ilen x0) (0) ([]) := (logs_copied_raw x0).trans (by kernel_rfl)
theorem logs_copied_l0_eq (y0 : List ((Int) × (List (Int)))) (y1 : Int) (y2 : Int) (y3 : List ((Int) × (List (Int)))) : logs_copied_l0 y0 y1 y2 y3 =
  bif decide (y2 < y1)
  then bif decide (0 ≤ y2)
    then (y0[y2.toNat]?).bind fun val4 =>
      (slices_Clone val4.snd).bind fun val6 =>
        bif decide ((ilen y3 + ilen [(val4.fst, val6)]) * 32 ≤ room)
          then logs_copied_l0 (y0) (y1) (IntKind.i64.wrap (y2 + 1)) (y3 ++ [(val4.fst, val6)])
          else none
    else none
  else some (y3) := (loopAt_step _ _ _ _ _ _ _).trans (by kernel_rfl)
noncomputable def logs_copied_sig : Sig := { pm := [(false, [(false, .slice (.pair (.int .i64) (.slice (.int .u8))))])], rm := [(false, [(true, .slice (.pair (.int .i64) (.slice (.int .u8))))])], f := fun | [⟨.slice (.pair (.int .i64) (.slice (.int .u8))), x0⟩] => .yes _ (logs_copied x0) logs_copied_mk | _ => .no }
theorem logs_copied_ok : SigOk Try.prog 39 logs_copied_sig := by
  refine contract_of (C := logs_copied_C) (d := 3) S5_ok (callable_ex (by kernel_rfl)) ?_
  intro dvs
  unfold logs_copied_sig
  dsimp only
  split
  · refine .inr ⟨_, logs_copied_un, logs_copied_mk, congrArg (fun o => Cl.yes _ o _) (logs_copied_raw _), ?_⟩
    intro ds x h
    unfold logs_copied_un at h
    split at h
    · cases h; rfl
    · cases h
  · exact .inl rfl
noncomputable def S6 : List (Nat × Sig) := (39, logs_copied_sig) :: S5
theorem S6_ok : ListOk Try.prog S6 := ListOk.cons S5_ok logs_copied_ok
noncomputable def ref13_Check_C : Cfg := { P := Try.prog, sig := lookSig S6, hb := fun f b => bif Nat.beq f 12 && Nat.beq b 0 then some { tmps := [1, 3, 4], obs := [108], nils := [], kl := [108] } else none, hr := fun _ _ => none }
noncomputable def ref13_Check_un : List DV → Option (Int) := fun | [⟨.int .i64, r0⟩] => some r0 | _ => none
noncomputable def ref13_Check_mk : Int → List DV := fun r0 => [⟨.int .i64, r0⟩]
theorem ref13_Check_ex : ∃ f : (Int) → (Int) → (List (Int × (List Int))) → Option (Int), f = fun (x0 : Int) (x1 : Int) (x2 : List (Int × (List Int))) => funRun ref13_Check_C 3 12 [(true, [(false, .int .i64), (false, .int .i64), (false, .slice (.pair (.int .i64) (.slice (.int .u8))))])] [(false, [(false, .int .i64)])] ref13_Check_un [⟨.int .i64, x0⟩, ⟨.int .i64, x1⟩, ⟨.slice (.pair (.int .i64) (.slice (.int .u8))), x2⟩] := ⟨_, rfl⟩
noncomputable def ref13_Check : (Int) → (Int) → (List (Int × (List Int))) → Option (Int) := ref13_Check_ex.choose
theorem ref13_Check_raw (x0 : Int) (x1 : Int) (x2 : List (Int × (List Int))) : ref13_Check x0 x1 x2 = funRun ref13_Check_C 3 12 [(true, [(false, .int .i64), (false, .int .i64), (false, .slice (.pair (.int .i64) (.slice (.int .u8))))])] [(false, [(false, .int .i64)])] ref13_Check_un [⟨.int .i64, x0⟩, ⟨.int .i64, x1⟩, ⟨.slice (.pair (.int .i64) (.slice (.int .u8))), x2⟩] := congrFun (congrFun (congrFun (ref13_Check_ex.choose_spec) x0) x1) x2
noncomputable def ref13_Check_l0 (y0 : Int) (y1 : Int) (y2 : Int) (y3 : Int) (y4 : List ((Int) × (List (Int)))) : Option (Int) := loopAt ref13_Check_C 3 12 [(false, [(false, .int .i64)])] ref13_Check_un [true, true, true, true, false, true, false] (St.ofLists [(1, .ptr 108 0), (3, .int .i64 y0), (4, .int .i64 y1)] [(108, some (.cells [.int .i64 y2, .int .i64 y3, .fz ((Ty.int IntKind.i64).pair (Ty.int IntKind.u8).slice) y4 false false]))] [108])
theorem ref13_Check_eq (x0 : Int) (x1 : Int) (x2 : List (Int × (List Int))) : ref13_Check x0 x1 x2 =
  bif decide (x0 < 0)
  then some (1)
  else bif decide (x0 > 1099511627776)
    then some (1)
    else bif decide (x1 < 0)
      then some (1)
      else bif decide (x1 > 1099511627776)
        then some (1)
        else bif x0 == 0
          then bif x1 != 0
            then some (1)
            else bif x0 != 0
              then bif x1 == 0
                then some (1)
                else ref13_Check_l0 (1099511627776) (0) (x0) (x1) (x2)
              else ref13_Check_l0 (1099511627776) (0) (x0) (x1) (x2)
          else bif x0 != 0
            then bif x1 == 0
              then some (1)
              else ref13_Check_l0 (1099511627776) (0) (x0) (x1) (x2)
            else ref13_Check_l0 (1099511627776) (0) (x0) (x1) (x2) := (ref13_Check_raw x0 x1 x2).trans (by kernel_rfl)
theorem ref13_Check_l0_eq (y0 : Int) (y1 : Int) (y2 : Int) (y3 : Int) (y4 : List ((Int) × (List (Int)))) : ref13_Check_l0 y0 y1 y2 y3 y4 =
  bif decide (y1 < ilen y4)
  then bif decide (0 ≤ y1)
    then (y4[y1.toNat]?).bind fun val4 =>
      bif decide (val4.fst < 1)
        then some (1)
        else bif decide (val4.fst > y0)
          then some (1)
          else bif decide (val4.fst < y3)
            then some (1)
            else bif decide (y1 > 0)
              then bif decide (0 ≤ IntKind.i64.wrap (y1 - 1))
                then (y4[(IntKind.i64.wrap (y1 - 1)).toNat]?).bind fun val16 =>
                  bif decide (val4.fst < val16.fst)
                    then some (1)
                    else ref13_Check_l0 (y0) (IntKind.i64.wrap (y1 + 1)) (y2) (y3) (y4)
                else none
              else ref13_Check_l0 (y0) (IntKind.i64.wrap (y1 + 1)) (y2) (y3) (y4)
    else none
  else some (0) := (loopAt_step _ _ _ _ _ _ _).trans (by kernel_rfl)
noncomputable def ref13_Check_sig : Sig := { pm := [(true, [(false, .int .i64), (false, .int .i64), (false, .slice (.pair (.int .i64) (.slice (.int .u8))))])], rm := [(false, [(false, .int .i64)])], f := fun | [⟨.int .i64, x0⟩, ⟨.int .i64, x1⟩, ⟨.slice (.pair (.int .i64) (.slice (.int .u8))), x2⟩] => .yes _ (ref13_Check x0 x1 x2) ref13_Check_mk | _ => .no }
theorem ref13_Check_ok : SigOk Try.prog 12 ref13_Check_sig := by
  refine contract_of (C := ref13_Check_C) (d := 3) S6_ok (callable_ex (by kernel_rfl)) ?_
  intro dvs
  unfold ref13_Check_sig
  dsimp only
  split
  · refine .inr ⟨_, ref13_Check_un, ref13_Check_mk, congrArg (fun o => Cl.yes _ o _) (ref13_Check_raw _ _ _), ?_⟩
    intro ds x h
    unfold ref13_Check_un at h
    split at h
    · cases h; rfl
    · cases h
  · exact .inl rfl
noncomputable def S7 : List (Nat × Sig) := (12, ref13_Check_sig) :: S6
theorem S7_ok : ListOk Try.prog S7 := ListOk.cons S6_ok ref13_Check_ok
noncomputable def logs_Copy_C : Cfg := { P := Try.prog, sig := lookSig S7, hb := fun _ _ => none, hr := fun _ _ => none }
noncomputable def logs_Copy_un : List DV → Option (Int × Int × (List (Int × (List Int)))) := fun | [⟨.int .i64, r0⟩, ⟨.int .i64, r1⟩, ⟨.slice (.pair (.int .i64) (.slice (.int .u8))), r2⟩] => some (r0, r1, r2) | _ => none
noncomputable def logs_Copy_mk : (Int × Int × (List (Int × (List Int)))) → List DV := fun ⟨r0, r1, r2⟩ => [⟨.int .i64, r0⟩, ⟨.int .i64, r1⟩, ⟨.slice (.pair (.int .i64) (.slice (.int .u8))), r2⟩]
theorem logs_Copy_ex : ∃ f : (Int) → (Int) → (List (Int × (List Int))) → Option (Int × Int × (List (Int × (List Int)))), f = fun (x0 : Int) (x1 : Int) (x2 : List (Int × (List Int))) => funRun logs_Copy_C 3 15 [(true, [(false, .int .i64), (false, .int .i64), (false, .slice (.pair (.int .i64) (.slice (.int .u8))))])] [(true, [(false, .int .i64), (false, .int .i64), (true, .slice (.pair (.int .i64) (.slice (.int .u8))))])] logs_Copy_un [⟨.int .i64, x0⟩, ⟨.int .i64, x1⟩, ⟨.slice (.pair (.int .i64) (.slice (.int .u8))), x2⟩] := ⟨_, rfl⟩
noncomputable def logs_Copy : (Int) → (Int) → (List (Int × (List Int))) → Option (Int × Int × (List (Int × (List Int)))) := logs_Copy_ex.choose
theorem logs_Copy_raw (x0 : Int) (x1 : Int) (x2 : List (Int × (List Int))) : logs_Copy x0 x1 x2 = funRun logs_Copy_C 3 15 [(true, [(false, .int .i64), (false, .int .i64), (false, .slice (.pair (.int .i64) (.slice (.int .u8))))])] [(true, [(false, .int .i64), (false, .int .i64), (true, .slice (.pair (.int .i64) (.slice (.int .u8))))])] logs_Copy_un [⟨.int .i64, x0⟩, ⟨.int .i64, x1⟩, ⟨.slice (.pair (.int .i64) (.slice (.int .u8))), x2⟩] := congrFun (congrFun (congrFun (logs_Copy_ex.choose_spec) x0) x1) x2
theorem logs_Copy_eq (x0 : Int) (x1 : Int) (x2 : List (Int × (List Int))) : logs_Copy x0 x1 x2 =
  (logs_copied x2).bind fun val0 =>
  some ((x0), ((x1), (val0))) := (logs_Copy_raw x0 x1 x2).trans (by kernel_rfl)
noncomputable def logs_Copy_sig : Sig := { pm := [(true, [(false, .int .i64), (false, .int .i64), (false, .slice (.pair (.int .i64) (.slice (.int .u8))))])], rm := [(true, [(false, .int .i64), (false, .int .i64), (true, .slice (.pair (.int .i64) (.slice (.int .u8))))])], f := fun | [⟨.int .i64, x0⟩, ⟨.int .i64, x1⟩, ⟨.slice (.pair (.int .i64) (.slice (.int .u8))), x2⟩] => .yes _ (logs_Copy x0 x1 x2) logs_Copy_mk | _ => .no }
theorem logs_Copy_ok : SigOk Try.prog 15 logs_Copy_sig := by
  refine contract_of (C := logs_Copy_C) (d := 3) S7_ok (callable_ex (by kernel_rfl)) ?_
  intro dvs
  unfold logs_Copy_sig
  dsimp only
  split
  · refine .inr ⟨_, logs_Copy_un, logs_Copy_mk, congrArg (fun o => Cl.yes _ o _) (logs_Copy_raw _ _ _), ?_⟩
    intro ds x h
    unfold logs_Copy_un at h
    split at h
    · cases h; rfl
    · cases h
  · exact .inl rfl
noncomputable def S8 : List (Nat × Sig) := (15, logs_Copy_sig) :: S7
theorem S8_ok : ListOk Try.prog S8 := ListOk.cons S7_ok logs_Copy_ok
noncomputable def logs_LastTerm_C : Cfg := { P := Try.prog, sig := lookSig S8, hb := fun _ _ => none, hr := fun _ _ => none }
noncomputable def logs_LastTerm_un : List DV → Option (Int) := fun | [⟨.int .i64, r0⟩] => some r0 | _ => none
noncomputable def logs_LastTerm_mk : Int → List DV := fun r0 => [⟨.int .i64, r0⟩]
theorem logs_LastTerm_ex : ∃ f : (Int) → (Int) → (List (Int × (List Int))) → Option (Int), f = fun (x0 : Int) (x1 : Int) (x2 : List (Int × (List Int))) => funRun logs_LastTerm_C 3 22 [(true, [(false, .int .i64), (false, .int .i64), (false, .slice (.pair (.int .i64) (.slice (.int .u8))))])] [(false, [(false, .int .i64)])] logs_LastTerm_un [⟨.int .i64, x0⟩, ⟨.int .i64, x1⟩, ⟨.slice (.pair (.int .i64) (.slice (.int .u8))), x2⟩] := ⟨_, rfl⟩
noncomputable def logs_LastTerm : (Int) → (Int) → (List (Int × (List Int))) → Option (Int) := logs_LastTerm_ex.choose
theorem logs_LastTerm_raw (x0 : Int) (x1 : Int) (x2 : List (Int × (List Int))) : logs_LastTerm x0 x1 x2 = funRun logs_LastTerm_C 3 22 [(true, [(false, .int .i64), (false, .int .i64), (false, .slice (.pair (.int .i64) (.slice (.int .u8))))])] [(false, [(false, .int .i64)])] logs_LastTerm_un [⟨.int .i64, x0⟩, ⟨.int .i64, x1⟩, ⟨.slice (.pair (.int .i64) (.slice (.int .u8))), x2⟩] := congrFun (congrFun (congrFun (logs_LastTerm_ex.choose_spec) x0) x1) x2
theorem logs_LastTerm_eq (x0 : Int) (x1 : Int) (x2 : List (Int × (List Int))) : logs_LastTerm x0 x1 x2 =
  (logs_Last x0 x1 x2).bind fun val0 =>
  (logs_Term x0 x1 x2 val0).bind fun val2 =>
    some (val2.1) := (logs_LastTerm_raw x0 x1 x2).trans (by kernel_rfl)
noncomputable def logs_LastTerm_sig : Sig := { pm := [(true, [(false, .int .i64), (false, .int .i64), (false, .slice (.pair (.int .i64) (.slice (.int .u8))))])], rm := [(false, [(false, .int .i64)])], f := fun | [⟨.int .i64, x0⟩, ⟨.int .i64, x1⟩, ⟨.slice (.pair (.int .i64) (.slice (.int .u8))), x2⟩] => .yes _ (logs_LastTerm x0 x1 x2) logs_LastTerm_mk | _ => .no }
theorem logs_LastTerm_ok : SigOk Try.prog 22 logs_LastTerm_sig := by
  refine contract_of (C := logs_LastTerm_C) (d := 3) S8_ok (callable_ex (by kernel_rfl)) ?_
  intro dvs
  unfold logs_LastTerm_sig
  dsimp only
  split
  · refine .inr ⟨_, logs_LastTerm_un, logs_LastTerm_mk, congrArg (fun o => Cl.yes _ o _) (logs_LastTerm_raw _ _ _), ?_⟩
    intro ds x h
    unfold logs_LastTerm_un at h
    split at h
    · cases h; rfl
    · cases h
  · exact .inl rfl
noncomputable def S9 : List (Nat × Sig) := (22, logs_LastTerm_sig) :: S8
theorem S9_ok : ListOk Try.prog S9 := ListOk.cons S8_ok logs_LastTerm_ok
noncomputable def logs_From_C : Cfg := { P := Try.prog, sig := lookSig S9, hb := fun _ _ => none, hr := fun _ _ => none }
noncomputable def logs_From_un : List DV → Option ((List (Int × (List Int)))) := fun | [⟨.slice (.pair (.int .i64) (.slice (.int .u8))), r0⟩] => some r0 | _ => none
noncomputable def logs_From_mk : (List (Int × (List Int))) → List DV := fun r0 => [⟨.slice (.pair (.int .i64) (.slice (.int .u8))), r0⟩]
theorem logs_From_ex : ∃ f : (Int) → (Int) → (List (Int × (List Int))) → (Int) → (Int) → Option ((List (Int × (List Int)))), f = fun (x0 : Int) (x1 : Int) (x2 : List (Int × (List Int))) (x3 : Int) (x4 : Int) => funRun logs_From_C 3 27 [(true, [(false, .int .i64), (false, .int .i64), (false, .slice (.pair (.int .i64) (.slice (.int .u8))))]), (false, [(false, .int .i64)]), (false, [(false, .int .i64)])] [(false, [(true, .slice (.pair (.int .i64) (.slice (.int .u8))))])] logs_From_un [⟨.int .i64, x0⟩, ⟨.int .i64, x1⟩, ⟨.slice (.pair (.int .i64) (.slice (.int .u8))), x2⟩, ⟨.int .i64, x3⟩, ⟨.int .i64, x4⟩] := ⟨_, rfl⟩
noncomputable def logs_From : (Int) → (Int) → (List (Int × (List Int))) → (Int) → (Int) → Option ((List (Int × (List Int)))) := logs_From_ex.choose
theorem logs_From_raw (x0 : Int) (x1 : Int) (x2 : List (Int × (List Int))) (x3 : Int) (x4 : Int) : logs_From x0 x1 x2 x3 x4 = funRun logs_From_C 3 27 [(true, [(false, .int .i64), (false, .int .i64), (false, .slice (.pair (.int .i64) (.slice (.int .u8))))]), (false, [(false, .int .i64)]), (false, [(false, .int .i64)])] [(false, [(true, .slice (.pair (.int .i64) (.slice (.int .u8))))])] logs_From_un [⟨.int .i64, x0⟩, ⟨.int .i64, x1⟩, ⟨.slice (.pair (.int .i64) (.slice (.int .u8))), x2⟩, ⟨.int .i64, x3⟩, ⟨.int .i64, x4⟩] := congrFun (congrFun (congrFun (congrFun (congrFun (logs_From_ex.choose_spec) x0) x1) x2) x3) x4
theorem logs_From_eq (x0 : Int) (x1 : Int) (x2 : List (Int × (List Int))) (x3 : Int) (x4 : Int) : logs_From x0 x1 x2 x3 x4 =
  bif decide (x3 ≤ x0)
  then some ([])
  else (logs_Last x0 x1 x2).bind fun val2 =>
    bif decide (x3 > val2)
      then some ([])
      else bif decide (x4 ≤ 0)
        then some ([])
        else bif decide (0 ≤ IntKind.i64.wrap (IntKind.i64.wrap (x3 - x0) - 1))
          then bif decide (IntKind.i64.wrap (IntKind.i64.wrap (x3 - x0) - 1) ≤ ilen x2)
            then bif decide (ilen x2 ≤ ilen x2)
              then bif decide (0 ≤ if ilen (List.drop (IntKind.i64.wrap (IntKind.i64.wrap (x3 - x0) - 1)).toNat (List.take (ilen x2).toNat x2)) < x4 then ilen (List.drop (IntKind.i64.wrap (IntKind.i64.wrap (x3 - x0) - 1)).toNat (List.take (ilen x2).toNat x2)) else x4)
                then bif decide ((if ilen (List.drop (IntKind.i64.wrap (IntKind.i64.wrap (x3 - x0) - 1)).toNat (List.take (ilen x2).toNat x2)) < x4 then ilen (List.drop (IntKind.i64.wrap (IntKind.i64.wrap (x3 - x0) - 1)).toNat (List.take (ilen x2).toNat x2)) else x4) ≤ ilen (List.drop (IntKind.i64.wrap (IntKind.i64.wrap (x3 - x0) - 1)).toNat (List.take (ilen x2).toNat x2)))
                  then (logs_copied (List.drop (Int.toNat 0) (List.take (if ilen (List.drop (IntKind.i64.wrap (IntKind.i64.wrap (x3 - x0) - 1)).toNat (List.take (ilen x2).toNat x2)) < x4 then ilen (List.drop (IntKind.i64.wrap (IntKind.i64.wrap (x3 - x0) - 1)).toNat (List.take (ilen x2).toNat x2)) else x4).toNat (List.drop (IntKind.i64.wrap (IntKind.i64.wrap (x3 - x0) - 1)).toNat (List.take (ilen x2).toNat x2))))).bind fun val18 =>
                    some (val18)
                  else none
                else none
              else none
            else none
          else none := (logs_From_raw x0 x1 x2 x3 x4).trans (by kernel_rfl)
noncomputable def logs_From_sig : Sig := { pm := [(true, [(false, .int .i64), (false, .int .i64), (false, .slice (.pair (.int .i64) (.slice (.int .u8))))]), (false, [(false, .int .i64)]), (false, [(false, .int .i64)])], rm := [(false, [(true, .slice (.pair (.int .i64) (.slice (.int .u8))))])], f := fun | [⟨.int .i64, x0⟩, ⟨.int .i64, x1⟩, ⟨.slice (.pair (.int .i64) (.slice (.int .u8))), x2⟩, ⟨.int .i64, x3⟩, ⟨.int .i64, x4⟩] => .yes _ (logs_From x0 x1 x2 x3 x4) logs_From_mk | _ => .no }
theorem logs_From_ok : SigOk Try.prog 27 logs_From_sig := by
  refine contract_of (C := logs_From_C) (d := 3) S9_ok (callable_ex (by kernel_rfl)) ?_
  intro dvs
  unfold logs_From_sig
  dsimp only
  split
  · refine .inr ⟨_, logs_From_un, logs_From_mk, congrArg (fun o => Cl.yes _ o _) (logs_From_raw _ _ _ _ _), ?_⟩
    intro ds x h
    unfold logs_From_un at h
    split at h
    · cases h; rfl
    · cases h
  · exact .inl rfl
noncomputable def S10 : List (Nat × Sig) := (27, logs_From_sig) :: S9
theorem S10_ok : ListOk Try.prog S10 := ListOk.cons S9_ok logs_From_ok
noncomputable def logs_Newer_C : Cfg := { P := Try.prog, sig := lookSig S10, hb := fun _ _ => none, hr := fun _ _ => none }
noncomputable def logs_Newer_un : List DV → Option (Bool) := fun | [⟨.bool, r0⟩] => some r0 | _ => none
noncomputable def logs_Newer_mk : Bool → List DV := fun r0 => [⟨.bool, r0⟩]
theorem logs_Newer_ex : ∃ f : (Int) → (Int) → (List (Int × (List Int))) → (Int) → (Int) → Option (Bool), f = fun (x0 : Int) (x1 : Int) (x2 : List (Int × (List Int))) (x3 : Int) (x4 : Int) => funRun logs_Newer_C 3 29 [(true, [(false, .int .i64), (false, .int .i64), (false, .slice (.pair (.int .i64) (.slice (.int .u8))))]), (false, [(false, .int .i64)]), (false, [(false, .int .i64)])] [(false, [(false, .bool)])] logs_Newer_un [⟨.int .i64, x0⟩, ⟨.int .i64, x1⟩, ⟨.slice (.pair (.int .i64) (.slice (.int .u8))), x2⟩, ⟨.int .i64, x3⟩, ⟨.int .i64, x4⟩] := ⟨_, rfl⟩
noncomputable def logs_Newer : (Int) → (Int) → (List (Int × (List Int))) → (Int) → (Int) → Option (Bool) := logs_Newer_ex.choose
theorem logs_Newer_raw (x0 : Int) (x1 : Int) (x2 : List (Int × (List Int))) (x3 : Int) (x4 : Int) : logs_Newer x0 x1 x2 x3 x4 = funRun logs_Newer_C 3 29 [(true, [(false, .int .i64), (false, .int .i64), (false, .slice (.pair (.int .i64) (.slice (.int .u8))))]), (false, [(false, .int .i64)]), (false, [(false, .int .i64)])] [(false, [(false, .bool)])] logs_Newer_un [⟨.int .i64, x0⟩, ⟨.int .i64, x1⟩, ⟨.slice (.pair (.int .i64) (.slice (.int .u8))), x2⟩, ⟨.int .i64, x3⟩, ⟨.int .i64, x4⟩] := congrFun (congrFun (congrFun (congrFun (congrFun (logs_Newer_ex.choose_spec) x0) x1) x2) x3) x4
theorem logs_Newer_eq (x0 : Int) (x1 : Int) (x2 : List (Int × (List Int))) (x3 : Int) (x4 : Int) : logs_Newer x0 x1 x2 x3 x4 =
  (logs_LastTerm x0 x1 x2).bind fun val0 =>
  bif decide (x3 > val0)
    then some true
    else bif x3 == val0
      then (logs_Last x0 x1 x2).bind fun val6 =>
        some (decide (x4 ≥ val6))
      else some false := (logs_Newer_raw x0 x1 x2 x3 x4).trans (by kernel_rfl)
noncomputable def logs_Newer_sig : Sig := { pm := [(true, [(false, .int .i64), (false, .int .i64), (false, .slice (.pair (.int .i64) (.slice (.int .u8))))]), (false, [(false, .int .i64)]), (false, [(false, .int .i64)])], rm := [(false, [(false, .bool)])], f := fun | [⟨.int .i64, x0⟩, ⟨.int .i64, x1⟩, ⟨.slice (.pair (.int .i64) (.slice (.int .u8))), x2⟩, ⟨.int .i64, x3⟩, ⟨.int .i64, x4⟩] => .yes _ (logs_Newer x0 x1 x2 x3 x4) logs_Newer_mk | _ => .no }
theorem logs_Newer_ok : SigOk Try.prog 29 logs_Newer_sig := by
  refine contract_of (C := logs_Newer_C) (d := 3) S10_ok (callable_ex (by kernel_rfl)) ?_
  intro dvs
  unfold logs_Newer_sig
  dsimp only
  split
  · refine .inr ⟨_, logs_Newer_un, logs_Newer_mk, congrArg (fun o => Cl.yes _ o _) (logs_Newer_raw _ _ _ _ _), ?_⟩
    intro ds x h
    unfold logs_Newer_un at h
    split at h
    · cases h; rfl
    · cases h
  · exact .inl rfl
noncomputable def S11 : List (Nat × Sig) := (29, logs_Newer_sig) :: S10
theorem S11_ok : ListOk Try.prog S11 := ListOk.cons S10_ok logs_Newer_ok
noncomputable def logs_Compact_C : Cfg := { P := Try.prog, sig := lookSig S11, hb := fun _ _ => none, hr := fun _ _ => none }
noncomputable def logs_Compact_un : List DV → Option (Int × Int × (List (Int × (List Int))) × Int) := fun | [⟨.int .i64, r0⟩, ⟨.int .i64, r1⟩, ⟨.slice (.pair (.int .i64) (.slice (.int .u8))), r2⟩, ⟨.int .i64, r3⟩] => some (r0, r1, r2, r3) | _ => none
noncomputable def logs_Compact_mk : (Int × Int × (List (Int × (List Int))) × Int) → List DV := fun ⟨r0, r1, r2, r3⟩ => [⟨.int .i64, r0⟩, ⟨.int .i64, r1⟩, ⟨.slice (.pair (.int .i64) (.slice (.int .u8))), r2⟩, ⟨.int .i64, r3⟩]
theorem logs_Compact_ex : ∃ f : (Int) → (Int) → (List (Int × (List Int))) → (Int) → Option (Int × Int × (List (Int × (List Int))) × Int), f = fun (x0 : Int) (x1 : Int) (x2 : List (Int × (List Int))) (x3 : Int) => funRun logs_Compact_C 3 20 [(true, [(false, .int .i64), (false, .int .i64), (false, .slice (.pair (.int .i64) (.slice (.int .u8))))]), (false, [(false, .int .i64)])] [(true, [(false, .int .i64), (false, .int .i64), (true, .slice (.pair (.int .i64) (.slice (.int .u8))))]), (false, [(false, .int .i64)])] logs_Compact_un [⟨.int .i64, x0⟩, ⟨.int .i64, x1⟩, ⟨.slice (.pair (.int .i64) (.slice (.int .u8))), x2⟩, ⟨.int .i64, x3⟩] := ⟨_, rfl⟩
noncomputable def logs_Compact : (Int) → (Int) → (List (Int × (List Int))) → (Int) → Option (Int × Int × (List (Int × (List Int))) × Int) := logs_Compact_ex.choose
theorem logs_Compact_raw (x0 : Int) (x1 : Int) (x2 : List (Int × (List Int))) (x3 : Int) : logs_Compact x0 x1 x2 x3 = funRun logs_Compact_C 3 20 [(true, [(false, .int .i64), (false, .int .i64), (false, .slice (.pair (.int .i64) (.slice (.int .u8))))]), (false, [(false, .int .i64)])] [(true, [(false, .int .i64), (false, .int .i64), (true, .slice (.pair (.int .i64) (.slice (.int .u8))))]), (false, [(false, .int .i64)])] logs_Compact_un [⟨.int .i64, x0⟩, ⟨.int .i64, x1⟩, ⟨.slice (.pair (.int .i64) (.slice (.int .u8))), x2⟩, ⟨.int .i64, x3⟩] := congrFun (congrFun (congrFun (congrFun (logs_Compact_ex.choose_spec) x0) x1) x2) x3
theorem logs_Compact_eq (x0 : Int) (x1 : Int) (x2 : List (Int × (List Int))) (x3 : Int) : logs_Compact x0 x1 x2 x3 =
  (logs_Term x0 x1 x2 x3).bind fun val0 =>
  bif !val0.2
    then some ((0), ((0), (([]), (2))))
    else bif decide (0 ≤ IntKind.i64.wrap (x3 - x0))
      then bif decide (IntKind.i64.wrap (x3 - x0) ≤ ilen x2)
        then bif decide (ilen x2 ≤ ilen x2)
          then (logs_copied (List.drop (IntKind.i64.wrap (x3 - x0)).toNat (List.take (ilen x2).toNat x2))).bind fun val10 =>
            some ((x3), ((val0.1), ((val10), (0))))
          else none
        else none
      else none := (logs_Compact_raw x0 x1 x2 x3).trans (by kernel_rfl)
noncomputable def logs_Compact_sig : Sig := { pm := [(true, [(false, .int .i64), (false, .int .i64), (false, .slice (.pair (.int .i64) (.slice (.int .u8))))]), (false, [(false, .int .i64)])], rm := [(true, [(false, .int .i64), (false, .int .i64), (true, .slice (.pair (.int .i64) (.slice (.int .u8))))]), (false, [(false, .int .i64)])], f := fun | [⟨.int .i64, x0⟩, ⟨.int .i64, x1⟩, ⟨.slice (.pair (.int .i64) (.slice (.int .u8))), x2⟩, ⟨.int .i64, x3⟩] => .yes _ (logs_Compact x0 x1 x2 x3) logs_Compact_mk | _ => .no }
theorem logs_Compact_ok : SigOk Try.prog 20 logs_Compact_sig := by
  refine contract_of (C := logs_Compact_C) (d := 3) S11_ok (callable_ex (by kernel_rfl)) ?_
  intro dvs
  unfold logs_Compact_sig
  dsimp only
  split
  · refine .inr ⟨_, logs_Compact_un, logs_Compact_mk, congrArg (fun o => Cl.yes _ o _) (logs_Compact_raw _ _ _ _), ?_⟩
    intro ds x h
    unfold logs_Compact_un at h
    split at h
    · cases h; rfl
    · cases h
  · exact .inl rfl
noncomputable def S12 : List (Nat × Sig) := (20, logs_Compact_sig) :: S11
theorem S12_ok : ListOk Try.prog S12 := ListOk.cons S11_ok logs_Compact_ok
noncomputable def logs_Behind_C : Cfg := { P := Try.prog, sig := lookSig S12, hb := fun _ _ => none, hr := fun _ _ => none }
noncomputable def logs_Behind_un : List DV → Option (Int × Int × (List (Int × (List Int)))) := fun | [⟨.int .i64, r0⟩, ⟨.int .i64, r1⟩, ⟨.slice (.pair (.int .i64) (.slice (.int .u8))), r2⟩] => some (r0, r1, r2) | _ => none
noncomputable def logs_Behind_mk : (Int × Int × (List (Int × (List Int)))) → List DV := fun ⟨r0, r1, r2⟩ => [⟨.int .i64, r0⟩, ⟨.int .i64, r1⟩, ⟨.slice (.pair (.int .i64) (.slice (.int .u8))), r2⟩]
theorem logs_Behind_ex : ∃ f : (Int) → (Int) → (List (Int × (List Int))) → (Int) → (List Int) → Option (Int × Int × (List (Int × (List Int)))), f = fun (x0 : Int) (x1 : Int) (x2 : List (Int × (List Int))) (x3 : Int) (x4 : List Int) => funRun logs_Behind_C 3 32 [(true, [(false, .int .i64), (false, .int .i64), (false, .slice (.pair (.int .i64) (.slice (.int .u8))))]), (true, [(false, .int .i64), (false, .slice (.int .u8))])] [(true, [(false, .int .i64), (false, .int .i64), (true, .slice (.pair (.int .i64) (.slice (.int .u8))))])] logs_Behind_un [⟨.int .i64, x0⟩, ⟨.int .i64, x1⟩, ⟨.slice (.pair (.int .i64) (.slice (.int .u8))), x2⟩, ⟨.int .i64, x3⟩, ⟨.slice (.int .u8), x4⟩] := ⟨_, rfl⟩
noncomputable def logs_Behind : (Int) → (Int) → (List (Int × (List Int))) → (Int) → (List Int) → Option (Int × Int × (List (Int × (List Int)))) := logs_Behind_ex.choose
theorem logs_Behind_raw (x0 : Int) (x1 : Int) (x2 : List (Int × (List Int))) (x3 : Int) (x4 : List Int) : logs_Behind x0 x1 x2 x3 x4 = funRun logs_Behind_C 3 32 [(true, [(false, .int .i64), (false, .int .i64), (false, .slice (.pair (.int .i64) (.slice (.int .u8))))]), (true, [(false, .int .i64), (false, .slice (.int .u8))])] [(true, [(false, .int .i64), (false, .int .i64), (true, .slice (.pair (.int .i64) (.slice (.int .u8))))])] logs_Behind_un [⟨.int .i64, x0⟩, ⟨.int .i64, x1⟩, ⟨.slice (.pair (.int .i64) (.slice (.int .u8))), x2⟩, ⟨.int .i64, x3⟩, ⟨.slice (.int .u8), x4⟩] := congrFun (congrFun (congrFun (congrFun (congrFun (logs_Behind_ex.choose_spec) x0) x1) x2) x3) x4
theorem logs_Behind_eq (x0 : Int) (x1 : Int) (x2 : List (Int × (List Int))) (x3 : Int) (x4 : List Int) : logs_Behind x0 x1 x2 x3 x4 =
  (logs_Copy x0 x1 x2).bind fun val0 =>
  (slices_Clone x4).bind fun val2 =>
    bif decide ((ilen val0.2.2 + ilen [(x3, val2)]) * 32 ≤ room)
      then some ((val0.1), ((val0.2.1), (val0.2.2 ++ [(x3, val2)])))
      else none := (logs_Behind_raw x0 x1 x2 x3 x4).trans (by kernel_rfl)
noncomputable def logs_Behind_sig : Sig := { pm := [(true, [(false, .int .i64), (false, .int .i64), (false, .slice (.pair (.int .i64) (.slice (.int .u8))))]), (true, [(false, .int .i64), (false, .slice (.int .u8))])], rm := [(true, [(false, .int .i64), (false, .int .i64), (true, .slice (.pair (.int .i64) (.slice (.int .u8))))])], f := fun | [⟨.int .i64, x0⟩, ⟨.int .i64, x1⟩, ⟨.slice (.pair (.int .i64) (.slice (.int .u8))), x2⟩, ⟨.int .i64, x3⟩, ⟨.slice (.int .u8), x4⟩] => .yes _ (logs_Behind x0 x1 x2 x3 x4) logs_Behind_mk | _ => .no }
theorem logs_Behind_ok : SigOk Try.prog 32 logs_Behind_sig := by
  refine contract_of (C := logs_Behind_C) (d := 3) S12_ok (callable_ex (by kernel_rfl)) ?_
  intro dvs
  unfold logs_Behind_sig
  dsimp only
  split
  · refine .inr ⟨_, logs_Behind_un, logs_Behind_mk, congrArg (fun o => Cl.yes _ o _) (logs_Behind_raw _ _ _ _ _), ?_⟩
    intro ds x h
    unfold logs_Behind_un at h
    split at h
    · cases h; rfl
    · cases h
  · exact .inl rfl
noncomputable def S13 : List (Nat × Sig) := (32, logs_Behind_sig) :: S12
theorem S13_ok : ListOk Try.prog S13 := ListOk.cons S12_ok logs_Behind_ok
noncomputable def logs_Reset_C : Cfg := { P := Try.prog, sig := lookSig S13, hb := fun _ _ => none, hr := fun _ _ => none }
noncomputable def logs_Reset_un : List DV → Option (Int × Int × (List (Int × (List Int)))) := fun | [⟨.int .i64, r0⟩, ⟨.int .i64, r1⟩, ⟨.slice (.pair (.int .i64) (.slice (.int .u8))), r2⟩] => some (r0, r1, r2) | _ => none
noncomputable def logs_Reset_mk : (Int × Int × (List (Int × (List Int)))) → List DV := fun ⟨r0, r1, r2⟩ => [⟨.int .i64, r0⟩, ⟨.int .i64, r1⟩, ⟨.slice (.pair (.int .i64) (.slice (.int .u8))), r2⟩]
theorem logs_Reset_ex : ∃ f : (Int) → (Int) → (List (Int × (List Int))) → (Int) → (Int) → Option (Int × Int × (List (Int × (List Int)))), f = fun (x0 : Int) (x1 : Int) (x2 : List (Int × (List Int))) (x3 : Int) (x4 : Int) => funRun logs_Reset_C 3 33 [(true, [(false, .int .i64), (false, .int .i64), (false, .slice (.pair (.int .i64) (.slice (.int .u8))))]), (false, [(false, .int .i64)]), (false, [(false, .int .i64)])] [(true, [(false, .int .i64), (false, .int .i64), (true, .slice (.pair (.int .i64) (.slice (.int .u8))))])] logs_Reset_un [⟨.int .i64, x0⟩, ⟨.int .i64, x1⟩, ⟨.slice (.pair (.int .i64) (.slice (.int .u8))), x2⟩, ⟨.int .i64, x3⟩, ⟨.int .i64, x4⟩] := ⟨_, rfl⟩
noncomputable def logs_Reset : (Int) → (Int) → (List (Int × (List Int))) → (Int) → (Int) → Option (Int × Int × (List (Int × (List Int)))) := logs_Reset_ex.choose
theorem logs_Reset_raw (x0 : Int) (x1 : Int) (x2 : List (Int × (List Int))) (x3 : Int) (x4 : Int) : logs_Reset x0 x1 x2 x3 x4 = funRun logs_Reset_C 3 33 [(true, [(false, .int .i64), (false, .int .i64), (false, .slice (.pair (.int .i64) (.slice (.int .u8))))]), (false, [(false, .int .i64)]), (false, [(false, .int .i64)])] [(true, [(false, .int .i64), (false, .int .i64), (true, .slice (.pair (.int .i64) (.slice (.int .u8))))])] logs_Reset_un [⟨.int .i64, x0⟩, ⟨.int .i64, x1⟩, ⟨.slice (.pair (.int .i64) (.slice (.int .u8))), x2⟩, ⟨.int .i64, x3⟩, ⟨.int .i64, x4⟩] := congrFun (congrFun (congrFun (congrFun (congrFun (logs_Reset_ex.choose_spec) x0) x1) x2) x3) x4
theorem logs_Reset_eq (x0 : Int) (x1 : Int) (x2 : List (Int × (List Int))) (x3 : Int) (x4 : Int) : logs_Reset x0 x1 x2 x3 x4 =
  (logs_Term x0 x1 x2 x3).bind fun val0 =>
  bif val0.2
    then bif val0.1 == x4
      then (logs_Compact x0 x1 x2 x3).bind fun val6 =>
        some ((val6.1), ((val6.2.1), (val6.2.2.1)))
      else some ((x3), ((x4), ([])))
    else some ((x3), ((x4), ([]))) := (logs_Reset_raw x0 x1 x2 x3 x4).trans (by kernel_rfl)
noncomputable def logs_Reset_sig : Sig := { pm := [(true, [(false, .int .i64), (false, .int .i64), (false, .slice (.pair (.int .i64) (.slice (.int .u8))))]), (false, [(false, .int .i64)]), (false, [(false, .int .i64)])], rm := [(true, [(false, .int .i64), (false, .int .i64), (true, .slice (.pair (.int .i64) (.slice (.int .u8))))])], f := fun | [⟨.int .i64, x0⟩, ⟨.int .i64, x1⟩, ⟨.slice (.pair (.int .i64) (.slice (.int .u8))), x2⟩, ⟨.int .i64, x3⟩, ⟨.int .i64, x4⟩] => .yes _ (logs_Reset x0 x1 x2 x3 x4) logs_Reset_mk | _ => .no }
theorem logs_Reset_ok : SigOk Try.prog 33 logs_Reset_sig := by
  refine contract_of (C := logs_Reset_C) (d := 3) S13_ok (callable_ex (by kernel_rfl)) ?_
  intro dvs
  unfold logs_Reset_sig
  dsimp only
  split
  · refine .inr ⟨_, logs_Reset_un, logs_Reset_mk, congrArg (fun o => Cl.yes _ o _) (logs_Reset_raw _ _ _ _ _), ?_⟩
    intro ds x h
    unfold logs_Reset_un at h
    split at h
    · cases h; rfl
    · cases h
  · exact .inl rfl
noncomputable def S14 : List (Nat × Sig) := (33, logs_Reset_sig) :: S13
theorem S14_ok : ListOk Try.prog S14 := ListOk.cons S13_ok logs_Reset_ok
noncomputable def logs_Put_C : Cfg := { P := Try.prog, sig := lookSig S14, hb := fun f b => bif Nat.beq f 18 && Nat.beq b 0 then some { tmps := [4, 8, 12, 14, 15, 16], obs := [132, 164], nils := [], kl := [164, 132] } else bif Nat.beq f 18 && Nat.beq b 2 then some { tmps := [1, 3, 4, 8, 17, 95, 96, 97], obs := [132, 164, 236, 852], nils := [], kl := [236, 852, 164, 132, 252] } else none, hr := fun f b => bif Nat.beq f 18 && Nat.beq b 6 then some { tmps := [1, 2, 3, 4, 8], obs := [132, 164], nils := [], kl := [164, 132] } else none }
noncomputable def logs_Put_un : List DV → Option (Int × Int × (List (Int × (List Int))) × Int × Bool) := fun | [⟨.int .i64, r0⟩, ⟨.int .i64, r1⟩, ⟨.slice (.pair (.int .i64) (.slice (.int .u8))), r2⟩, ⟨.int .i64, r3⟩, ⟨.bool, r4⟩] => some (r0, r1, r2, r3, r4) | _ => none
noncomputable def logs_Put_mk : (Int × Int × (List (Int × (List Int))) × Int × Bool) → List DV := fun ⟨r0, r1, r2, r3, r4⟩ => [⟨.int .i64, r0⟩, ⟨.int .i64, r1⟩, ⟨.slice (.pair (.int .i64) (.slice (.int .u8))), r2⟩, ⟨.int .i64, r3⟩, ⟨.bool, r4⟩]
theorem logs_Put_ex : ∃ f : (Int) → (Int) → (List (Int × (List Int))) → (Int) → (Int) → (List (Int × (List Int))) → Option (Int × Int × (List (Int × (List Int))) × Int × Bool), f = fun (x0 : Int) (x1 : Int) (x2 : List (Int × (List Int))) (x3 : Int) (x4 : Int) (x5 : List (Int × (List Int))) => funRun logs_Put_C 3 18 [(true, [(false, .int .i64), (false, .int .i64), (false, .slice (.pair (.int .i64) (.slice (.int .u8))))]), (false, [(false, .int .i64)]), (false, [(false, .int .i64)]), (false, [(false, .slice (.pair (.int .i64) (.slice (.int .u8))))])] [(true, [(false, .int .i64), (false, .int .i64), (true, .slice (.pair (.int .i64) (.slice (.int .u8))))]), (false, [(false, .int .i64)]), (false, [(false, .bool)])] logs_Put_un [⟨.int .i64, x0⟩, ⟨.int .i64, x1⟩, ⟨.slice (.pair (.int .i64) (.slice (.int .u8))), x2⟩, ⟨.int .i64, x3⟩, ⟨.int .i64, x4⟩, ⟨.slice (.pair (.int .i64) (.slice (.int .u8))), x5⟩] := ⟨_, rfl⟩
noncomputable def logs_Put : (Int) → (Int) → (List (Int × (List Int))) → (Int) → (Int) → (List (Int × (List Int))) → Option (Int × Int × (List (Int × (List Int))) × Int × Bool) := logs_Put_ex.choose
theorem logs_Put_raw (x0 : Int) (x1 : Int) (x2 : List (Int × (List Int))) (x3 : Int) (x4 : Int) (x5 : List (Int × (List Int))) : logs_Put x0 x1 x2 x3 x4 x5 = funRun logs_Put_C 3 18 [(true, [(false, .int .i64), (false, .int .i64), (false, .slice (.pair (.int .i64) (.slice (.int .u8))))]), (false, [(false, .int .i64)]), (false, [(false, .int .i64)]), (false, [(false, .slice (.pair (.int .i64) (.slice (.int .u8))))])] [(true, [(false, .int .i64), (false, .int .i64), (true, .slice (.pair (.int .i64) (.slice (.int .u8))))]), (false, [(false, .int .i64)]), (false, [(false, .bool)])] logs_Put_un [⟨.int .i64, x0⟩, ⟨.int .i64, x1⟩, ⟨.slice (.pair (.int .i64) (.slice (.int .u8))), x2⟩, ⟨.int .i64, x3⟩, ⟨.int .i64, x4⟩, ⟨.slice (.pair (.int .i64) (.slice (.int .u8))), x5⟩] := congrFun (congrFun (congrFun (congrFun (congrFun (congrFun (logs_Put_ex.choose_spec) x0) x1) x2) x3) x4) x5
noncomputable def logs_Put_r6 (y0 : Int) (y1 : Int) (y2 : List ((Int) × (List (Int)))) (y3 : Int) (y4 : Int) (y5 : List ((Int) × (List (Int)))) (y6 : Int) (y7 : Int) : Option (Int × Int × (List (Int × (List Int))) × Int × Bool) := regAt logs_Put_C 3 18 [(true, [(false, .int .i64), (false, .int .i64), (true, .slice (.pair (.int .i64) (.slice (.int .u8))))]), (false, [(false, .int .i64)]), (false, [(false, .bool)])] logs_Put_un [true, true, false] (St.ofLists [(1, .int .i64 y0), (2, .int .i64 y1), (3, .fz ((Ty.int IntKind.i64).pair (Ty.int IntKind.u8).slice) y2 false false), (4, .ptr 132 0), (8, .ptr 164 0)] [(132, some (.cells [.int .i64 y3, .int .i64 y4, .fz ((Ty.int IntKind.i64).pair (Ty.int IntKind.u8).slice) y5 false false])), (164, some (.cells [.int .i64 y6, .int .i64 y7, .nils]))] [164, 132])
noncomputable def logs_Put_l0 (y0 : Int) (y1 : Int) (y2 : Int) (y3 : Bool) (y4 : Int) (y5 : Int) (y6 : List ((Int) × (List (Int)))) (y7 : Int) (y8 : Int) : Option (Int × Int × (List (Int × (List Int))) × Int × Bool) := loopAt logs_Put_C 3 18 [(true, [(false, .int .i64), (false, .int .i64), (true, .slice (.pair (.int .i64) (.slice (.int .u8))))]), (false, [(false, .int .i64)]), (false, [(false, .bool)])] logs_Put_un [true, true, true, true, false, true, false, true, false, true, false] (St.ofLists [(4, .ptr 132 0), (8, .ptr 164 0), (12, .int .i64 y0), (14, .int .i64 y1), (15, .int .i64 y2), (16, .bool y3)] [(132, some (.cells [.int .i64 y4, .int .i64 y5, .fz ((Ty.int IntKind.i64).pair (Ty.int IntKind.u8).slice) y6 false false])), (164, some (.cells [.int .i64 y7, .int .i64 y8, .nils]))] [164, 132])
noncomputable def logs_Put_l2 (y0 : Int) (y1 : List ((Int) × (List (Int)))) (y2 : List ((Int) × (List (Int)))) (y3 : Int) (y4 : Int) (y5 : Int) (y6 : Int) (y7 : List ((Int) × (List (Int)))) (y8 : Int) (y9 : Int) (y10 : Int) (y11 : Int) (y12 : List ((Int) × (List (Int)))) : Option (Int × Int × (List (Int × (List Int))) × Int × Bool) := loopAt logs_Put_C 3 18 [(true, [(false, .int .i64), (false, .int .i64), (true, .slice (.pair (.int .i64) (.slice (.int .u8))))]), (false, [(false, .int .i64)]), (false, [(false, .bool)])] logs_Put_un [true, true, true, true, true, true, false, true, false] (St.ofLists [(1, .int .i64 y0), (3, .fz ((Ty.int IntKind.i64).pair (Ty.int IntKind.u8).slice) y1 false false), (4, .ptr 132 0), (8, .ptr 164 0), (17, .ptr 236 0), (95, .fz ((Ty.int IntKind.i64).pair (Ty.int IntKind.u8).slice) y2 false false), (96, .int .i64 y3), (97, .int .i64 y4)] [(132, some (.cells [.int .i64 y5, .int .i64 y6, .fz ((Ty.int IntKind.i64).pair (Ty.int IntKind.u8).slice) y7 false false])), (164, some (.cells [.int .i64 y8, .int .i64 y9, .nils])), (236, some (.cells [.int .i64 y10, .int .i64 y11, .ow 852])), (852, some (.row ((Ty.int IntKind.i64).pair (Ty.int IntKind.u8).slice) y12 0 false))] [236, 852, 164, 132, 252])
theorem logs_Put_eq (x0 : Int) (x1 : Int) (x2 : List (Int × (List Int))) (x3 : Int) (x4 : Int) (x5 : List (Int × (List Int))) : logs_Put x0 x1 x2 x3 x4 x5 =
  bif decide (x3 < x0)
  then bif decide (IntKind.i64.wrap (x0 - x3) > ilen x5)
    then (logs_Copy x0 x1 x2).bind fun val4 =>
      some ((val4.1), ((val4.2.1), ((val4.2.2), ((x0), true))))
    else bif decide (0 ≤ IntKind.i64.wrap (x0 - x3))
      then bif decide (IntKind.i64.wrap (x0 - x3) ≤ ilen x5)
        then bif decide (ilen x5 ≤ ilen x5)
          then logs_Put_r6 (x0) (x1) (List.drop (IntKind.i64.wrap (x0 - x3)).toNat (List.take (ilen x5).toNat x5)) (x0) (x1) (x2) (0) (0)
          else none
        else none
      else none
  else logs_Put_r6 (x3) (x4) (x5) (x0) (x1) (x2) (0) (0) := (logs_Put_raw x0 x1 x2 x3 x4 x5).trans (by kernel_rfl)
theorem logs_Put_r6_eq (y0 : Int) (y1 : Int) (y2 : List ((Int) × (List (Int)))) (y3 : Int) (y4 : Int) (y5 : List ((Int) × (List (Int)))) (y6 : Int) (y7 : Int) : logs_Put_r6 y0 y1 y2 y3 y4 y5 y6 y7 =
  (logs_Term y3 y4 y5 y0).bind fun val0 =>
  bif !val0.2
    then (logs_Copy y3 y4 y5).bind fun val4 =>
      (logs_Last y3 y4 y5).bind fun val6 =>
        some ((val4.1), ((val4.2.1), ((val4.2.2), ((val6), false))))
    else bif val0.1 != y1
      then (logs_Term y3 y4 y5 (IntKind.i64.wrap (y0 - 1))).bind fun val6 =>
        logs_Put_l0 (val0.1) (IntKind.i64.wrap (y0 - 1)) (val6.1) (val6.2) (y3) (y4) (y5) (y6) (y7)
      else (logs_Copy y3 y4 y5).bind fun val6 =>
        logs_Put_l2 (y0) (y2) (y2) (ilen y2) (0) (y3) (y4) (y5) (y6) (y7) (val6.1) (val6.2.1) (val6.2.2) := (regAt_step _ _ _ _ _ _ _).trans (by kernel_rfl)
theorem logs_Put_l0_eq (y0 : Int) (y1 : Int) (y2 : Int) (y3 : Bool) (y4 : Int) (y5 : Int) (y6 : List ((Int) × (List (Int)))) (y7 : Int) (y8 : Int) : logs_Put_l0 y0 y1 y2 y3 y4 y5 y6 y7 y8 =
  bif y3
  then bif y2 == y0
    then bif decide (y1 > y4)
      then (logs_Term y4 y5 y6 (IntKind.i64.wrap (y1 - 1))).bind fun val6 =>
        logs_Put_l0 (y0) (IntKind.i64.wrap (y1 - 1)) (val6.1) (val6.2) (y4) (y5) (y6) (y7) (y8)
      else (logs_Copy y4 y5 y6).bind fun val6 =>
        some ((val6.1), ((val6.2.1), ((val6.2.2), ((if y4 > y1 then y4 else y1), false))))
    else (logs_Copy y4 y5 y6).bind fun val4 =>
      some ((val4.1), ((val4.2.1), ((val4.2.2), ((if y4 > y1 then y4 else y1), false))))
  else (logs_Copy y4 y5 y6).bind fun val2 =>
    some ((val2.1), ((val2.2.1), ((val2.2.2), ((if y4 > y1 then y4 else y1), false)))) := (loopAt_step _ _ _ _ _ _ _).trans (by kernel_rfl)
theorem logs_Put_l2_eq (y0 : Int) (y1 : List ((Int) × (List (Int)))) (y2 : List ((Int) × (List (Int)))) (y3 : Int) (y4 : Int) (y5 : Int) (y6 : Int) (y7 : List ((Int) × (List (Int)))) (y8 : Int) (y9 : Int) (y10 : Int) (y11 : Int) (y12 : List ((Int) × (List (Int)))) : logs_Put_l2 y0 y1 y2 y3 y4 y5 y6 y7 y8 y9 y10 y11 y12 =
  bif decide (y4 < y3)
  then bif decide (0 ≤ y4)
    then (y2[y4.toNat]?).bind fun val4 =>
      bif decide (IntKind.i64.wrap (IntKind.i64.wrap (y0 + y4) - y5) < ilen y12)
        then bif decide (0 ≤ IntKind.i64.wrap (IntKind.i64.wrap (y0 + y4) - y5))
          then bif decide (IntKind.i64.wrap (IntKind.i64.wrap (y0 + y4) - y5) < ilen y12)
            then (y12[(IntKind.i64.wrap (IntKind.i64.wrap (y0 + y4) - y5)).toNat]?).bind fun val12 =>
              bif val12.fst == val4.fst
                then logs_Put_l2 (y0) (y1) (y2) (y3) (IntKind.i64.wrap (y4 + 1)) (y5) (y6) (y7) (y8) (y9) (y10) (y11) (y12)
                else bif decide (0 ≤ IntKind.i64.wrap (IntKind.i64.wrap (y0 + y4) - y5))
                  then bif decide (IntKind.i64.wrap (IntKind.i64.wrap (y0 + y4) - y5) ≤ ilen y12)
                    then bif decide (0 ≤ y4)
                      then bif decide (y4 ≤ ilen y1)
                        then bif decide (ilen y1 ≤ ilen y1)
                          then (logs_copied (List.drop y4.toNat (List.take (ilen y1).toNat y1))).bind fun val26 =>
                            bif ((IntKind.i64.wrap (IntKind.i64.wrap (y0 + y4) - y5)).toNat - Int.toNat 0).ble y12.length
                              then bif decide ((ilen (List.take ((IntKind.i64.wrap (IntKind.i64.wrap (y0 + y4) - y5)).toNat - Int.toNat 0) y12) + ilen val26) * 32 ≤ room)
                                then some ((y10), ((y11), ((List.take ((IntKind.i64.wrap (IntKind.i64.wrap (y0 + y4) - y5)).toNat - Int.toNat 0) y12 ++ val26), ((IntKind.i64.wrap (y0 + ilen y1)), true))))
                                else none
                              else none
                          else none
                        else none
                      else none
                    else bif decide (IntKind.i64.wrap (IntKind.i64.wrap (y0 + y4) - y5) ≤ ↑0)
                      then bif decide (0 ≤ y4)
                        then bif decide (y4 ≤ ilen y1)
                          then bif decide (ilen y1 ≤ ilen y1)
                            then (logs_copied (List.drop y4.toNat (List.take (ilen y1).toNat y1))).bind fun val28 =>
                              bif ((IntKind.i64.wrap (IntKind.i64.wrap (y0 + y4) - y5)).toNat - Int.toNat 0).ble y12.length
                                then bif decide ((ilen (List.take ((IntKind.i64.wrap (IntKind.i64.wrap (y0 + y4) - y5)).toNat - Int.toNat 0) y12) + ilen val28) * 32 ≤ room)
                                  then some ((y10), ((y11), ((List.take ((IntKind.i64.wrap (IntKind.i64.wrap (y0 + y4) - y5)).toNat - Int.toNat 0) y12 ++ val28), ((IntKind.i64.wrap (y0 + ilen y1)), true))))
                                  else none
                                else none
                            else none
                          else none
                        else none
                      else none
                  else none
            else none
          else none
        else bif decide (0 ≤ y4)
          then bif decide (y4 ≤ ilen y1)
            then bif decide (ilen y1 ≤ ilen y1)
              then (logs_copied (List.drop y4.toNat (List.take (ilen y1).toNat y1))).bind fun val14 =>
                bif decide ((ilen y12 + ilen val14) * 32 ≤ room)
                  then some ((y10), ((y11), ((y12 ++ val14), ((IntKind.i64.wrap (y0 + ilen y1)), true))))
                  else none
              else none
            else none
          else none
    else none
  else some ((y10), ((y11), ((y12), ((IntKind.i64.wrap (y0 + ilen y1)), true)))) := (loopAt_step _ _ _ _ _ _ _).trans (by kernel_rfl)
noncomputable def logs_Put_sig : Sig := { pm := [(true, [(false, .int .i64), (false, .int .i64), (false, .slice (.pair (.int .i64) (.slice (.int .u8))))]), (false, [(false, .int .i64)]), (false, [(false, .int .i64)]), (false, [(false, .slice (.pair (.int .i64) (.slice (.int .u8))))])], rm := [(true, [(false, .int .i64), (false, .int .i64), (true, .slice (.pair (.int .i64) (.slice (.int .u8))))]), (false, [(false, .int .i64)]), (false, [(false, .bool)])], f := fun | [⟨.int .i64, x0⟩, ⟨.int .i64, x1⟩, ⟨.slice (.pair (.int .i64) (.slice (.int .u8))), x2⟩, ⟨.int .i64, x3⟩, ⟨.int .i64, x4⟩, ⟨.slice (.pair (.int .i64) (.slice (.int .u8))), x5⟩] => .yes _ (logs_Put x0 x1 x2 x3 x4 x5) logs_Put_mk | _ => .no }
theorem logs_Put_ok : SigOk Try.prog 18 logs_Put_sig := by
  refine contract_of (C := logs_Put_C) (d := 3) S14_ok (callable_ex (by kernel_rfl)) ?_
  intro dvs
  unfold logs_Put_sig
  dsimp only
  split
  · refine .inr ⟨_, logs_Put_un, logs_Put_mk, congrArg (fun o => Cl.yes _ o _) (logs_Put_raw _ _ _ _ _ _), ?_⟩
    intro ds x h
    unfold logs_Put_un at h
    split at h
    · cases h; rfl
    · cases h
  · exact .inl rfl
noncomputable def S15 : List (Nat × Sig) := (18, logs_Put_sig) :: S14
theorem S15_ok : ListOk Try.prog S15 := ListOk.cons S14_ok logs_Put_ok
noncomputable def ref13_Last_C : Cfg := { P := Try.prog, sig := lookSig S15, hb := fun _ _ => none, hr := fun _ _ => none }
noncomputable def ref13_Last_un : List DV → Option (Int) := fun | [⟨.int .i64, r0⟩] => some r0 | _ => none
noncomputable def ref13_Last_mk : Int → List DV := fun r0 => [⟨.int .i64, r0⟩]
theorem ref13_Last_ex : ∃ f : (Int) → (Int) → (List (Int × (List Int))) → Option (Int), f = fun (x0 : Int) (x1 : Int) (x2 : List (Int × (List Int))) => funRun ref13_Last_C 3 25 [(true, [(false, .int .i64), (false, .int .i64), (false, .slice (.pair (.int .i64) (.slice (.int .u8))))])] [(false, [(false, .int .i64)])] ref13_Last_un [⟨.int .i64, x0⟩, ⟨.int .i64, x1⟩, ⟨.slice (.pair (.int .i64) (.slice (.int .u8))), x2⟩] := ⟨_, rfl⟩
noncomputable def ref13_Last : (Int) → (Int) → (List (Int × (List Int))) → Option (Int) := ref13_Last_ex.choose
theorem ref13_Last_raw (x0 : Int) (x1 : Int) (x2 : List (Int × (List Int))) : ref13_Last x0 x1 x2 = funRun ref13_Last_C 3 25 [(true, [(false, .int .i64), (false, .int .i64), (false, .slice (.pair (.int .i64) (.slice (.int .u8))))])] [(false, [(false, .int .i64)])] ref13_Last_un [⟨.int .i64, x0⟩, ⟨.int .i64, x1⟩, ⟨.slice (.pair (.int .i64) (.slice (.int .u8))), x2⟩] := congrFun (congrFun (congrFun (ref13_Last_ex.choose_spec) x0) x1) x2
theorem ref13_Last_eq (x0 : Int) (x1 : Int) (x2 : List (Int × (List Int))) : ref13_Last x0 x1 x2 =
  some (IntKind.i64.wrap (x0 + ilen x2)) := (ref13_Last_raw x0 x1 x2).trans (by kernel_rfl)
noncomputable def ref13_Last_sig : Sig := { pm := [(true, [(false, .int .i64), (false, .int .i64), (false, .slice (.pair (.int .i64) (.slice (.int .u8))))])], rm := [(false, [(false, .int .i64)])], f := fun | [⟨.int .i64, x0⟩, ⟨.int .i64, x1⟩, ⟨.slice (.pair (.int .i64) (.slice (.int .u8))), x2⟩] => .yes _ (ref13_Last x0 x1 x2) ref13_Last_mk | _ => .no }
theorem ref13_Last_ok : SigOk Try.prog 25 ref13_Last_sig := by
  refine contract_of (C := ref13_Last_C) (d := 3) S15_ok (callable_ex (by kernel_rfl)) ?_
  intro dvs
  unfold ref13_Last_sig
  dsimp only
  split
  · refine .inr ⟨_, ref13_Last_un, ref13_Last_mk, congrArg (fun o => Cl.yes _ o _) (ref13_Last_raw _ _ _), ?_⟩
    intro ds x h
    unfold ref13_Last_un at h
    split at h
    · cases h; rfl
    · cases h
  · exact .inl rfl
noncomputable def S16 : List (Nat × Sig) := (25, ref13_Last_sig) :: S15
theorem S16_ok : ListOk Try.prog S16 := ListOk.cons S15_ok ref13_Last_ok
noncomputable def ref13_Term_C : Cfg := { P := Try.prog, sig := lookSig S16, hb := fun f b => bif Nat.beq f 24 && Nat.beq b 0 then some { tmps := [1, 2, 6], obs := [116], nils := [], kl := [116] } else none, hr := fun _ _ => none }
noncomputable def ref13_Term_un : List DV → Option (Int × Bool) := fun | [⟨.int .i64, r0⟩, ⟨.bool, r1⟩] => some (r0, r1) | _ => none
noncomputable def ref13_Term_mk : (Int × Bool) → List DV := fun ⟨r0, r1⟩ => [⟨.int .i64, r0⟩, ⟨.bool, r1⟩]
theorem ref13_Term_ex : ∃ f : (Int) → (Int) → (List (Int × (List Int))) → (Int) → Option (Int × Bool), f = fun (x0 : Int) (x1 : Int) (x2 : List (Int × (List Int))) (x3 : Int) => funRun ref13_Term_C 3 24 [(true, [(false, .int .i64), (false, .int .i64), (false, .slice (.pair (.int .i64) (.slice (.int .u8))))]), (false, [(false, .int .i64)])] [(false, [(false, .int .i64)]), (false, [(false, .bool)])] ref13_Term_un [⟨.int .i64, x0⟩, ⟨.int .i64, x1⟩, ⟨.slice (.pair (.int .i64) (.slice (.int .u8))), x2⟩, ⟨.int .i64, x3⟩] := ⟨_, rfl⟩
noncomputable def ref13_Term : (Int) → (Int) → (List (Int × (List Int))) → (Int) → Option (Int × Bool) := ref13_Term_ex.choose
theorem ref13_Term_raw (x0 : Int) (x1 : Int) (x2 : List (Int × (List Int))) (x3 : Int) : ref13_Term x0 x1 x2 x3 = funRun ref13_Term_C 3 24 [(true, [(false, .int .i64), (false, .int .i64), (false, .slice (.pair (.int .i64) (.slice (.int .u8))))]), (false, [(false, .int .i64)])] [(false, [(false, .int .i64)]), (false, [(false, .bool)])] ref13_Term_un [⟨.int .i64, x0⟩, ⟨.int .i64, x1⟩, ⟨.slice (.pair (.int .i64) (.slice (.int .u8))), x2⟩, ⟨.int .i64, x3⟩] := congrFun (congrFun (congrFun (congrFun (ref13_Term_ex.choose_spec) x0) x1) x2) x3
noncomputable def ref13_Term_l0 (y0 : Int) (y1 : Int) (y2 : Int) (y3 : Int) (y4 : List ((Int) × (List (Int)))) : Option (Int × Bool) := loopAt ref13_Term_C 3 24 [(false, [(false, .int .i64)]), (false, [(false, .bool)])] ref13_Term_un [true, true, false, true, false] (St.ofLists [(1, .int .i64 y0), (2, .ptr 116 0), (6, .int .i64 y1)] [(116, some (.cells [.int .i64 y2, .int .i64 y3, .fz ((Ty.int IntKind.i64).pair (Ty.int IntKind.u8).slice) y4 false false]))] [116])
theorem ref13_Term_eq (x0 : Int) (x1 : Int) (x2 : List (Int × (List Int))) (x3 : Int) : ref13_Term x0 x1 x2 x3 =
  bif x3 == x0
  then some ((x1), true)
  else ref13_Term_l0 (x3) (0) (x0) (x1) (x2) := (ref13_Term_raw x0 x1 x2 x3).trans (by kernel_rfl)
theorem ref13_Term_l0_eq (y0 : Int) (y1 : Int) (y2 : Int) (y3 : Int) (y4 : List ((Int) × (List (Int)))) : ref13_Term_l0 y0 y1 y2 y3 y4 =
  bif decide (y1 < ilen y4)
  then bif IntKind.i64.wrap (IntKind.i64.wrap (y2 + 1) + y1) == y0
    then bif decide (0 ≤ y1)
      then (y4[y1.toNat]?).bind fun val6 =>
        some ((val6.fst), true)
      else none
    else ref13_Term_l0 (y0) (IntKind.i64.wrap (y1 + 1)) (y2) (y3) (y4)
  else some ((0), false) := (loopAt_step _ _ _ _ _ _ _).trans (by kernel_rfl)
noncomputable def ref13_Term_sig : Sig := { pm := [(true, [(false, .int .i64), (false, .int .i64), (false, .slice (.pair (.int .i64) (.slice (.int .u8))))]), (false, [(false, .int .i64)])], rm := [(false, [(false, .int .i64)]), (false, [(false, .bool)])], f := fun | [⟨.int .i64, x0⟩, ⟨.int .i64, x1⟩, ⟨.slice (.pair (.int .i64) (.slice (.int .u8))), x2⟩, ⟨.int .i64, x3⟩] => .yes _ (ref13_Term x0 x1 x2 x3) ref13_Term_mk | _ => .no }
theorem ref13_Term_ok : SigOk Try.prog 24 ref13_Term_sig := by
  refine contract_of (C := ref13_Term_C) (d := 3) S16_ok (callable_ex (by kernel_rfl)) ?_
  intro dvs
  unfold ref13_Term_sig
  dsimp only
  split
  · refine .inr ⟨_, ref13_Term_un, ref13_Term_mk, congrArg (fun o => Cl.yes _ o _) (ref13_Term_raw _ _ _ _), ?_⟩
    intro ds x h
    unfold ref13_Term_un at h
    split at h
    · cases h; rfl
    · cases h
  · exact .inl rfl
noncomputable def S17 : List (Nat × Sig) := (24, ref13_Term_sig) :: S16
theorem S17_ok : ListOk Try.prog S17 := ListOk.cons S16_ok ref13_Term_ok
noncomputable def ref13_Entries_C : Cfg := { P := Try.prog, sig := lookSig S17, hb := fun f b => bif Nat.beq f 26 && Nat.beq b 0 then some { tmps := [0, 1, 5], obs := [], nils := [], kl := [] } else none, hr := fun _ _ => none }
noncomputable def ref13_Entries_un : List DV → Option (Bool) := fun | [⟨.bool, r0⟩] => some r0 | _ => none
noncomputable def ref13_Entries_mk : Bool → List DV := fun r0 => [⟨.bool, r0⟩]
theorem ref13_Entries_ex : ∃ f : (List (Int × (List Int))) → (List (Int × (List Int))) → Option (Bool), f = fun (x0 : List (Int × (List Int))) (x1 : List (Int × (List Int))) => funRun ref13_Entries_C 3 26 [(false, [(false, .slice (.pair (.int .i64) (.slice (.int .u8))))]), (false, [(false, .slice (.pair (.int .i64) (.slice (.int .u8))))])] [(false, [(false, .bool)])] ref13_Entries_un [⟨.slice (.pair (.int .i64) (.slice (.int .u8))), x0⟩, ⟨.slice (.pair (.int .i64) (.slice (.int .u8))), x1⟩] := ⟨_, rfl⟩
noncomputable def ref13_Entries : (List (Int × (List Int))) → (List (Int × (List Int))) → Option (Bool) := ref13_Entries_ex.choose
theorem ref13_Entries_raw (x0 : List (Int × (List Int))) (x1 : List (Int × (List Int))) : ref13_Entries x0 x1 = funRun ref13_Entries_C 3 26 [(false, [(false, .slice (.pair (.int .i64) (.slice (.int .u8))))]), (false, [(false, .slice (.pair (.int .i64) (.slice (.int .u8))))])] [(false, [(false, .bool)])] ref13_Entries_un [⟨.slice (.pair (.int .i64) (.slice (.int .u8))), x0⟩, ⟨.slice (.pair (.int .i64) (.slice (.int .u8))), x1⟩] := congrFun (congrFun (ref13_Entries_ex.choose_spec) x0) x1
noncomputable def ref13_Entries_l0 (y0 : List ((Int) × (List (Int)))) (y1 : List ((Int) × (List (Int)))) (y2 : Int) : Option (Bool) := loopAt ref13_Entries_C 3 26 [(false, [(false, .bool)])] ref13_Entries_un [true, true, false, true, false] (St.ofLists [(0, .fz ((Ty.int IntKind.i64).pair (Ty.int IntKind.u8).slice) y0 false false), (1, .fz ((Ty.int IntKind.i64).pair (Ty.int IntKind.u8).slice) y1 false false), (5, .int .i64 y2)] [] [])
theorem ref13_Entries_eq (x0 : List (Int × (List Int))) (x1 : List (Int × (List Int))) : ref13_Entries x0 x1 =
  bif ilen x0 != ilen x1
  then some false
  else ref13_Entries_l0 (x0) (x1) (0) := (ref13_Entries_raw x0 x1).trans (by kernel_rfl)
theorem ref13_Entries_l0_eq (y0 : List ((Int) × (List (Int)))) (y1 : List ((Int) × (List (Int)))) (y2 : Int) : ref13_Entries_l0 y0 y1 y2 =
  bif decide (y2 < ilen y0)
  then bif decide (0 ≤ y2)
    then (y0[y2.toNat]?).bind fun val4 =>
      bif decide (0 ≤ y2)
        then (y1[y2.toNat]?).bind fun val8 =>
          bif val4.fst != val8.fst
            then some false
            else bif decide (0 ≤ y2)
              then (y0[y2.toNat]?).bind fun val14 =>
                bif decide (0 ≤ y2)
                  then (y1[y2.toNat]?).bind fun val18 =>
                    bif !(strOf val14.snd).toList == (strOf val18.snd).toList
                      then some false
                      else ref13_Entries_l0 (y0) (y1) (IntKind.i64.wrap (y2 + 1))
                  else none
              else none
        else none
    else none
  else some true := (loopAt_step _ _ _ _ _ _ _).trans (by kernel_rfl)
noncomputable def ref13_Entries_sig : Sig := { pm := [(false, [(false, .slice (.pair (.int .i64) (.slice (.int .u8))))]), (false, [(false, .slice (.pair (.int .i64) (.slice (.int .u8))))])], rm := [(false, [(false, .bool)])], f := fun | [⟨.slice (.pair (.int .i64) (.slice (.int .u8))), x0⟩, ⟨.slice (.pair (.int .i64) (.slice (.int .u8))), x1⟩] => .yes _ (ref13_Entries x0 x1) ref13_Entries_mk | _ => .no }
theorem ref13_Entries_ok : SigOk Try.prog 26 ref13_Entries_sig := by
  refine contract_of (C := ref13_Entries_C) (d := 3) S17_ok (callable_ex (by kernel_rfl)) ?_
  intro dvs
  unfold ref13_Entries_sig
  dsimp only
  split
  · refine .inr ⟨_, ref13_Entries_un, ref13_Entries_mk, congrArg (fun o => Cl.yes _ o _) (ref13_Entries_raw _ _), ?_⟩
    intro ds x h
    unfold ref13_Entries_un at h
    split at h
    · cases h; rfl
    · cases h
  · exact .inl rfl
noncomputable def S18 : List (Nat × Sig) := (26, ref13_Entries_sig) :: S17
theorem S18_ok : ListOk Try.prog S18 := ListOk.cons S17_ok ref13_Entries_ok
noncomputable def ref13_Same_C : Cfg := { P := Try.prog, sig := lookSig S18, hb := fun _ _ => none, hr := fun _ _ => none }
noncomputable def ref13_Same_un : List DV → Option (Bool) := fun | [⟨.bool, r0⟩] => some r0 | _ => none
noncomputable def ref13_Same_mk : Bool → List DV := fun r0 => [⟨.bool, r0⟩]
theorem ref13_Same_ex : ∃ f : (Int) → (Int) → (List (Int × (List Int))) → (Int) → (Int) → (List (Int × (List Int))) → Option (Bool), f = fun (x0 : Int) (x1 : Int) (x2 : List (Int × (List Int))) (x3 : Int) (x4 : Int) (x5 : List (Int × (List Int))) => funRun ref13_Same_C 3 14 [(true, [(false, .int .i64), (false, .int .i64), (false, .slice (.pair (.int .i64) (.slice (.int .u8))))]), (true, [(false, .int .i64), (false, .int .i64), (false, .slice (.pair (.int .i64) (.slice (.int .u8))))])] [(false, [(false, .bool)])] ref13_Same_un [⟨.int .i64, x0⟩, ⟨.int .i64, x1⟩, ⟨.slice (.pair (.int .i64) (.slice (.int .u8))), x2⟩, ⟨.int .i64, x3⟩, ⟨.int .i64, x4⟩, ⟨.slice (.pair (.int .i64) (.slice (.int .u8))), x5⟩] := ⟨_, rfl⟩
noncomputable def ref13_Same : (Int) → (Int) → (List (Int × (List Int))) → (Int) → (Int) → (List (Int × (List Int))) → Option (Bool) := ref13_Same_ex.choose
theorem ref13_Same_raw (x0 : Int) (x1 : Int) (x2 : List (Int × (List Int))) (x3 : Int) (x4 : Int) (x5 : List (Int × (List Int))) : ref13_Same x0 x1 x2 x3 x4 x5 = funRun ref13_Same_C 3 14 [(true, [(false, .int .i64), (false, .int .i64), (false, .slice (.pair (.int .i64) (.slice (.int .u8))))]), (true, [(false, .int .i64), (false, .int .i64), (false, .slice (.pair (.int .i64) (.slice (.int .u8))))])] [(false, [(false, .bool)])] ref13_Same_un [⟨.int .i64, x0⟩, ⟨.int .i64, x1⟩, ⟨.slice (.pair (.int .i64) (.slice (.int .u8))), x2⟩, ⟨.int .i64, x3⟩, ⟨.int .i64, x4⟩, ⟨.slice (.pair (.int .i64) (.slice (.int .u8))), x5⟩] := congrFun (congrFun (congrFun (congrFun (congrFun (congrFun (ref13_Same_ex.choose_spec) x0) x1) x2) x3) x4) x5
theorem ref13_Same_eq (x0 : Int) (x1 : Int) (x2 : List (Int × (List Int))) (x3 : Int) (x4 : Int) (x5 : List (Int × (List Int))) : ref13_Same x0 x1 x2 x3 x4 x5 =
  bif x0 == x3
  then bif x1 == x4
    then (ref13_Entries x2 x5).bind fun val4 =>
      some (val4)
    else some false
  else some false := (ref13_Same_raw x0 x1 x2 x3 x4 x5).trans (by kernel_rfl)
noncomputable def ref13_Same_sig : Sig := { pm := [(true, [(false, .int .i64), (false, .int .i64), (false, .slice (.pair (.int .i64) (.slice (.int .u8))))]), (true, [(false, .int .i64), (false, .int .i64), (false, .slice (.pair (.int .i64) (.slice (.int .u8))))])], rm := [(false, [(false, .bool)])], f := fun | [⟨.int .i64, x0⟩, ⟨.int .i64, x1⟩, ⟨.slice (.pair (.int .i64) (.slice (.int .u8))), x2⟩, ⟨.int .i64, x3⟩, ⟨.int .i64, x4⟩, ⟨.slice (.pair (.int .i64) (.slice (.int .u8))), x5⟩] => .yes _ (ref13_Same x0 x1 x2 x3 x4 x5) ref13_Same_mk | _ => .no }
theorem ref13_Same_ok : SigOk Try.prog 14 ref13_Same_sig := by
  refine contract_of (C := ref13_Same_C) (d := 3) S18_ok (callable_ex (by kernel_rfl)) ?_
  intro dvs
  unfold ref13_Same_sig
  dsimp only
  split
  · refine .inr ⟨_, ref13_Same_un, ref13_Same_mk, congrArg (fun o => Cl.yes _ o _) (ref13_Same_raw _ _ _ _ _ _), ?_⟩
    intro ds x h
    unfold ref13_Same_un at h
    split at h
    · cases h; rfl
    · cases h
  · exact .inl rfl
noncomputable def S19 : List (Nat × Sig) := (14, ref13_Same_sig) :: S18
theorem S19_ok : ListOk Try.prog S19 := ListOk.cons S18_ok ref13_Same_ok
noncomputable def ref13_hint_C : Cfg := { P := Try.prog, sig := lookSig S19, hb := fun f b => bif Nat.beq f 40 && Nat.beq b 0 then some { tmps := [2, 5, 7], obs := [116], nils := [], kl := [116] } else none, hr := fun _ _ => none }
noncomputable def ref13_hint_un : List DV → Option (Int) := fun | [⟨.int .i64, r0⟩] => some r0 | _ => none
noncomputable def ref13_hint_mk : Int → List DV := fun r0 => [⟨.int .i64, r0⟩]
theorem ref13_hint_ex : ∃ f : (Int) → (Int) → (List (Int × (List Int))) → (Int) → Option (Int), f = fun (x0 : Int) (x1 : Int) (x2 : List (Int × (List Int))) (x3 : Int) => funRun ref13_hint_C 3 40 [(true, [(false, .int .i64), (false, .int .i64), (false, .slice (.pair (.int .i64) (.slice (.int .u8))))]), (false, [(false, .int .i64)])] [(false, [(false, .int .i64)])] ref13_hint_un [⟨.int .i64, x0⟩, ⟨.int .i64, x1⟩, ⟨.slice (.pair (.int .i64) (.slice (.int .u8))), x2⟩, ⟨.int .i64, x3⟩] := ⟨_, rfl⟩
noncomputable def ref13_hint : (Int) → (Int) → (List (Int × (List Int))) → (Int) → Option (Int) := ref13_hint_ex.choose
theorem ref13_hint_raw (x0 : Int) (x1 : Int) (x2 : List (Int × (List Int))) (x3 : Int) : ref13_hint x0 x1 x2 x3 = funRun ref13_hint_C 3 40 [(true, [(false, .int .i64), (false, .int .i64), (false, .slice (.pair (.int .i64) (.slice (.int .u8))))]), (false, [(false, .int .i64)])] [(false, [(false, .int .i64)])] ref13_hint_un [⟨.int .i64, x0⟩, ⟨.int .i64, x1⟩, ⟨.slice (.pair (.int .i64) (.slice (.int .u8))), x2⟩, ⟨.int .i64, x3⟩] := congrFun (congrFun (congrFun (congrFun (ref13_hint_ex.choose_spec) x0) x1) x2) x3
noncomputable def ref13_hint_l0 (y0 : Int) (y1 : Int) (y2 : Int) (y3 : Int) (y4 : List ((Int) × (List (Int)))) : Option (Int) := loopAt ref13_hint_C 3 40 [(false, [(false, .int .i64)])] ref13_hint_un [true, true, true, false, false] (St.ofLists [(2, .ptr 116 0), (5, .int .i64 y0), (7, .int .i64 y1)] [(116, some (.cells [.int .i64 y2, .int .i64 y3, .fz ((Ty.int IntKind.i64).pair (Ty.int IntKind.u8).slice) y4 false false]))] [116])
theorem ref13_hint_eq (x0 : Int) (x1 : Int) (x2 : List (Int × (List Int))) (x3 : Int) : ref13_hint x0 x1 x2 x3 =
  (ref13_Term x0 x1 x2 x3).bind fun val0 =>
  ref13_hint_l0 (val0.1) (IntKind.i64.wrap (x3 - 1)) (x0) (x1) (x2) := (ref13_hint_raw x0 x1 x2 x3).trans (by kernel_rfl)
theorem ref13_hint_l0_eq (y0 : Int) (y1 : Int) (y2 : Int) (y3 : Int) (y4 : List ((Int) × (List (Int)))) : ref13_hint_l0 y0 y1 y2 y3 y4 =
  bif decide (y1 > y2)
  then (ref13_Term y2 y3 y4 y1).bind fun val2 =>
    bif val2.1 != y0
      then bif decide (y1 < y2)
        then some (y2)
        else some (y1)
      else ref13_hint_l0 (y0) (IntKind.i64.wrap (y1 - 1)) (y2) (y3) (y4)
  else bif decide (y1 < y2)
    then some (y2)
    else some (y1) := (loopAt_step _ _ _ _ _ _ _).trans (by kernel_rfl)
noncomputable def ref13_hint_sig : Sig := { pm := [(true, [(false, .int .i64), (false, .int .i64), (false, .slice (.pair (.int .i64) (.slice (.int .u8))))]), (false, [(false, .int .i64)])], rm := [(false, [(false, .int .i64)])], f := fun | [⟨.int .i64, x0⟩, ⟨.int .i64, x1⟩, ⟨.slice (.pair (.int .i64) (.slice (.int .u8))), x2⟩, ⟨.int .i64, x3⟩] => .yes _ (ref13_hint x0 x1 x2 x3) ref13_hint_mk | _ => .no }
theorem ref13_hint_ok : SigOk Try.prog 40 ref13_hint_sig := by
  refine contract_of (C := ref13_hint_C) (d := 3) S19_ok (callable_ex (by kernel_rfl)) ?_
  intro dvs
  unfold ref13_hint_sig
  dsimp only
  split
  · refine .inr ⟨_, ref13_hint_un, ref13_hint_mk, congrArg (fun o => Cl.yes _ o _) (ref13_hint_raw _ _ _ _), ?_⟩
    intro ds x h
    unfold ref13_hint_un at h
    split at h
    · cases h; rfl
    · cases h
  · exact .inl rfl
noncomputable def S20 : List (Nat × Sig) := (40, ref13_hint_sig) :: S19
theorem S20_ok : ListOk Try.prog S20 := ListOk.cons S19_ok ref13_hint_ok
noncomputable def ref13_cut_C : Cfg := { P := Try.prog, sig := lookSig S20, hb := fun f b => bif Nat.beq f 41 && Nat.beq b 0 then some { tmps := [1, 2, 5, 6], obs := [116, 60], nils := [(5, 60, .pair (.int .i64) (.slice (.int .u8)))], kl := [116, 340, 332, 60] } else none, hr := fun _ _ => none }
noncomputable def ref13_cut_un : List DV → Option ((List (Int × (List Int)))) := fun | [⟨.slice (.pair (.int .i64) (.slice (.int .u8))), r0⟩] => some r0 | _ => none
noncomputable def ref13_cut_mk : (List (Int × (List Int))) → List DV := fun r0 => [⟨.slice (.pair (.int .i64) (.slice (.int .u8))), r0⟩]
theorem ref13_cut_ex : ∃ f : (Int) → (Int) → (List (Int × (List Int))) → (Int) → Option ((List (Int × (List Int)))), f = fun (x0 : Int) (x1 : Int) (x2 : List (Int × (List Int))) (x3 : Int) => funRun ref13_cut_C 3 41 [(true, [(false, .int .i64), (false, .int .i64), (false, .slice (.pair (.int .i64) (.slice (.int .u8))))]), (false, [(false, .int .i64)])] [(false, [(true, .slice (.pair (.int .i64) (.slice (.int .u8))))])] ref13_cut_un [⟨.int .i64, x0⟩, ⟨.int .i64, x1⟩, ⟨.slice (.pair (.int .i64) (.slice (.int .u8))), x2⟩, ⟨.int .i64, x3⟩] := ⟨_, rfl⟩
noncomputable def ref13_cut : (Int) → (Int) → (List (Int × (List Int))) → (Int) → Option ((List (Int × (List Int)))) := ref13_cut_ex.choose
theorem ref13_cut_raw (x0 : Int) (x1 : Int) (x2 : List (Int × (List Int))) (x3 : Int) : ref13_cut x0 x1 x2 x3 = funRun ref13_cut_C 3 41 [(true, [(false, .int .i64), (false, .int .i64), (false, .slice (.pair (.int .i64) (.slice (.int .u8))))]), (false, [(false, .int .i64)])] [(false, [(true, .slice (.pair (.int .i64) (.slice (.int .u8))))])] ref13_cut_un [⟨.int .i64, x0⟩, ⟨.int .i64, x1⟩, ⟨.slice (.pair (.int .i64) (.slice (.int .u8))), x2⟩, ⟨.int .i64, x3⟩] := congrFun (congrFun (congrFun (congrFun (ref13_cut_ex.choose_spec) x0) x1) x2) x3
noncomputable def ref13_cut_l0 (y0 : Int) (y1 : Int) (y2 : Int) (y3 : Int) (y4 : List ((Int) × (List (Int)))) (y5 : List ((Int) × (List (Int)))) : Option ((List (Int × (List Int)))) := loopAt ref13_cut_C 3 41 [(false, [(true, .slice (.pair (.int .i64) (.slice (.int .u8))))])] ref13_cut_un [true, true, false, true, false] (St.ofLists [(1, .int .i64 y0), (2, .ptr 116 0), (5, .ow 60), (6, .int .i64 y1)] [(116, some (.cells [.int .i64 y2, .int .i64 y3, .fz ((Ty.int IntKind.i64).pair (Ty.int IntKind.u8).slice) y4 false false])), (60, some (.row ((Ty.int IntKind.i64).pair (Ty.int IntKind.u8).slice) y5 0 false))] [116, 340, 332, 60])
theorem ref13_cut_eq (x0 : Int) (x1 : Int) (x2 : List (Int × (List Int))) (x3 : Int) : ref13_cut x0 x1 x2 x3 =
  ref13_cut_l0 (x3) (0) (x0) (x1) (x2) ([]) := (ref13_cut_raw x0 x1 x2 x3).trans (by kernel_rfl)
theorem ref13_cut_l0_eq (y0 : Int) (y1 : Int) (y2 : Int) (y3 : Int) (y4 : List ((Int) × (List (Int)))) (y5 : List ((Int) × (List (Int)))) : ref13_cut_l0 y0 y1 y2 y3 y4 y5 =
  bif decide (y1 < ilen y4)
  then bif decide (IntKind.i64.wrap (IntKind.i64.wrap (y2 + 1) + y1) ≤ y0)
    then bif decide (0 ≤ y1)
      then (y4[y1.toNat]?).bind fun val6 =>
        bif decide ((ilen y5 + ilen [(val6.fst, val6.snd)]) * 32 ≤ room)
          then ref13_cut_l0 (y0) (IntKind.i64.wrap (y1 + 1)) (y2) (y3) (y4) (y5 ++ [(val6.fst, val6.snd)])
          else none
      else none
    else some (y5)
  else some (y5) := (loopAt_step _ _ _ _ _ _ _).trans (by kernel_rfl)
noncomputable def ref13_cut_sig : Sig := { pm := [(true, [(false, .int .i64), (false, .int .i64), (false, .slice (.pair (.int .i64) (.slice (.int .u8))))]), (false, [(false, .int .i64)])], rm := [(false, [(true, .slice (.pair (.int .i64) (.slice (.int .u8))))])], f := fun | [⟨.int .i64, x0⟩, ⟨.int .i64, x1⟩, ⟨.slice (.pair (.int .i64) (.slice (.int .u8))), x2⟩, ⟨.int .i64, x3⟩] => .yes _ (ref13_cut x0 x1 x2 x3) ref13_cut_mk | _ => .no }
theorem ref13_cut_ok : SigOk Try.prog 41 ref13_cut_sig := by
  refine contract_of (C := ref13_cut_C) (d := 3) S20_ok (callable_ex (by kernel_rfl)) ?_
  intro dvs
  unfold ref13_cut_sig
  dsimp only
  split
  · refine .inr ⟨_, ref13_cut_un, ref13_cut_mk, congrArg (fun o => Cl.yes _ o _) (ref13_cut_raw _ _ _ _), ?_⟩
    intro ds x h
    unfold ref13_cut_un at h
    split at h
    · cases h; rfl
    · cases h
  · exact .inl rfl
noncomputable def S21 : List (Nat × Sig) := (41, ref13_cut_sig) :: S20
theorem S21_ok : ListOk Try.prog S21 := ListOk.cons S20_ok ref13_cut_ok
noncomputable def ref13_From_C : Cfg := { P := Try.prog, sig := lookSig S21, hb := fun f b => bif Nat.beq f 28 && Nat.beq b 0 then some { tmps := [1, 2, 3, 7, 8], obs := [124, 60], nils := [(7, 60, .pair (.int .i64) (.slice (.int .u8)))], kl := [124, 428, 420, 60] } else none, hr := fun _ _ => none }
noncomputable def ref13_From_un : List DV → Option ((List (Int × (List Int)))) := fun | [⟨.slice (.pair (.int .i64) (.slice (.int .u8))), r0⟩] => some r0 | _ => none
noncomputable def ref13_From_mk : (List (Int × (List Int))) → List DV := fun r0 => [⟨.slice (.pair (.int .i64) (.slice (.int .u8))), r0⟩]
theorem ref13_From_ex : ∃ f : (Int) → (Int) → (List (Int × (List Int))) → (Int) → (Int) → Option ((List (Int × (List Int)))), f = fun (x0 : Int) (x1 : Int) (x2 : List (Int × (List Int))) (x3 : Int) (x4 : Int) => funRun ref13_From_C 3 28 [(true, [(false, .int .i64), (false, .int .i64), (false, .slice (.pair (.int .i64) (.slice (.int .u8))))]), (false, [(false, .int .i64)]), (false, [(false, .int .i64)])] [(false, [(true, .slice (.pair (.int .i64) (.slice (.int .u8))))])] ref13_From_un [⟨.int .i64, x0⟩, ⟨.int .i64, x1⟩, ⟨.slice (.pair (.int .i64) (.slice (.int .u8))), x2⟩, ⟨.int .i64, x3⟩, ⟨.int .i64, x4⟩] := ⟨_, rfl⟩
noncomputable def ref13_From : (Int) → (Int) → (List (Int × (List Int))) → (Int) → (Int) → Option ((List (Int × (List Int)))) := ref13_From_ex.choose
theorem ref13_From_raw (x0 : Int) (x1 : Int) (x2 : List (Int × (List Int))) (x3 : Int) (x4 : Int) : ref13_From x0 x1 x2 x3 x4 = funRun ref13_From_C 3 28 [(true, [(false, .int .i64), (false, .int .i64), (false, .slice (.pair (.int .i64) (.slice (.int .u8))))]), (false, [(false, .int .i64)]), (false, [(false, .int .i64)])] [(false, [(true, .slice (.pair (.int .i64) (.slice (.int .u8))))])] ref13_From_un [⟨.int .i64, x0⟩, ⟨.int .i64, x1⟩, ⟨.slice (.pair (.int .i64) (.slice (.int .u8))), x2⟩, ⟨.int .i64, x3⟩, ⟨.int .i64, x4⟩] := congrFun (congrFun (congrFun (congrFun (congrFun (ref13_From_ex.choose_spec) x0) x1) x2) x3) x4
noncomputable def ref13_From_l0 (y0 : Int) (y1 : Int) (y2 : Int) (y3 : Int) (y4 : Int) (y5 : List ((Int) × (List (Int)))) (y6 : List ((Int) × (List (Int)))) : Option ((List (Int × (List Int)))) := loopAt ref13_From_C 3 28 [(false, [(true, .slice (.pair (.int .i64) (.slice (.int .u8))))])] ref13_From_un [true, true, true, false, true, false] (St.ofLists [(1, .int .i64 y0), (2, .int .i64 y1), (3, .ptr 124 0), (7, .ow 60), (8, .int .i64 y2)] [(124, some (.cells [.int .i64 y3, .int .i64 y4, .fz ((Ty.int IntKind.i64).pair (Ty.int IntKind.u8).slice) y5 false false])), (60, some (.row ((Ty.int IntKind.i64).pair (Ty.int IntKind.u8).slice) y6 0 false))] [124, 428, 420, 60])
theorem ref13_From_eq (x0 : Int) (x1 : Int) (x2 : List (Int × (List Int))) (x3 : Int) (x4 : Int) : ref13_From x0 x1 x2 x3 x4 =
  bif decide (x3 ≤ x0)
  then some ([])
  else ref13_From_l0 (x3) (x4) (0) (x0) (x1) (x2) ([]) := (ref13_From_raw x0 x1 x2 x3 x4).trans (by kernel_rfl)
theorem ref13_From_l0_eq (y0 : Int) (y1 : Int) (y2 : Int) (y3 : Int) (y4 : Int) (y5 : List ((Int) × (List (Int)))) (y6 : List ((Int) × (List (Int)))) : ref13_From_l0 y0 y1 y2 y3 y4 y5 y6 =
  bif decide (y2 < ilen y5)
  then bif decide (ilen y6 < y1)
    then bif decide (IntKind.i64.wrap (IntKind.i64.wrap (y3 + 1) + y2) ≥ y0)
      then bif decide (0 ≤ y2)
        then (y5[y2.toNat]?).bind fun val8 =>
          bif decide ((ilen y6 + ilen [(val8.fst, val8.snd)]) * 32 ≤ room)
            then ref13_From_l0 (y0) (y1) (IntKind.i64.wrap (y2 + 1)) (y3) (y4) (y5) (y6 ++ [(val8.fst, val8.snd)])
            else none
        else none
      else ref13_From_l0 (y0) (y1) (IntKind.i64.wrap (y2 + 1)) (y3) (y4) (y5) (y6)
    else some (y6)
  else some (y6) := (loopAt_step _ _ _ _ _ _ _).trans (by kernel_rfl)
noncomputable def ref13_From_sig : Sig := { pm := [(true, [(false, .int .i64), (false, .int .i64), (false, .slice (.pair (.int .i64) (.slice (.int .u8))))]), (false, [(false, .int .i64)]), (false, [(false, .int .i64)])], rm := [(false, [(true, .slice (.pair (.int .i64) (.slice (.int .u8))))])], f := fun | [⟨.int .i64, x0⟩, ⟨.int .i64, x1⟩, ⟨.slice (.pair (.int .i64) (.slice (.int .u8))), x2⟩, ⟨.int .i64, x3⟩, ⟨.int .i64, x4⟩] => .yes _ (ref13_From x0 x1 x2 x3 x4) ref13_From_mk | _ => .no }
theorem ref13_From_ok : SigOk Try.prog 28 ref13_From_sig := by
  refine contract_of (C := ref13_From_C) (d := 3) S21_ok (callable_ex (by kernel_rfl)) ?_
  intro dvs
  unfold ref13_From_sig
  dsimp only
  split
  · refine .inr ⟨_, ref13_From_un, ref13_From_mk, congrArg (fun o => Cl.yes _ o _) (ref13_From_raw _ _ _ _ _), ?_⟩
    intro ds x h
    unfold ref13_From_un at h
    split at h
    · cases h; rfl
    · cases h
  · exact .inl rfl
noncomputable def S22 : List (Nat × Sig) := (28, ref13_From_sig) :: S21
theorem S22_ok : ListOk Try.prog S22 := ListOk.cons S21_ok ref13_From_ok
noncomputable def ref13_Newer_C : Cfg := { P := Try.prog, sig := lookSig S22, hb := fun _ _ => none, hr := fun _ _ => none }
noncomputable def ref13_Newer_un : List DV → Option (Bool) := fun | [⟨.bool, r0⟩] => some r0 | _ => none
noncomputable def ref13_Newer_mk : Bool → List DV := fun r0 => [⟨.bool, r0⟩]
theorem ref13_Newer_ex : ∃ f : (Int) → (Int) → (List (Int × (List Int))) → (Int) → (Int) → Option (Bool), f = fun (x0 : Int) (x1 : Int) (x2 : List (Int × (List Int))) (x3 : Int) (x4 : Int) => funRun ref13_Newer_C 3 30 [(true, [(false, .int .i64), (false, .int .i64), (false, .slice (.pair (.int .i64) (.slice (.int .u8))))]), (false, [(false, .int .i64)]), (false, [(false, .int .i64)])] [(false, [(false, .bool)])] ref13_Newer_un [⟨.int .i64, x0⟩, ⟨.int .i64, x1⟩, ⟨.slice (.pair (.int .i64) (.slice (.int .u8))), x2⟩, ⟨.int .i64, x3⟩, ⟨.int .i64, x4⟩] := ⟨_, rfl⟩
noncomputable def ref13_Newer : (Int) → (Int) → (List (Int × (List Int))) → (Int) → (Int) → Option (Bool) := ref13_Newer_ex.choose
theorem ref13_Newer_raw (x0 : Int) (x1 : Int) (x2 : List (Int × (List Int))) (x3 : Int) (x4 : Int) : ref13_Newer x0 x1 x2 x3 x4 = funRun ref13_Newer_C 3 30 [(true, [(false, .int .i64), (false, .int .i64), (false, .slice (.pair (.int .i64) (.slice (.int .u8))))]), (false, [(false, .int .i64)]), (false, [(false, .int .i64)])] [(false, [(false, .bool)])] ref13_Newer_un [⟨.int .i64, x0⟩, ⟨.int .i64, x1⟩, ⟨.slice (.pair (.int .i64) (.slice (.int .u8))), x2⟩, ⟨.int .i64, x3⟩, ⟨.int .i64, x4⟩] := congrFun (congrFun (congrFun (congrFun (congrFun (ref13_Newer_ex.choose_spec) x0) x1) x2) x3) x4
theorem ref13_Newer_eq (x0 : Int) (x1 : Int) (x2 : List (Int × (List Int))) (x3 : Int) (x4 : Int) : ref13_Newer x0 x1 x2 x3 x4 =
  (ref13_Last x0 x1 x2).bind fun val0 =>
  (ref13_Term x0 x1 x2 val0).bind fun val2 =>
    bif x3 != val2.1
      then some (decide (x3 > val2.1))
      else (ref13_Last x0 x1 x2).bind fun val6 =>
        some (decide (x4 ≥ val6)) := (ref13_Newer_raw x0 x1 x2 x3 x4).trans (by kernel_rfl)
noncomputable def ref13_Newer_sig : Sig := { pm := [(true, [(false, .int .i64), (false, .int .i64), (false, .slice (.pair (.int .i64) (.slice (.int .u8))))]), (false, [(false, .int .i64)]), (false, [(false, .int .i64)])], rm := [(false, [(false, .bool)])], f := fun | [⟨.int .i64, x0⟩, ⟨.int .i64, x1⟩, ⟨.slice (.pair (.int .i64) (.slice (.int .u8))), x2⟩, ⟨.int .i64, x3⟩, ⟨.int .i64, x4⟩] => .yes _ (ref13_Newer x0 x1 x2 x3 x4) ref13_Newer_mk | _ => .no }
theorem ref13_Newer_ok : SigOk Try.prog 30 ref13_Newer_sig := by
  refine contract_of (C := ref13_Newer_C) (d := 3) S22_ok (callable_ex (by kernel_rfl)) ?_
  intro dvs
  unfold ref13_Newer_sig
  dsimp only
  split
  · refine .inr ⟨_, ref13_Newer_un, ref13_Newer_mk, congrArg (fun o => Cl.yes _ o _) (ref13_Newer_raw _ _ _ _ _), ?_⟩
    intro ds x h
    unfold ref13_Newer_un at h
    split at h
    · cases h; rfl
    · cases h
  · exact .inl rfl
noncomputable def S23 : List (Nat × Sig) := (30, ref13_Newer_sig) :: S22
theorem S23_ok : ListOk Try.prog S23 := ListOk.cons S22_ok ref13_Newer_ok
noncomputable def ref13_Compact_C : Cfg := { P := Try.prog, sig := lookSig S23, hb := fun _ _ => none, hr := fun _ _ => none }
noncomputable def ref13_Compact_un : List DV → Option (Int × Int × (List (Int × (List Int))) × Int) := fun | [⟨.int .i64, r0⟩, ⟨.int .i64, r1⟩, ⟨.slice (.pair (.int .i64) (.slice (.int .u8))), r2⟩, ⟨.int .i64, r3⟩] => some (r0, r1, r2, r3) | _ => none
noncomputable def ref13_Compact_mk : (Int × Int × (List (Int × (List Int))) × Int) → List DV := fun ⟨r0, r1, r2, r3⟩ => [⟨.int .i64, r0⟩, ⟨.int .i64, r1⟩, ⟨.slice (.pair (.int .i64) (.slice (.int .u8))), r2⟩, ⟨.int .i64, r3⟩]
theorem ref13_Compact_ex : ∃ f : (Int) → (Int) → (List (Int × (List Int))) → (Int) → Option (Int × Int × (List (Int × (List Int))) × Int), f = fun (x0 : Int) (x1 : Int) (x2 : List (Int × (List Int))) (x3 : Int) => funRun ref13_Compact_C 3 31 [(true, [(false, .int .i64), (false, .int .i64), (false, .slice (.pair (.int .i64) (.slice (.int .u8))))]), (false, [(false, .int .i64)])] [(true, [(false, .int .i64), (false, .int .i64), (true, .slice (.pair (.int .i64) (.slice (.int .u8))))]), (false, [(false, .int .i64)])] ref13_Compact_un [⟨.int .i64, x0⟩, ⟨.int .i64, x1⟩, ⟨.slice (.pair (.int .i64) (.slice (.int .u8))), x2⟩, ⟨.int .i64, x3⟩] := ⟨_, rfl⟩
noncomputable def ref13_Compact : (Int) → (Int) → (List (Int × (List Int))) → (Int) → Option (Int × Int × (List (Int × (List Int))) × Int) := ref13_Compact_ex.choose
theorem ref13_Compact_raw (x0 : Int) (x1 : Int) (x2 : List (Int × (List Int))) (x3 : Int) : ref13_Compact x0 x1 x2 x3 = funRun ref13_Compact_C 3 31 [(true, [(false, .int .i64), (false, .int .i64), (false, .slice (.pair (.int .i64) (.slice (.int .u8))))]), (false, [(false, .int .i64)])] [(true, [(false, .int .i64), (false, .int .i64), (true, .slice (.pair (.int .i64) (.slice (.int .u8))))]), (false, [(false, .int .i64)])] ref13_Compact_un [⟨.int .i64, x0⟩, ⟨.int .i64, x1⟩, ⟨.slice (.pair (.int .i64) (.slice (.int .u8))), x2⟩, ⟨.int .i64, x3⟩] := congrFun (congrFun (congrFun (congrFun (ref13_Compact_ex.choose_spec) x0) x1) x2) x3
theorem ref13_Compact_eq (x0 : Int) (x1 : Int) (x2 : List (Int × (List Int))) (x3 : Int) : ref13_Compact x0 x1 x2 x3 =
  (ref13_Term x0 x1 x2 x3).bind fun val0 =>
  bif !val0.2
    then some ((0), ((0), (([]), (2))))
    else (ref13_From x0 x1 x2 (IntKind.i64.wrap (x3 + 1)) (ilen x2)).bind fun val4 =>
      some ((x3), ((val0.1), ((val4), (0)))) := (ref13_Compact_raw x0 x1 x2 x3).trans (by kernel_rfl)
noncomputable def ref13_Compact_sig : Sig := { pm := [(true, [(false, .int .i64), (false, .int .i64), (false, .slice (.pair (.int .i64) (.slice (.int .u8))))]), (false, [(false, .int .i64)])], rm := [(true, [(false, .int .i64), (false, .int .i64), (true, .slice (.pair (.int .i64) (.slice (.int .u8))))]), (false, [(false, .int .i64)])], f := fun | [⟨.int .i64, x0⟩, ⟨.int .i64, x1⟩, ⟨.slice (.pair (.int .i64) (.slice (.int .u8))), x2⟩, ⟨.int .i64, x3⟩] => .yes _ (ref13_Compact x0 x1 x2 x3) ref13_Compact_mk | _ => .no }
theorem ref13_Compact_ok : SigOk Try.prog 31 ref13_Compact_sig := by
  refine contract_of (C := ref13_Compact_C) (d := 3) S23_ok (callable_ex (by kernel_rfl)) ?_
  intro dvs
  unfold ref13_Compact_sig
  dsimp only
  split
  · refine .inr ⟨_, ref13_Compact_un, ref13_Compact_mk, congrArg (fun o => Cl.yes _ o _) (ref13_Compact_raw _ _ _ _), ?_⟩
    intro ds x h
    unfold ref13_Compact_un at h
    split at h
    · cases h; rfl
    · cases h
  · exact .inl rfl
noncomputable def S24 : List (Nat × Sig) := (31, ref13_Compact_sig) :: S23
theorem S24_ok : ListOk Try.prog S24 := ListOk.cons S23_ok ref13_Compact_ok
noncomputable def ref13_Reset_C : Cfg := { P := Try.prog, sig := lookSig S24, hb := fun _ _ => none, hr := fun _ _ => none }
noncomputable def ref13_Reset_un : List DV → Option (Int × Int × (List (Int × (List Int)))) := fun | [⟨.int .i64, r0⟩, ⟨.int .i64, r1⟩, ⟨.slice (.pair (.int .i64) (.slice (.int .u8))), r2⟩] => some (r0, r1, r2) | _ => none
noncomputable def ref13_Reset_mk : (Int × Int × (List (Int × (List Int)))) → List DV := fun ⟨r0, r1, r2⟩ => [⟨.int .i64, r0⟩, ⟨.int .i64, r1⟩, ⟨.slice (.pair (.int .i64) (.slice (.int .u8))), r2⟩]
theorem ref13_Reset_ex : ∃ f : (Int) → (Int) → (List (Int × (List Int))) → (Int) → (Int) → Option (Int × Int × (List (Int × (List Int)))), f = fun (x0 : Int) (x1 : Int) (x2 : List (Int × (List Int))) (x3 : Int) (x4 : Int) => funRun ref13_Reset_C 3 34 [(true, [(false, .int .i64), (false, .int .i64), (false, .slice (.pair (.int .i64) (.slice (.int .u8))))]), (false, [(false, .int .i64)]), (false, [(false, .int .i64)])] [(true, [(false, .int .i64), (false, .int .i64), (true, .slice (.pair (.int .i64) (.slice (.int .u8))))])] ref13_Reset_un [⟨.int .i64, x0⟩, ⟨.int .i64, x1⟩, ⟨.slice (.pair (.int .i64) (.slice (.int .u8))), x2⟩, ⟨.int .i64, x3⟩, ⟨.int .i64, x4⟩] := ⟨_, rfl⟩
noncomputable def ref13_Reset : (Int) → (Int) → (List (Int × (List Int))) → (Int) → (Int) → Option (Int × Int × (List (Int × (List Int)))) := ref13_Reset_ex.choose
theorem ref13_Reset_raw (x0 : Int) (x1 : Int) (x2 : List (Int × (List Int))) (x3 : Int) (x4 : Int) : ref13_Reset x0 x1 x2 x3 x4 = funRun ref13_Reset_C 3 34 [(true, [(false, .int .i64), (false, .int .i64), (false, .slice (.pair (.int .i64) (.slice (.int .u8))))]), (false, [(false, .int .i64)]), (false, [(false, .int .i64)])] [(true, [(false, .int .i64), (false, .int .i64), (true, .slice (.pair (.int .i64) (.slice (.int .u8))))])] ref13_Reset_un [⟨.int .i64, x0⟩, ⟨.int .i64, x1⟩, ⟨.slice (.pair (.int .i64) (.slice (.int .u8))), x2⟩, ⟨.int .i64, x3⟩, ⟨.int .i64, x4⟩] := congrFun (congrFun (congrFun (congrFun (congrFun (ref13_Reset_ex.choose_spec) x0) x1) x2) x3) x4
theorem ref13_Reset_eq (x0 : Int) (x1 : Int) (x2 : List (Int × (List Int))) (x3 : Int) (x4 : Int) : ref13_Reset x0 x1 x2 x3 x4 =
  (ref13_Term x0 x1 x2 x3).bind fun val0 =>
  bif val0.2
    then bif val0.1 == x4
      then (ref13_From x0 x1 x2 (IntKind.i64.wrap (x3 + 1)) (ilen x2)).bind fun val6 =>
        some ((x3), ((x4), (val6)))
      else some ((x3), ((x4), ([])))
    else some ((x3), ((x4), ([]))) := (ref13_Reset_raw x0 x1 x2 x3 x4).trans (by kernel_rfl)
noncomputable def ref13_Reset_sig : Sig := { pm := [(true, [(false, .int .i64), (false, .int .i64), (false, .slice (.pair (.int .i64) (.slice (.int .u8))))]), (false, [(false, .int .i64)]), (false, [(false, .int .i64)])], rm := [(true, [(false, .int .i64), (false, .int .i64), (true, .slice (.pair (.int .i64) (.slice (.int .u8))))])], f := fun | [⟨.int .i64, x0⟩, ⟨.int .i64, x1⟩, ⟨.slice (.pair (.int .i64) (.slice (.int .u8))), x2⟩, ⟨.int .i64, x3⟩, ⟨.int .i64, x4⟩] => .yes _ (ref13_Reset x0 x1 x2 x3 x4) ref13_Reset_mk | _ => .no }
theorem ref13_Reset_ok : SigOk Try.prog 34 ref13_Reset_sig := by
  refine contract_of (C := ref13_Reset_C) (d := 3) S24_ok (callable_ex (by kernel_rfl)) ?_
  intro dvs
  unfold ref13_Reset_sig
  dsimp only
  split
  · refine .inr ⟨_, ref13_Reset_un, ref13_Reset_mk, congrArg (fun o => Cl.yes _ o _) (ref13_Reset_raw _ _ _ _ _), ?_⟩
    intro ds x h
    unfold ref13_Reset_un at h
    split at h
    · cases h; rfl
    · cases h
  · exact .inl rfl
noncomputable def S25 : List (Nat × Sig) := (34, ref13_Reset_sig) :: S24
theorem S25_ok : ListOk Try.prog S25 := ListOk.cons S24_ok ref13_Reset_ok
noncomputable def ref13_Put_C : Cfg := { P := Try.prog, sig := lookSig S25, hb := fun f b => bif Nat.beq f 19 && Nat.beq b 0 then some { tmps := [4, 8, 11, 13, 16, 17], obs := [132, 164], nils := [], kl := [164, 132] } else none, hr := fun f b => bif Nat.beq f 19 && Nat.beq b 10 then some { tmps := [4, 8, 11, 12, 13], obs := [132, 164], nils := [], kl := [164, 132] } else none }
noncomputable def ref13_Put_un : List DV → Option (Int × Int × (List (Int × (List Int))) × Int × Bool) := fun | [⟨.int .i64, r0⟩, ⟨.int .i64, r1⟩, ⟨.slice (.pair (.int .i64) (.slice (.int .u8))), r2⟩, ⟨.int .i64, r3⟩, ⟨.bool, r4⟩] => some (r0, r1, r2, r3, r4) | _ => none
noncomputable def ref13_Put_mk : (Int × Int × (List (Int × (List Int))) × Int × Bool) → List DV := fun ⟨r0, r1, r2, r3, r4⟩ => [⟨.int .i64, r0⟩, ⟨.int .i64, r1⟩, ⟨.slice (.pair (.int .i64) (.slice (.int .u8))), r2⟩, ⟨.int .i64, r3⟩, ⟨.bool, r4⟩]
theorem ref13_Put_ex : ∃ f : (Int) → (Int) → (List (Int × (List Int))) → (Int) → (Int) → (List (Int × (List Int))) → Option (Int × Int × (List (Int × (List Int))) × Int × Bool), f = fun (x0 : Int) (x1 : Int) (x2 : List (Int × (List Int))) (x3 : Int) (x4 : Int) (x5 : List (Int × (List Int))) => funRun ref13_Put_C 3 19 [(true, [(false, .int .i64), (false, .int .i64), (false, .slice (.pair (.int .i64) (.slice (.int .u8))))]), (false, [(false, .int .i64)]), (false, [(false, .int .i64)]), (false, [(false, .slice (.pair (.int .i64) (.slice (.int .u8))))])] [(true, [(false, .int .i64), (false, .int .i64), (false, .slice (.pair (.int .i64) (.slice (.int .u8))))]), (false, [(false, .int .i64)]), (false, [(false, .bool)])] ref13_Put_un [⟨.int .i64, x0⟩, ⟨.int .i64, x1⟩, ⟨.slice (.pair (.int .i64) (.slice (.int .u8))), x2⟩, ⟨.int .i64, x3⟩, ⟨.int .i64, x4⟩, ⟨.slice (.pair (.int .i64) (.slice (.int .u8))), x5⟩] := ⟨_, rfl⟩
noncomputable def ref13_Put : (Int) → (Int) → (List (Int × (List Int))) → (Int) → (Int) → (List (Int × (List Int))) → Option (Int × Int × (List (Int × (List Int))) × Int × Bool) := ref13_Put_ex.choose
theorem ref13_Put_raw (x0 : Int) (x1 : Int) (x2 : List (Int × (List Int))) (x3 : Int) (x4 : Int) (x5 : List (Int × (List Int))) : ref13_Put x0 x1 x2 x3 x4 x5 = funRun ref13_Put_C 3 19 [(true, [(false, .int .i64), (false, .int .i64), (false, .slice (.pair (.int .i64) (.slice (.int .u8))))]), (false, [(false, .int .i64)]), (false, [(false, .int .i64)]), (false, [(false, .slice (.pair (.int .i64) (.slice (.int .u8))))])] [(true, [(false, .int .i64), (false, .int .i64), (false, .slice (.pair (.int .i64) (.slice (.int .u8))))]), (false, [(false, .int .i64)]), (false, [(false, .bool)])] ref13_Put_un [⟨.int .i64, x0⟩, ⟨.int .i64, x1⟩, ⟨.slice (.pair (.int .i64) (.slice (.int .u8))), x2⟩, ⟨.int .i64, x3⟩, ⟨.int .i64, x4⟩, ⟨.slice (.pair (.int .i64) (.slice (.int .u8))), x5⟩] := congrFun (congrFun (congrFun (congrFun (congrFun (congrFun (ref13_Put_ex.choose_spec) x0) x1) x2) x3) x4) x5
noncomputable def ref13_Put_r10 (y0 : Int) (y1 : Int) (y2 : List ((Int) × (List (Int)))) (y3 : Int) (y4 : Int) (y5 : List ((Int) × (List (Int)))) (y6 : Int) (y7 : Int) : Option (Int × Int × (List (Int × (List Int))) × Int × Bool) := regAt ref13_Put_C 3 19 [(true, [(false, .int .i64), (false, .int .i64), (false, .slice (.pair (.int .i64) (.slice (.int .u8))))]), (false, [(false, .int .i64)]), (false, [(false, .bool)])] ref13_Put_un [true, true, true, true, true, false] (St.ofLists [(4, .ptr 132 0), (8, .ptr 164 0), (11, .int .i64 y0), (12, .int .i64 y1), (13, .fz ((Ty.int IntKind.i64).pair (Ty.int IntKind.u8).slice) y2 false false)] [(132, some (.cells [.int .i64 y3, .int .i64 y4, .fz ((Ty.int IntKind.i64).pair (Ty.int IntKind.u8).slice) y5 false false])), (164, some (.cells [.int .i64 y6, .int .i64 y7, .nils]))] [164, 132])
noncomputable def ref13_Put_l0 (y0 : Int) (y1 : List ((Int) × (List (Int)))) (y2 : Int) (y3 : Int) (y4 : Int) (y5 : Int) (y6 : List ((Int) × (List (Int)))) (y7 : Int) (y8 : Int) : Option (Int × Int × (List (Int × (List Int))) × Int × Bool) := loopAt ref13_Put_C 3 19 [(true, [(false, .int .i64), (false, .int .i64), (false, .slice (.pair (.int .i64) (.slice (.int .u8))))]), (false, [(false, .int .i64)]), (false, [(false, .bool)])] ref13_Put_un [true, true, true, true, true, true, true, true, true, false, true, false] (St.ofLists [(4, .ptr 132 0), (8, .ptr 164 0), (11, .int .i64 y0), (13, .fz ((Ty.int IntKind.i64).pair (Ty.int IntKind.u8).slice) y1 false false), (16, .int .i64 y2), (17, .int .i64 y3)] [(132, some (.cells [.int .i64 y4, .int .i64 y5, .fz ((Ty.int IntKind.i64).pair (Ty.int IntKind.u8).slice) y6 false false])), (164, some (.cells [.int .i64 y7, .int .i64 y8, .nils]))] [164, 132])
theorem ref13_Put_eq (x0 : Int) (x1 : Int) (x2 : List (Int × (List Int))) (x3 : Int) (x4 : Int) (x5 : List (Int × (List Int))) : ref13_Put x0 x1 x2 x3 x4 x5 =
  bif decide (x3 < x0)
  then bif decide (IntKind.i64.wrap (x0 - x3) > ilen x5)
    then some ((x0), ((x1), ((x2), ((x0), true))))
    else bif decide (0 ≤ IntKind.i64.wrap (x0 - x3))
      then bif decide (IntKind.i64.wrap (x0 - x3) ≤ ilen x5)
        then bif decide (ilen x5 ≤ ilen x5)
          then ref13_Put_r10 (x0) (x1) (List.drop (IntKind.i64.wrap (x0 - x3)).toNat (List.take (ilen x5).toNat x5)) (x0) (x1) (x2) (0) (0)
          else none
        else none
      else none
  else ref13_Put_r10 (x3) (x4) (x5) (x0) (x1) (x2) (0) (0) := (ref13_Put_raw x0 x1 x2 x3 x4 x5).trans (by kernel_rfl)
theorem ref13_Put_r10_eq (y0 : Int) (y1 : Int) (y2 : List ((Int) × (List (Int)))) (y3 : Int) (y4 : Int) (y5 : List ((Int) × (List (Int)))) (y6 : Int) (y7 : Int) : ref13_Put_r10 y0 y1 y2 y3 y4 y5 y6 y7 =
  (ref13_Term y3 y4 y5 y0).bind fun val0 =>
  bif !val0.2
    then (ref13_Last y3 y4 y5).bind fun val4 =>
      some ((y3), ((y4), ((y5), ((val4), false))))
    else bif val0.1 != y1
      then (ref13_hint y3 y4 y5 y0).bind fun val6 =>
        some ((y3), ((y4), ((y5), ((val6), false))))
      else ref13_Put_l0 (y0) (y2) (IntKind.i64.wrap (y0 + ilen y2)) (0) (y3) (y4) (y5) (y6) (y7) := (regAt_step _ _ _ _ _ _ _).trans (by kernel_rfl)
theorem ref13_Put_l0_eq (y0 : Int) (y1 : List ((Int) × (List (Int)))) (y2 : Int) (y3 : Int) (y4 : Int) (y5 : Int) (y6 : List ((Int) × (List (Int)))) (y7 : Int) (y8 : Int) : ref13_Put_l0 y0 y1 y2 y3 y4 y5 y6 y7 y8 =
  bif decide (y3 < ilen y1)
  then (ref13_Term y4 y5 y6 (IntKind.i64.wrap (IntKind.i64.wrap (y0 + 1) + y3))).bind fun val2 =>
    bif val2.2
      then bif decide (0 ≤ y3)
        then (y1[y3.toNat]?).bind fun val8 =>
          bif val2.1 == val8.fst
            then ref13_Put_l0 (y0) (y1) (y2) (IntKind.i64.wrap (y3 + 1)) (y4) (y5) (y6) (y7) (y8)
            else (ref13_cut y4 y5 y6 (IntKind.i64.wrap (y0 + y3))).bind fun val12 =>
              bif decide ((0 + ilen val12) * 32 ≤ room)
                then bif decide (0 ≤ y3)
                  then bif decide (y3 ≤ ilen y1)
                    then bif decide (ilen y1 ≤ ilen y1)
                      then bif decide ((ilen ([] ++ val12) + ilen (List.drop y3.toNat (List.take (ilen y1).toNat y1))) * 32 ≤ room)
                        then some ((y4), ((y5), (([] ++ val12 ++ List.drop y3.toNat (List.take (ilen y1).toNat y1)), ((y2), true))))
                        else none
                      else none
                    else none
                  else none
                else none
        else none
      else (ref13_cut y4 y5 y6 (IntKind.i64.wrap (y0 + y3))).bind fun val6 =>
        bif decide ((0 + ilen val6) * 32 ≤ room)
          then bif decide (0 ≤ y3)
            then bif decide (y3 ≤ ilen y1)
              then bif decide (ilen y1 ≤ ilen y1)
                then bif decide ((ilen ([] ++ val6) + ilen (List.drop y3.toNat (List.take (ilen y1).toNat y1))) * 32 ≤ room)
                  then some ((y4), ((y5), (([] ++ val6 ++ List.drop y3.toNat (List.take (ilen y1).toNat y1)), ((y2), true))))
                  else none
                else none
              else none
            else none
          else none
  else some ((y4), ((y5), ((y6), ((y2), true)))) := (loopAt_step _ _ _ _ _ _ _).trans (by kernel_rfl)
noncomputable def ref13_Put_sig : Sig := { pm := [(true, [(false, .int .i64), (false, .int .i64), (false, .slice (.pair (.int .i64) (.slice (.int .u8))))]), (false, [(false, .int .i64)]), (false, [(false, .int .i64)]), (false, [(false, .slice (.pair (.int .i64) (.slice (.int .u8))))])], rm := [(true, [(false, .int .i64), (false, .int .i64), (false, .slice (.pair (.int .i64) (.slice (.int .u8))))]), (false, [(false, .int .i64)]), (false, [(false, .bool)])], f := fun | [⟨.int .i64, x0⟩, ⟨.int .i64, x1⟩, ⟨.slice (.pair (.int .i64) (.slice (.int .u8))), x2⟩, ⟨.int .i64, x3⟩, ⟨.int .i64, x4⟩, ⟨.slice (.pair (.int .i64) (.slice (.int .u8))), x5⟩] => .yes _ (ref13_Put x0 x1 x2 x3 x4 x5) ref13_Put_mk | _ => .no }
theorem ref13_Put_ok : SigOk Try.prog 19 ref13_Put_sig := by
  refine contract_of (C := ref13_Put_C) (d := 3) S25_ok (callable_ex (by kernel_rfl)) ?_
  intro dvs
  unfold ref13_Put_sig
  dsimp only
  split
  · refine .inr ⟨_, ref13_Put_un, ref13_Put_mk, congrArg (fun o => Cl.yes _ o _) (ref13_Put_raw _ _ _ _ _ _), ?_⟩
    intro ds x h
    unfold ref13_Put_un at h
    split at h
    · cases h; rfl
    · cases h
  · exact .inl rfl
noncomputable def S26 : List (Nat × Sig) := (19, ref13_Put_sig) :: S25
theorem S26_ok : ListOk Try.prog S26 := ListOk.cons S25_ok ref13_Put_ok
noncomputable def bytes_Equal_C : Cfg := { P := Try.prog, sig := lookSig S26, hb := fun _ _ => none, hr := fun _ _ => none }
noncomputable def bytes_Equal_un : List DV → Option (Bool) := fun | [⟨.bool, r0⟩] => some r0 | _ => none
noncomputable def bytes_Equal_mk : Bool → List DV := fun r0 => [⟨.bool, r0⟩]
theorem bytes_Equal_ex : ∃ f : (List Int) → (List Int) → Option (Bool), f = fun (x0 : List Int) (x1 : List Int) => funRun bytes_Equal_C 3 38 [(false, [(false, .slice (.int .u8))]), (false, [(false, .slice (.int .u8))])] [(false, [(false, .bool)])] bytes_Equal_un [⟨.slice (.int .u8), x0⟩, ⟨.slice (.int .u8), x1⟩] := ⟨_, rfl⟩
noncomputable def bytes_Equal : (List Int) → (List Int) → Option (Bool) := bytes_Equal_ex.choose
theorem bytes_Equal_raw (x0 : List Int) (x1 : List Int) : bytes_Equal x0 x1 = funRun bytes_Equal_C 3 38 [(false, [(false, .slice (.int .u8))]), (false, [(false, .slice (.int .u8))])] [(false, [(false, .bool)])] bytes_Equal_un [⟨.slice (.int .u8), x0⟩, ⟨.slice (.int .u8), x1⟩] := congrFun (congrFun (bytes_Equal_ex.choose_spec) x0) x1
theorem bytes_Equal_eq (x0 : List Int) (x1 : List Int) : bytes_Equal x0 x1 =
  some ((strOf x0).toList == (strOf x1).toList) := (bytes_Equal_raw x0 x1).trans (by kernel_rfl)
noncomputable def bytes_Equal_sig : Sig := { pm := [(false, [(false, .slice (.int .u8))]), (false, [(false, .slice (.int .u8))])], rm := [(false, [(false, .bool)])], f := fun | [⟨.slice (.int .u8), x0⟩, ⟨.slice (.int .u8), x1⟩] => .yes _ (bytes_Equal x0 x1) bytes_Equal_mk | _ => .no }
theorem bytes_Equal_ok : SigOk Try.prog 38 bytes_Equal_sig := by
  refine contract_of (C := bytes_Equal_C) (d := 3) S26_ok (callable_ex (by kernel_rfl)) ?_
  intro dvs
  unfold bytes_Equal_sig
  dsimp only
  split
  · refine .inr ⟨_, bytes_Equal_un, bytes_Equal_mk, congrArg (fun o => Cl.yes _ o _) (bytes_Equal_raw _ _), ?_⟩
    intro ds x h
    unfold bytes_Equal_un at h
    split at h
    · cases h; rfl
    · cases h
  · exact .inl rfl
noncomputable def S27 : List (Nat × Sig) := (38, bytes_Equal_sig) :: S26
theorem S27_ok : ListOk Try.prog S27 := ListOk.cons S26_ok bytes_Equal_ok
noncomputable def logs_EqualFunc_C : Cfg := { P := Try.prog, sig := lookSig S27, hb := fun f b => bif Nat.beq f 36 && Nat.beq b 0 then some { tmps := [1, 2, 15, 16, 17], obs := [], nils := [], kl := [172, 164] } else none, hr := fun _ _ => none }
noncomputable def logs_EqualFunc_un : List DV → Option (Bool) := fun | [⟨.bool, r0⟩] => some r0 | _ => none
noncomputable def logs_EqualFunc_mk : Bool → List DV := fun r0 => [⟨.bool, r0⟩]
theorem logs_EqualFunc_ex : ∃ f : (List (Int × (List Int))) → (List (Int × (List Int))) → Option (Bool), f = fun (x0 : List (Int × (List Int))) (x1 : List (Int × (List Int))) => funRun logs_EqualFunc_C 3 36 [(false, [(false, .slice (.pair (.int .i64) (.slice (.int .u8))))]), (false, [(false, .slice (.pair (.int .i64) (.slice (.int .u8))))]), (false, [(false, .fn 37 (.unit))])] [(false, [(false, .bool)])] logs_EqualFunc_un [⟨.slice (.pair (.int .i64) (.slice (.int .u8))), x0⟩, ⟨.slice (.pair (.int .i64) (.slice (.int .u8))), x1⟩, ⟨.fn 37 (.unit), ()⟩] := ⟨_, rfl⟩
noncomputable def logs_EqualFunc : (List (Int × (List Int))) → (List (Int × (List Int))) → Option (Bool) := logs_EqualFunc_ex.choose
theorem logs_EqualFunc_raw (x0 : List (Int × (List Int))) (x1 : List (Int × (List Int))) : logs_EqualFunc x0 x1 = funRun logs_EqualFunc_C 3 36 [(false, [(false, .slice (.pair (.int .i64) (.slice (.int .u8))))]), (false, [(false, .slice (.pair (.int .i64) (.slice (.int .u8))))]), (false, [(false, .fn 37 (.unit))])] [(false, [(false, .bool)])] logs_EqualFunc_un [⟨.slice (.pair (.int .i64) (.slice (.int .u8))), x0⟩, ⟨.slice (.pair (.int .i64) (.slice (.int .u8))), x1⟩, ⟨.fn 37 (.unit), ()⟩] := congrFun (congrFun (logs_EqualFunc_ex.choose_spec) x0) x1
noncomputable def logs_EqualFunc_l0 (y0 : List ((Int) × (List (Int)))) (y1 : List ((Int) × (List (Int)))) (y2 : Int) (y3 : Int) : Option (Bool) := loopAt logs_EqualFunc_C 3 36 [(false, [(false, .bool)])] logs_EqualFunc_un [true, true, false, true, false] (St.ofLists [(1, .fz ((Ty.int IntKind.i64).pair (Ty.int IntKind.u8).slice) y0 false false), (2, .func 37 []), (15, .fz ((Ty.int IntKind.i64).pair (Ty.int IntKind.u8).slice) y1 false false), (16, .int .i64 y2), (17, .int .i64 y3)] [] [172, 164])
theorem logs_EqualFunc_eq (x0 : List (Int × (List Int))) (x1 : List (Int × (List Int))) : logs_EqualFunc x0 x1 =
  bif ilen x0 != ilen x1
  then some false
  else logs_EqualFunc_l0 (x1) (x0) (ilen x0) (0) := (logs_EqualFunc_raw x0 x1).trans (by kernel_rfl)
theorem logs_EqualFunc_l0_eq (y0 : List ((Int) × (List (Int)))) (y1 : List ((Int) × (List (Int)))) (y2 : Int) (y3 : Int) : logs_EqualFunc_l0 y0 y1 y2 y3 =
  bif decide (y3 < y2)
  then bif decide (0 ≤ y3)
    then (y1[y3.toNat]?).bind fun val4 =>
      bif decide (0 ≤ y3)
        then (y0[y3.toNat]?).bind fun val8 =>
          bif val4.fst == val8.fst
            then (bytes_Equal val4.snd val8.snd).bind fun val12 =>
              bif !val12
                then some false
                else logs_EqualFunc_l0 (y0) (y1) (y2) (IntKind.i64.wrap (y3 + 1))
            else some false
        else none
    else none
  else some true := (loopAt_step _ _ _ _ _ _ _).trans (by kernel_rfl)
noncomputable def logs_EqualFunc_sig : Sig := { pm := [(false, [(false, .slice (.pair (.int .i64) (.slice (.int .u8))))]), (false, [(false, .slice (.pair (.int .i64) (.slice (.int .u8))))]), (false, [(false, .fn 37 (.unit))])], rm := [(false, [(false, .bool)])], f := fun | [⟨.slice (.pair (.int .i64) (.slice (.int .u8))), x0⟩, ⟨.slice (.pair (.int .i64) (.slice (.int .u8))), x1⟩, ⟨.fn 37 (.unit), ()⟩] => .yes _ (logs_EqualFunc x0 x1) logs_EqualFunc_mk | _ => .no }
theorem logs_EqualFunc_ok : SigOk Try.prog 36 logs_EqualFunc_sig := by
  refine contract_of (C := logs_EqualFunc_C) (d := 3) S27_ok (callable_ex (by kernel_rfl)) ?_
  intro dvs
  unfold logs_EqualFunc_sig
  dsimp only
  split
  · refine .inr ⟨_, logs_EqualFunc_un, logs_EqualFunc_mk, congrArg (fun o => Cl.yes _ o _) (logs_EqualFunc_raw _ _), ?_⟩
    intro ds x h
    unfold logs_EqualFunc_un at h
    split at h
    · cases h; rfl
    · cases h
  · exact .inl rfl
noncomputable def S28 : List (Nat × Sig) := (36, logs_EqualFunc_sig) :: S27
theorem S28_ok : ListOk Try.prog S28 := ListOk.cons S27_ok logs_EqualFunc_ok
noncomputable def logs_Same_C : Cfg := { P := Try.prog, sig := lookSig S28, hb := fun _ _ => none, hr := fun _ _ => none }
noncomputable def logs_Same_un : List DV → Option (Bool) := fun | [⟨.bool, r0⟩] => some r0 | _ => none
noncomputable def logs_Same_mk : Bool → List DV := fun r0 => [⟨.bool, r0⟩]
theorem logs_Same_ex : ∃ f : (Int) → (Int) → (List (Int × (List Int))) → (Int) → (Int) → (List (Int × (List Int))) → Option (Bool), f = fun (x0 : Int) (x1 : Int) (x2 : List (Int × (List Int))) (x3 : Int) (x4 : Int) (x5 : List (Int × (List Int))) => funRun logs_Same_C 3 13 [(true, [(false, .int .i64), (false, .int .i64), (false, .slice (.pair (.int .i64) (.slice (.int .u8))))]), (true, [(false, .int .i64), (false, .int .i64), (false, .slice (.pair (.int .i64) (.slice (.int .u8))))])] [(false, [(false, .bool)])] logs_Same_un [⟨.int .i64, x0⟩, ⟨.int .i64, x1⟩, ⟨.slice (.pair (.int .i64) (.slice (.int .u8))), x2⟩, ⟨.int .i64, x3⟩, ⟨.int .i64, x4⟩, ⟨.slice (.pair (.int .i64) (.slice (.int .u8))), x5⟩] := ⟨_, rfl⟩
noncomputable def logs_Same : (Int) → (Int) → (List (Int × (List Int))) → (Int) → (Int) → (List (Int × (List Int))) → Option (Bool) := logs_Same_ex.choose
theorem logs_Same_raw (x0 : Int) (x1 : Int) (x2 : List (Int × (List Int))) (x3 : Int) (x4 : Int) (x5 : List (Int × (List Int))) : logs_Same x0 x1 x2 x3 x4 x5 = funRun logs_Same_C 3 13 [(true, [(false, .int .i64), (false, .int .i64), (false, .slice (.pair (.int .i64) (.slice (.int .u8))))]), (true, [(false, .int .i64), (false, .int .i64), (false, .slice (.pair (.int .i64) (.slice (.int .u8))))])] [(false, [(false, .bool)])] logs_Same_un [⟨.int .i64, x0⟩, ⟨.int .i64, x1⟩, ⟨.slice (.pair (.int .i64) (.slice (.int .u8))), x2⟩, ⟨.int .i64, x3⟩, ⟨.int .i64, x4⟩, ⟨.slice (.pair (.int .i64) (.slice (.int .u8))), x5⟩] := congrFun (congrFun (congrFun (congrFun (congrFun (congrFun (logs_Same_ex.choose_spec) x0) x1) x2) x3) x4) x5
theorem logs_Same_eq (x0 : Int) (x1 : Int) (x2 : List (Int × (List Int))) (x3 : Int) (x4 : Int) (x5 : List (Int × (List Int))) : logs_Same x0 x1 x2 x3 x4 x5 =
  bif x0 == x3 && (x1 == x4 && true)
  then (logs_EqualFunc x2 x5).bind fun val2 =>
    some (val2)
  else some false := (logs_Same_raw x0 x1 x2 x3 x4 x5).trans (by kernel_rfl)
noncomputable def logs_Same_sig : Sig := { pm := [(true, [(false, .int .i64), (false, .int .i64), (false, .slice (.pair (.int .i64) (.slice (.int .u8))))]), (true, [(false, .int .i64), (false, .int .i64), (false, .slice (.pair (.int .i64) (.slice (.int .u8))))])], rm := [(false, [(false, .bool)])], f := fun | [⟨.int .i64, x0⟩, ⟨.int .i64, x1⟩, ⟨.slice (.pair (.int .i64) (.slice (.int .u8))), x2⟩, ⟨.int .i64, x3⟩, ⟨.int .i64, x4⟩, ⟨.slice (.pair (.int .i64) (.slice (.int .u8))), x5⟩] => .yes _ (logs_Same x0 x1 x2 x3 x4 x5) logs_Same_mk | _ => .no }
theorem logs_Same_ok : SigOk Try.prog 13 logs_Same_sig := by
  refine contract_of (C := logs_Same_C) (d := 3) S28_ok (callable_ex (by kernel_rfl)) ?_
  intro dvs
  unfold logs_Same_sig
  dsimp only
  split
  · refine .inr ⟨_, logs_Same_un, logs_Same_mk, congrArg (fun o => Cl.yes _ o _) (logs_Same_raw _ _ _ _ _ _), ?_⟩
    intro ds x h
    unfold logs_Same_un at h
    split at h
    · cases h; rfl
    · cases h
  · exact .inl rfl
noncomputable def S29 : List (Nat × Sig) := (13, logs_Same_sig) :: S28
theorem S29_ok : ListOk Try.prog S29 := ListOk.cons S28_ok logs_Same_ok
noncomputable def law13_may_C : Cfg := { P := Try.prog, sig := lookSig S29, hb := fun _ _ => none, hr := fun _ _ => none }
noncomputable def law13_may_un : List DV → Option (Bool) := fun | [⟨.bool, r0⟩] => some r0 | _ => none
noncomputable def law13_may_mk : Bool → List DV := fun r0 => [⟨.bool, r0⟩]
theorem law13_may_ex : ∃ f : (Int) → (Int) → (List (Int × (List Int))) → Option (Bool), f = fun (x0 : Int) (x1 : Int) (x2 : List (Int × (List Int))) => funRun law13_may_C 3 16 [(true, [(false, .int .i64), (false, .int .i64), (false, .slice (.pair (.int .i64) (.slice (.int .u8))))])] [(false, [(false, .bool)])] law13_may_un [⟨.int .i64, x0⟩, ⟨.int .i64, x1⟩, ⟨.slice (.pair (.int .i64) (.slice (.int .u8))), x2⟩] := ⟨_, rfl⟩
noncomputable def law13_may : (Int) → (Int) → (List (Int × (List Int))) → Option (Bool) := law13_may_ex.choose
theorem law13_may_raw (x0 : Int) (x1 : Int) (x2 : List (Int × (List Int))) : law13_may x0 x1 x2 = funRun law13_may_C 3 16 [(true, [(false, .int .i64), (false, .int .i64), (false, .slice (.pair (.int .i64) (.slice (.int .u8))))])] [(false, [(false, .bool)])] law13_may_un [⟨.int .i64, x0⟩, ⟨.int .i64, x1⟩, ⟨.slice (.pair (.int .i64) (.slice (.int .u8))), x2⟩] := congrFun (congrFun (congrFun (law13_may_ex.choose_spec) x0) x1) x2
theorem law13_may_eq (x0 : Int) (x1 : Int) (x2 : List (Int × (List Int))) : law13_may x0 x1 x2 =
  (ref13_Weight x2 300).bind fun val0 =>
  bif decide (val0 ≤ 300)
    then (ref13_Check x0 x1 x2).bind fun val4 =>
      some (val4 == 0)
    else some false := (law13_may_raw x0 x1 x2).trans (by kernel_rfl)
noncomputable def law13_may_sig : Sig := { pm := [(true, [(false, .int .i64), (false, .int .i64), (false, .slice (.pair (.int .i64) (.slice (.int .u8))))])], rm := [(false, [(false, .bool)])], f := fun | [⟨.int .i64, x0⟩, ⟨.int .i64, x1⟩, ⟨.slice (.pair (.int .i64) (.slice (.int .u8))), x2⟩] => .yes _ (law13_may x0 x1 x2) law13_may_mk | _ => .no }
theorem law13_may_ok : SigOk Try.prog 16 law13_may_sig := by
  refine contract_of (C := law13_may_C) (d := 3) S29_ok (callable_ex (by kernel_rfl)) ?_
  intro dvs
  unfold law13_may_sig
  dsimp only
  split
  · refine .inr ⟨_, law13_may_un, law13_may_mk, congrArg (fun o => Cl.yes _ o _) (law13_may_raw _ _ _), ?_⟩
    intro ds x h
    unfold law13_may_un at h
    split at h
    · cases h; rfl
    · cases h
  · exact .inl rfl
noncomputable def S30 : List (Nat × Sig) := (16, law13_may_sig) :: S29
theorem S30_ok : ListOk Try.prog S30 := ListOk.cons S29_ok law13_may_ok
noncomputable def law13_fits_C : Cfg := { P := Try.prog, sig := lookSig S30, hb := fun f b => bif Nat.beq f 17 && Nat.beq b 0 then some { tmps := [1, 2, 7, 8], obs := [], nils := [], kl := [] } else none, hr := fun _ _ => none }
noncomputable def law13_fits_un : List DV → Option (Bool) := fun | [⟨.bool, r0⟩] => some r0 | _ => none
noncomputable def law13_fits_mk : Bool → List DV := fun r0 => [⟨.bool, r0⟩]
theorem law13_fits_ex : ∃ f : (Int) → (Int) → (List (Int × (List Int))) → Option (Bool), f = fun (x0 : Int) (x1 : Int) (x2 : List (Int × (List Int))) => funRun law13_fits_C 3 17 [(false, [(false, .int .i64)]), (false, [(false, .int .i64)]), (false, [(false, .slice (.pair (.int .i64) (.slice (.int .u8))))])] [(false, [(false, .bool)])] law13_fits_un [⟨.int .i64, x0⟩, ⟨.int .i64, x1⟩, ⟨.slice (.pair (.int .i64) (.slice (.int .u8))), x2⟩] := ⟨_, rfl⟩
noncomputable def law13_fits : (Int) → (Int) → (List (Int × (List Int))) → Option (Bool) := law13_fits_ex.choose
theorem law13_fits_raw (x0 : Int) (x1 : Int) (x2 : List (Int × (List Int))) : law13_fits x0 x1 x2 = funRun law13_fits_C 3 17 [(false, [(false, .int .i64)]), (false, [(false, .int .i64)]), (false, [(false, .slice (.pair (.int .i64) (.slice (.int .u8))))])] [(false, [(false, .bool)])] law13_fits_un [⟨.int .i64, x0⟩, ⟨.int .i64, x1⟩, ⟨.slice (.pair (.int .i64) (.slice (.int .u8))), x2⟩] := congrFun (congrFun (congrFun (law13_fits_ex.choose_spec) x0) x1) x2
noncomputable def law13_fits_l0 (y0 : Int) (y1 : List ((Int) × (List (Int)))) (y2 : Int) (y3 : Int) : Option (Bool) := loopAt law13_fits_C 3 17 [(false, [(false, .bool)])] law13_fits_un [true, true, true, false, true, false] (St.ofLists [(1, .int .i64 y0), (2, .fz ((Ty.int IntKind.i64).pair (Ty.int IntKind.u8).slice) y1 false false), (7, .int .i64 y2), (8, .int .i64 y3)] [] [])
theorem law13_fits_eq (x0 : Int) (x1 : Int) (x2 : List (Int × (List Int))) : law13_fits x0 x1 x2 =
  bif decide (x0 < 0)
  then some false
  else bif decide (x0 > 1000000)
    then some false
    else bif decide (ilen x2 > 300)
      then some false
      else (ref13_Weight x2 300).bind fun val6 =>
        bif decide (val6 > 300)
          then some false
          else law13_fits_l0 (x1) (x2) (x1) (0) := (law13_fits_raw x0 x1 x2).trans (by kernel_rfl)
theorem law13_fits_l0_eq (y0 : Int) (y1 : List ((Int) × (List (Int)))) (y2 : Int) (y3 : Int) : law13_fits_l0 y0 y1 y2 y3 =
  bif decide (y3 < ilen y1)
  then bif decide (0 ≤ y3)
    then (y1[y3.toNat]?).bind fun val4 =>
      bif decide (val4.fst < y2)
        then some false
        else bif decide (0 ≤ y3)
          then (y1[y3.toNat]?).bind fun val10 =>
            bif decide (val10.fst < 1)
              then some false
              else bif decide (0 ≤ y3)
                then (y1[y3.toNat]?).bind fun val16 =>
                  bif decide (val16.fst > 1000000)
                    then some false
                    else bif decide (0 ≤ y3)
                      then (y1[y3.toNat]?).bind fun val22 =>
                        law13_fits_l0 (y0) (y1) (val22.fst) (IntKind.i64.wrap (y3 + 1))
                      else none
                else none
          else none
    else none
  else some (decide (y0 ≥ 0)) := (loopAt_step _ _ _ _ _ _ _).trans (by kernel_rfl)
noncomputable def law13_fits_sig : Sig := { pm := [(false, [(false, .int .i64)]), (false, [(false, .int .i64)]), (false, [(false, .slice (.pair (.int .i64) (.slice (.int .u8))))])], rm := [(false, [(false, .bool)])], f := fun | [⟨.int .i64, x0⟩, ⟨.int .i64, x1⟩, ⟨.slice (.pair (.int .i64) (.slice (.int .u8))), x2⟩] => .yes _ (law13_fits x0 x1 x2) law13_fits_mk | _ => .no }
theorem law13_fits_ok : SigOk Try.prog 17 law13_fits_sig := by
  refine contract_of (C := law13_fits_C) (d := 3) S30_ok (callable_ex (by kernel_rfl)) ?_
  intro dvs
  unfold law13_fits_sig
  dsimp only
  split
  · refine .inr ⟨_, law13_fits_un, law13_fits_mk, congrArg (fun o => Cl.yes _ o _) (law13_fits_raw _ _ _), ?_⟩
    intro ds x h
    unfold law13_fits_un at h
    split at h
    · cases h; rfl
    · cases h
  · exact .inl rfl
noncomputable def S31 : List (Nat × Sig) := (17, law13_fits_sig) :: S30
theorem S31_ok : ListOk Try.prog S31 := ListOk.cons S30_ok law13_fits_ok
noncomputable def law13_works_C : Cfg := { P := Try.prog, sig := lookSig S31, hb := fun _ _ => none, hr := fun _ _ => none }
noncomputable def law13_works_un : List DV → Option (Bool) := fun | [⟨.bool, r0⟩] => some r0 | _ => none
noncomputable def law13_works_mk : Bool → List DV := fun r0 => [⟨.bool, r0⟩]
theorem law13_works_ex : ∃ f : Option (Bool), f = funRun law13_works_C 3 10 [] [(false, [(false, .bool)])] law13_works_un [] := ⟨_, rfl⟩
noncomputable def law13_works : Option (Bool) := law13_works_ex.choose
theorem law13_works_raw  : law13_works = funRun law13_works_C 3 10 [] [(false, [(false, .bool)])] law13_works_un [] := law13_works_ex.choose_spec
theorem law13_works_eq  : law13_works =
  (logs_Put 2 1 [(1, []), (2, [])] 3 1 [(3, []), (3, [])]).bind fun val0 =>
  (logs_Put 2 1 [(1, []), (2, [])] 4 3 []).bind fun val2 =>
    (logs_Term 2 1 [(1, []), (2, [])] 4).bind fun val4 =>
      (logs_Compact 2 1 [(1, []), (2, [])] 3).bind fun val6 =>
        bif val0.2.2.2.2
          then bif val0.2.2.2.1 == 5
            then bif ilen val0.2.2.1 == 3
              then bif !val2.2.2.2.2
                then bif val2.2.2.2.1 == 3
                  then bif val4.1 == 2
                    then bif val4.2
                      then bif val6.2.2.2 == 0
                        then bif val6.1 == 3
                          then (logs_Last 2 1 [(1, []), (2, [])]).bind fun val26 =>
                            bif val26 == 4
                              then (logs_LastTerm 2 1 [(1, []), (2, [])]).bind fun val30 =>
                                bif val30 == 2
                                  then (logs_Newer 2 1 [(1, []), (2, [])] 2 4).bind fun val34 =>
                                    bif val34
                                      then (logs_Newer 2 1 [(1, []), (2, [])] 2 3).bind fun val38 =>
                                        bif !val38
                                          then (logs_Check 2 1 [(1, []), (2, [])]).bind fun val42 =>
                                            bif val42 == 0
                                              then (logs_Copy 2 1 [(1, []), (2, [])]).bind fun val46 =>
                                                (logs_Same 2 1 [(1, []), (2, [])] val46.1 val46.2.1 val46.2.2).bind fun val48 =>
                                                  some (val48)
                                              else some false
                                          else some false
                                      else some false
                                  else some false
                              else some false
                          else some false
                        else some false
                      else some false
                    else some false
                  else some false
                else some false
              else some false
            else some false
          else some false := (law13_works_raw).trans (by kernel_rfl)
noncomputable def law13_works_sig : Sig := { pm := [], rm := [(false, [(false, .bool)])], f := fun | [] => .yes _ (law13_works) law13_works_mk | _ => .no }
theorem law13_works_ok : SigOk Try.prog 10 law13_works_sig := by
  refine contract_of (C := law13_works_C) (d := 3) S31_ok (callable_ex (by kernel_rfl)) ?_
  intro dvs
  unfold law13_works_sig
  dsimp only
  split
  · refine .inr ⟨_, law13_works_un, law13_works_mk, congrArg (fun o => Cl.yes _ o _) (law13_works_raw), ?_⟩
    intro ds x h
    unfold law13_works_un at h
    split at h
    · cases h; rfl
    · cases h
  · exact .inl rfl
noncomputable def S32 : List (Nat × Sig) := (10, law13_works_sig) :: S31
theorem S32_ok : ListOk Try.prog S32 := ListOk.cons S31_ok law13_works_ok
noncomputable def law13_LogsChecks_C : Cfg := { P := Try.prog, sig := lookSig S32, hb := fun _ _ => none, hr := fun _ _ => none }
noncomputable def law13_LogsChecks_un : List DV → Option (Bool) := fun | [⟨.bool, r0⟩] => some r0 | _ => none
noncomputable def law13_LogsChecks_mk : Bool → List DV := fun r0 => [⟨.bool, r0⟩]
theorem law13_LogsChecks_ex : ∃ f : (Int) → (Int) → (List (Int × (List Int))) → (Int) → (Int) → (List (Int × (List Int))) → Option (Bool), f = fun (x0 : Int) (x1 : Int) (x2 : List (Int × (List Int))) (x3 : Int) (x4 : Int) (x5 : List (Int × (List Int))) => funRun law13_LogsChecks_C 3 3 [(true, [(false, .int .i64), (false, .int .i64), (false, .slice (.pair (.int .i64) (.slice (.int .u8))))]), (true, [(false, .int .i64), (false, .int .i64), (false, .slice (.pair (.int .i64) (.slice (.int .u8))))])] [(false, [(false, .bool)])] law13_LogsChecks_un [⟨.int .i64, x0⟩, ⟨.int .i64, x1⟩, ⟨.slice (.pair (.int .i64) (.slice (.int .u8))), x2⟩, ⟨.int .i64, x3⟩, ⟨.int .i64, x4⟩, ⟨.slice (.pair (.int .i64) (.slice (.int .u8))), x5⟩] := ⟨_, rfl⟩
noncomputable def law13_LogsChecks : (Int) → (Int) → (List (Int × (List Int))) → (Int) → (Int) → (List (Int × (List Int))) → Option (Bool) := law13_LogsChecks_ex.choose
theorem law13_LogsChecks_raw (x0 : Int) (x1 : Int) (x2 : List (Int × (List Int))) (x3 : Int) (x4 : Int) (x5 : List (Int × (List Int))) : law13_LogsChecks x0 x1 x2 x3 x4 x5 = funRun law13_LogsChecks_C 3 3 [(true, [(false, .int .i64), (false, .int .i64), (false, .slice (.pair (.int .i64) (.slice (.int .u8))))]), (true, [(false, .int .i64), (false, .int .i64), (false, .slice (.pair (.int .i64) (.slice (.int .u8))))])] [(false, [(false, .bool)])] law13_LogsChecks_un [⟨.int .i64, x0⟩, ⟨.int .i64, x1⟩, ⟨.slice (.pair (.int .i64) (.slice (.int .u8))), x2⟩, ⟨.int .i64, x3⟩, ⟨.int .i64, x4⟩, ⟨.slice (.pair (.int .i64) (.slice (.int .u8))), x5⟩] := congrFun (congrFun (congrFun (congrFun (congrFun (congrFun (law13_LogsChecks_ex.choose_spec) x0) x1) x2) x3) x4) x5
theorem law13_LogsChecks_eq (x0 : Int) (x1 : Int) (x2 : List (Int × (List Int))) (x3 : Int) (x4 : Int) (x5 : List (Int × (List Int))) : law13_LogsChecks x0 x1 x2 x3 x4 x5 =
  (ref13_Weight x2 300).bind fun val0 =>
  bif decide (val0 > 300)
    then (law13_works).bind fun val4 =>
      some (val4)
    else (ref13_Weight x5 300).bind fun val4 =>
      bif decide (val4 > 300)
        then (law13_works).bind fun val8 =>
          some (val8)
        else (logs_Check x0 x1 x2).bind fun val8 =>
          (ref13_Check x0 x1 x2).bind fun val10 =>
            bif val8 == val10
              then (logs_Same x0 x1 x2 x3 x4 x5).bind fun val14 =>
                (ref13_Same x0 x1 x2 x3 x4 x5).bind fun val16 =>
                  bif val14 == val16
                    then (logs_Copy x0 x1 x2).bind fun val20 =>
                      (ref13_Same val20.1 val20.2.1 val20.2.2 x0 x1 x2).bind fun val22 =>
                        bif val22
                          then (law13_works).bind fun val26 =>
                            some (val26)
                          else some false
                    else some false
              else some false := (law13_LogsChecks_raw x0 x1 x2 x3 x4 x5).trans (by kernel_rfl)
noncomputable def law13_LogsChecks_sig : Sig := { pm := [(true, [(false, .int .i64), (false, .int .i64), (false, .slice (.pair (.int .i64) (.slice (.int .u8))))]), (true, [(false, .int .i64), (false, .int .i64), (false, .slice (.pair (.int .i64) (.slice (.int .u8))))])], rm := [(false, [(false, .bool)])], f := fun | [⟨.int .i64, x0⟩, ⟨.int .i64, x1⟩, ⟨.slice (.pair (.int .i64) (.slice (.int .u8))), x2⟩, ⟨.int .i64, x3⟩, ⟨.int .i64, x4⟩, ⟨.slice (.pair (.int .i64) (.slice (.int .u8))), x5⟩] => .yes _ (law13_LogsChecks x0 x1 x2 x3 x4 x5) law13_LogsChecks_mk | _ => .no }
theorem law13_LogsChecks_ok : SigOk Try.prog 3 law13_LogsChecks_sig := by
  refine contract_of (C := law13_LogsChecks_C) (d := 3) S32_ok (callable_ex (by kernel_rfl)) ?_
  intro dvs
  unfold law13_LogsChecks_sig
  dsimp only
  split
  · refine .inr ⟨_, law13_LogsChecks_un, law13_LogsChecks_mk, congrArg (fun o => Cl.yes _ o _) (law13_LogsChecks_raw _ _ _ _ _ _), ?_⟩
    intro ds x h
    unfold law13_LogsChecks_un at h
    split at h
    · cases h; rfl
    · cases h
  · exact .inl rfl
noncomputable def S33 : List (Nat × Sig) := (3, law13_LogsChecks_sig) :: S32
theorem S33_ok : ListOk Try.prog S33 := ListOk.cons S32_ok law13_LogsChecks_ok
noncomputable def law13_LogsPuts_C : Cfg := { P := Try.prog, sig := lookSig S33, hb := fun _ _ => none, hr := fun _ _ => none }
noncomputable def law13_LogsPuts_un : List DV → Option (Bool) := fun | [⟨.bool, r0⟩] => some r0 | _ => none
noncomputable def law13_LogsPuts_mk : Bool → List DV := fun r0 => [⟨.bool, r0⟩]
theorem law13_LogsPuts_ex : ∃ f : (Int) → (Int) → (List (Int × (List Int))) → (Int) → (Int) → (List (Int × (List Int))) → Option (Bool), f = fun (x0 : Int) (x1 : Int) (x2 : List (Int × (List Int))) (x3 : Int) (x4 : Int) (x5 : List (Int × (List Int))) => funRun law13_LogsPuts_C 3 4 [(true, [(false, .int .i64), (false, .int .i64), (false, .slice (.pair (.int .i64) (.slice (.int .u8))))]), (false, [(false, .int .i64)]), (false, [(false, .int .i64)]), (false, [(false, .slice (.pair (.int .i64) (.slice (.int .u8))))])] [(false, [(false, .bool)])] law13_LogsPuts_un [⟨.int .i64, x0⟩, ⟨.int .i64, x1⟩, ⟨.slice (.pair (.int .i64) (.slice (.int .u8))), x2⟩, ⟨.int .i64, x3⟩, ⟨.int .i64, x4⟩, ⟨.slice (.pair (.int .i64) (.slice (.int .u8))), x5⟩] := ⟨_, rfl⟩
noncomputable def law13_LogsPuts : (Int) → (Int) → (List (Int × (List Int))) → (Int) → (Int) → (List (Int × (List Int))) → Option (Bool) := law13_LogsPuts_ex.choose
theorem law13_LogsPuts_raw (x0 : Int) (x1 : Int) (x2 : List (Int × (List Int))) (x3 : Int) (x4 : Int) (x5 : List (Int × (List Int))) : law13_LogsPuts x0 x1 x2 x3 x4 x5 = funRun law13_LogsPuts_C 3 4 [(true, [(false, .int .i64), (false, .int .i64), (false, .slice (.pair (.int .i64) (.slice (.int .u8))))]), (false, [(false, .int .i64)]), (false, [(false, .int .i64)]), (false, [(false, .slice (.pair (.int .i64) (.slice (.int .u8))))])] [(false, [(false, .bool)])] law13_LogsPuts_un [⟨.int .i64, x0⟩, ⟨.int .i64, x1⟩, ⟨.slice (.pair (.int .i64) (.slice (.int .u8))), x2⟩, ⟨.int .i64, x3⟩, ⟨.int .i64, x4⟩, ⟨.slice (.pair (.int .i64) (.slice (.int .u8))), x5⟩] := congrFun (congrFun (congrFun (congrFun (congrFun (congrFun (law13_LogsPuts_ex.choose_spec) x0) x1) x2) x3) x4) x5
theorem law13_LogsPuts_eq (x0 : Int) (x1 : Int) (x2 : List (Int × (List Int))) (x3 : Int) (x4 : Int) (x5 : List (Int × (List Int))) : law13_LogsPuts x0 x1 x2 x3 x4 x5 =
  (law13_may x0 x1 x2).bind fun val0 =>
  bif !val0
    then (law13_works).bind fun val4 =>
      some (val4)
    else (law13_fits x3 x4 x5).bind fun val4 =>
      bif !val4
        then (law13_works).bind fun val8 =>
          some (val8)
        else (logs_Put x0 x1 x2 x3 x4 x5).bind fun val8 =>
          (ref13_Put x0 x1 x2 x3 x4 x5).bind fun val10 =>
            bif val8.2.2.2.1 == val10.2.2.2.1
              then bif val8.2.2.2.2 == val10.2.2.2.2
                then (ref13_Same val8.1 val8.2.1 val8.2.2.1 val10.1 val10.2.1 val10.2.2.1).bind fun val16 =>
                  bif val16
                    then (law13_works).bind fun val20 =>
                      some (val20)
                    else some false
                else some false
              else some false := (law13_LogsPuts_raw x0 x1 x2 x3 x4 x5).trans (by kernel_rfl)
noncomputable def law13_LogsPuts_sig : Sig := { pm := [(true, [(false, .int .i64), (false, .int .i64), (false, .slice (.pair (.int .i64) (.slice (.int .u8))))]), (false, [(false, .int .i64)]), (false, [(false, .int .i64)]), (false, [(false, .slice (.pair (.int .i64) (.slice (.int .u8))))])], rm := [(false, [(false, .bool)])], f := fun | [⟨.int .i64, x0⟩, ⟨.int .i64, x1⟩, ⟨.slice (.pair (.int .i64) (.slice (.int .u8))), x2⟩, ⟨.int .i64, x3⟩, ⟨.int .i64, x4⟩, ⟨.slice (.pair (.int .i64) (.slice (.int .u8))), x5⟩] => .yes _ (law13_LogsPuts x0 x1 x2 x3 x4 x5) law13_LogsPuts_mk | _ => .no }
theorem law13_LogsPuts_ok : SigOk Try.prog 4 law13_LogsPuts_sig := by
  refine contract_of (C := law13_LogsPuts_C) (d := 3) S33_ok (callable_ex (by kernel_rfl)) ?_
  intro dvs
  unfold law13_LogsPuts_sig
  dsimp only
  split
  · refine .inr ⟨_, law13_LogsPuts_un, law13_LogsPuts_mk, congrArg (fun o => Cl.yes _ o _) (law13_LogsPuts_raw _ _ _ _ _ _), ?_⟩
    intro ds x h
    unfold law13_LogsPuts_un at h
    split at h
    · cases h; rfl
    · cases h
  · exact .inl rfl
noncomputable def S34 : List (Nat × Sig) := (4, law13_LogsPuts_sig) :: S33
theorem S34_ok : ListOk Try.prog S34 := ListOk.cons S33_ok law13_LogsPuts_ok
noncomputable def law13_LogsShort_C : Cfg := { P := Try.prog, sig := lookSig S34, hb := fun _ _ => none, hr := fun _ _ => none }
noncomputable def law13_LogsShort_un : List DV → Option (Bool) := fun | [⟨.bool, r0⟩] => some r0 | _ => none
noncomputable def law13_LogsShort_mk : Bool → List DV := fun r0 => [⟨.bool, r0⟩]
theorem law13_LogsShort_ex : ∃ f : (Int) → (Int) → (List (Int × (List Int))) → (Int) → (Int) → (Int) → (List (Int × (List Int))) → Option (Bool), f = fun (x0 : Int) (x1 : Int) (x2 : List (Int × (List Int))) (x3 : Int) (x4 : Int) (x5 : Int) (x6 : List (Int × (List Int))) => funRun law13_LogsShort_C 3 5 [(true, [(false, .int .i64), (false, .int .i64), (false, .slice (.pair (.int .i64) (.slice (.int .u8))))]), (false, [(false, .int .i64)]), (false, [(false, .int .i64)]), (false, [(false, .int .i64)]), (false, [(false, .slice (.pair (.int .i64) (.slice (.int .u8))))])] [(false, [(false, .bool)])] law13_LogsShort_un [⟨.int .i64, x0⟩, ⟨.int .i64, x1⟩, ⟨.slice (.pair (.int .i64) (.slice (.int .u8))), x2⟩, ⟨.int .i64, x3⟩, ⟨.int .i64, x4⟩, ⟨.int .i64, x5⟩, ⟨.slice (.pair (.int .i64) (.slice (.int .u8))), x6⟩] := ⟨_, rfl⟩
noncomputable def law13_LogsShort : (Int) → (Int) → (List (Int × (List Int))) → (Int) → (Int) → (Int) → (List (Int × (List Int))) → Option (Bool) := law13_LogsShort_ex.choose
theorem law13_LogsShort_raw (x0 : Int) (x1 : Int) (x2 : List (Int × (List Int))) (x3 : Int) (x4 : Int) (x5 : Int) (x6 : List (Int × (List Int))) : law13_LogsShort x0 x1 x2 x3 x4 x5 x6 = funRun law13_LogsShort_C 3 5 [(true, [(false, .int .i64), (false, .int .i64), (false, .slice (.pair (.int .i64) (.slice (.int .u8))))]), (false, [(false, .int .i64)]), (false, [(false, .int .i64)]), (false, [(false, .int .i64)]), (false, [(false, .slice (.pair (.int .i64) (.slice (.int .u8))))])] [(false, [(false, .bool)])] law13_LogsShort_un [⟨.int .i64, x0⟩, ⟨.int .i64, x1⟩, ⟨.slice (.pair (.int .i64) (.slice (.int .u8))), x2⟩, ⟨.int .i64, x3⟩, ⟨.int .i64, x4⟩, ⟨.int .i64, x5⟩, ⟨.slice (.pair (.int .i64) (.slice (.int .u8))), x6⟩] := congrFun (congrFun (congrFun (congrFun (congrFun (congrFun (congrFun (law13_LogsShort_ex.choose_spec) x0) x1) x2) x3) x4) x5) x6
theorem law13_LogsShort_eq (x0 : Int) (x1 : Int) (x2 : List (Int × (List Int))) (x3 : Int) (x4 : Int) (x5 : Int) (x6 : List (Int × (List Int))) : law13_LogsShort x0 x1 x2 x3 x4 x5 x6 =
  (law13_may x0 x1 x2).bind fun val0 =>
  bif !val0
    then (law13_works).bind fun val4 =>
      some (val4)
    else (law13_fits x4 x5 x6).bind fun val4 =>
      bif !val4
        then (law13_works).bind fun val8 =>
          some (val8)
        else bif decide (x4 < x3)
          then (law13_works).bind fun val10 =>
            some (val10)
          else (logs_Compact x0 x1 x2 x3).bind fun val10 =>
            bif val10.2.2.2 != 0
              then (law13_works).bind fun val14 =>
                some (val14)
              else (logs_Last val10.1 val10.2.1 val10.2.2.1).bind fun val14 =>
                (logs_Last x0 x1 x2).bind fun val16 =>
                  bif val14 != val16
                    then some false
                    else (logs_LastTerm val10.1 val10.2.1 val10.2.2.1).bind fun val20 =>
                      (logs_LastTerm x0 x1 x2).bind fun val22 =>
                        bif val20 != val22
                          then some false
                          else (logs_Put x0 x1 x2 x4 x5 x6).bind fun val26 =>
                            (logs_Put val10.1 val10.2.1 val10.2.2.1 x4 x5 x6).bind fun val28 =>
                              bif !val26.2.2.2.2 == val28.2.2.2.2
                                then some false
                                else bif !val26.2.2.2.2
                                  then (law13_works).bind fun val34 =>
                                    some (val34)
                                  else (logs_Compact val26.1 val26.2.1 val26.2.2.1 x3).bind fun val34 =>
                                    bif val26.2.2.2.1 == val28.2.2.2.1
                                      then bif val34.2.2.2 == 0
                                        then (ref13_Same val28.1 val28.2.1 val28.2.2.1 val34.1 val34.2.1 val34.2.2.1).bind fun val40 =>
                                          bif val40
                                            then (law13_works).bind fun val44 =>
                                              some (val44)
                                            else some false
                                        else some false
                                      else some false := (law13_LogsShort_raw x0 x1 x2 x3 x4 x5 x6).trans (by kernel_rfl)
noncomputable def law13_LogsShort_sig : Sig := { pm := [(true, [(false, .int .i64), (false, .int .i64), (false, .slice (.pair (.int .i64) (.slice (.int .u8))))]), (false, [(false, .int .i64)]), (false, [(false, .int .i64)]), (false, [(false, .int .i64)]), (false, [(false, .slice (.pair (.int .i64) (.slice (.int .u8))))])], rm := [(false, [(false, .bool)])], f := fun | [⟨.int .i64, x0⟩, ⟨.int .i64, x1⟩, ⟨.slice (.pair (.int .i64) (.slice (.int .u8))), x2⟩, ⟨.int .i64, x3⟩, ⟨.int .i64, x4⟩, ⟨.int .i64, x5⟩, ⟨.slice (.pair (.int .i64) (.slice (.int .u8))), x6⟩] => .yes _ (law13_LogsShort x0 x1 x2 x3 x4 x5 x6) law13_LogsShort_mk | _ => .no }
theorem law13_LogsShort_ok : SigOk Try.prog 5 law13_LogsShort_sig := by
  refine contract_of (C := law13_LogsShort_C) (d := 3) S34_ok (callable_ex (by kernel_rfl)) ?_
  intro dvs
  unfold law13_LogsShort_sig
  dsimp only
  split
  · refine .inr ⟨_, law13_LogsShort_un, law13_LogsShort_mk, congrArg (fun o => Cl.yes _ o _) (law13_LogsShort_raw _ _ _ _ _ _ _), ?_⟩
    intro ds x h
    unfold law13_LogsShort_un at h
    split at h
    · cases h; rfl
    · cases h
  · exact .inl rfl
noncomputable def S35 : List (Nat × Sig) := (5, law13_LogsShort_sig) :: S34
theorem S35_ok : ListOk Try.prog S35 := ListOk.cons S34_ok law13_LogsShort_ok
noncomputable def law13_LogsAsks_C : Cfg := { P := Try.prog, sig := lookSig S35, hb := fun _ _ => none, hr := fun _ _ => none }
noncomputable def law13_LogsAsks_un : List DV → Option (Bool) := fun | [⟨.bool, r0⟩] => some r0 | _ => none
noncomputable def law13_LogsAsks_mk : Bool → List DV := fun r0 => [⟨.bool, r0⟩]
theorem law13_LogsAsks_ex : ∃ f : (Int) → (Int) → (List (Int × (List Int))) → (Int) → (Int) → (Int) → Option (Bool), f = fun (x0 : Int) (x1 : Int) (x2 : List (Int × (List Int))) (x3 : Int) (x4 : Int) (x5 : Int) => funRun law13_LogsAsks_C 3 6 [(true, [(false, .int .i64), (false, .int .i64), (false, .slice (.pair (.int .i64) (.slice (.int .u8))))]), (false, [(false, .int .i64)]), (false, [(false, .int .i64)]), (false, [(false, .int .i64)])] [(false, [(false, .bool)])] law13_LogsAsks_un [⟨.int .i64, x0⟩, ⟨.int .i64, x1⟩, ⟨.slice (.pair (.int .i64) (.slice (.int .u8))), x2⟩, ⟨.int .i64, x3⟩, ⟨.int .i64, x4⟩, ⟨.int .i64, x5⟩] := ⟨_, rfl⟩
noncomputable def law13_LogsAsks : (Int) → (Int) → (List (Int × (List Int))) → (Int) → (Int) → (Int) → Option (Bool) := law13_LogsAsks_ex.choose
theorem law13_LogsAsks_raw (x0 : Int) (x1 : Int) (x2 : List (Int × (List Int))) (x3 : Int) (x4 : Int) (x5 : Int) : law13_LogsAsks x0 x1 x2 x3 x4 x5 = funRun law13_LogsAsks_C 3 6 [(true, [(false, .int .i64), (false, .int .i64), (false, .slice (.pair (.int .i64) (.slice (.int .u8))))]), (false, [(false, .int .i64)]), (false, [(false, .int .i64)]), (false, [(false, .int .i64)])] [(false, [(false, .bool)])] law13_LogsAsks_un [⟨.int .i64, x0⟩, ⟨.int .i64, x1⟩, ⟨.slice (.pair (.int .i64) (.slice (.int .u8))), x2⟩, ⟨.int .i64, x3⟩, ⟨.int .i64, x4⟩, ⟨.int .i64, x5⟩] := congrFun (congrFun (congrFun (congrFun (congrFun (congrFun (law13_LogsAsks_ex.choose_spec) x0) x1) x2) x3) x4) x5
theorem law13_LogsAsks_eq (x0 : Int) (x1 : Int) (x2 : List (Int × (List Int))) (x3 : Int) (x4 : Int) (x5 : Int) : law13_LogsAsks x0 x1 x2 x3 x4 x5 =
  (law13_may x0 x1 x2).bind fun val0 =>
  bif !val0
    then (law13_works).bind fun val4 =>
      some (val4)
    else (logs_Term x0 x1 x2 x3).bind fun val4 =>
      (ref13_Term x0 x1 x2 x3).bind fun val6 =>
        (ref13_Last x0 x1 x2).bind fun val8 =>
          (ref13_Term x0 x1 x2 val8).bind fun val10 =>
            bif val4.1 == val6.1
              then bif val4.2 == val6.2
                then (logs_Last x0 x1 x2).bind fun val16 =>
                  (ref13_Last x0 x1 x2).bind fun val18 =>
                    bif val16 == val18
                      then (logs_LastTerm x0 x1 x2).bind fun val22 =>
                        bif val22 == val10.1
                          then (logs_From x0 x1 x2 x3 x4).bind fun val26 =>
                            (ref13_From x0 x1 x2 x3 x4).bind fun val28 =>
                              (ref13_Entries val26 val28).bind fun val30 =>
                                bif val30
                                  then (logs_Newer x0 x1 x2 x5 x3).bind fun val34 =>
                                    (ref13_Newer x0 x1 x2 x5 x3).bind fun val36 =>
                                      bif val34 == val36
                                        then (law13_works).bind fun val40 =>
                                          some (val40)
                                        else some false
                                  else some false
                          else some false
                      else some false
                else some false
              else some false := (law13_LogsAsks_raw x0 x1 x2 x3 x4 x5).trans (by kernel_rfl)
noncomputable def law13_LogsAsks_sig : Sig := { pm := [(true, [(false, .int .i64), (false, .int .i64), (false, .slice (.pair (.int .i64) (.slice (.int .u8))))]), (false, [(false, .int .i64)]), (false, [(false, .int .i64)]), (false, [(false, .int .i64)])], rm := [(false, [(false, .bool)])], f := fun | [⟨.int .i64, x0⟩, ⟨.int .i64, x1⟩, ⟨.slice (.pair (.int .i64) (.slice (.int .u8))), x2⟩, ⟨.int .i64, x3⟩, ⟨.int .i64, x4⟩, ⟨.int .i64, x5⟩] => .yes _ (law13_LogsAsks x0 x1 x2 x3 x4 x5) law13_LogsAsks_mk | _ => .no }
theorem law13_LogsAsks_ok : SigOk Try.prog 6 law13_LogsAsks_sig := by
  refine contract_of (C := law13_LogsAsks_C) (d := 3) S35_ok (callable_ex (by kernel_rfl)) ?_
  intro dvs
  unfold law13_LogsAsks_sig
  dsimp only
  split
  · refine .inr ⟨_, law13_LogsAsks_un, law13_LogsAsks_mk, congrArg (fun o => Cl.yes _ o _) (law13_LogsAsks_raw _ _ _ _ _ _), ?_⟩
    intro ds x h
    unfold law13_LogsAsks_un at h
    split at h
    · cases h; rfl
    · cases h
  · exact .inl rfl
noncomputable def S36 : List (Nat × Sig) := (6, law13_LogsAsks_sig) :: S35
theorem S36_ok : ListOk Try.prog S36 := ListOk.cons S35_ok law13_LogsAsks_ok
noncomputable def law13_LogsAlike_C : Cfg := { P := Try.prog, sig := lookSig S36, hb := fun f b => bif Nat.beq f 7 && Nat.beq b 0 then some { tmps := [2, 4, 5, 14, 15, 17], obs := [132, 140, 212, 756], nils := [], kl := [212, 756, 708, 140, 132] } else bif Nat.beq f 7 && Nat.beq b 2 then some { tmps := [2, 4, 14, 22], obs := [132, 212, 756], nils := [], kl := [212, 756, 708, 140, 132] } else none, hr := fun _ _ => none }
noncomputable def law13_LogsAlike_un : List DV → Option (Bool) := fun | [⟨.bool, r0⟩] => some r0 | _ => none
noncomputable def law13_LogsAlike_mk : Bool → List DV := fun r0 => [⟨.bool, r0⟩]
theorem law13_LogsAlike_ex : ∃ f : (Int) → (Int) → (List (Int × (List Int))) → (Int) → (Int) → (List (Int × (List Int))) → (Int) → (Int) → Option (Bool), f = fun (x0 : Int) (x1 : Int) (x2 : List (Int × (List Int))) (x3 : Int) (x4 : Int) (x5 : List (Int × (List Int))) (x6 : Int) (x7 : Int) => funRun law13_LogsAlike_C 3 7 [(true, [(false, .int .i64), (false, .int .i64), (false, .slice (.pair (.int .i64) (.slice (.int .u8))))]), (true, [(false, .int .i64), (false, .int .i64), (false, .slice (.pair (.int .i64) (.slice (.int .u8))))]), (false, [(false, .int .i64)]), (false, [(false, .int .i64)])] [(false, [(false, .bool)])] law13_LogsAlike_un [⟨.int .i64, x0⟩, ⟨.int .i64, x1⟩, ⟨.slice (.pair (.int .i64) (.slice (.int .u8))), x2⟩, ⟨.int .i64, x3⟩, ⟨.int .i64, x4⟩, ⟨.slice (.pair (.int .i64) (.slice (.int .u8))), x5⟩, ⟨.int .i64, x6⟩, ⟨.int .i64, x7⟩] := ⟨_, rfl⟩
noncomputable def law13_LogsAlike : (Int) → (Int) → (List (Int × (List Int))) → (Int) → (Int) → (List (Int × (List Int))) → (Int) → (Int) → Option (Bool) := law13_LogsAlike_ex.choose
theorem law13_LogsAlike_raw (x0 : Int) (x1 : Int) (x2 : List (Int × (List Int))) (x3 : Int) (x4 : Int) (x5 : List (Int × (List Int))) (x6 : Int) (x7 : Int) : law13_LogsAlike x0 x1 x2 x3 x4 x5 x6 x7 = funRun law13_LogsAlike_C 3 7 [(true, [(false, .int .i64), (false, .int .i64), (false, .slice (.pair (.int .i64) (.slice (.int .u8))))]), (true, [(false, .int .i64), (false, .int .i64), (false, .slice (.pair (.int .i64) (.slice (.int .u8))))]), (false, [(false, .int .i64)]), (false, [(false, .int .i64)])] [(false, [(false, .bool)])] law13_LogsAlike_un [⟨.int .i64, x0⟩, ⟨.int .i64, x1⟩, ⟨.slice (.pair (.int .i64) (.slice (.int .u8))), x2⟩, ⟨.int .i64, x3⟩, ⟨.int .i64, x4⟩, ⟨.slice (.pair (.int .i64) (.slice (.int .u8))), x5⟩, ⟨.int .i64, x6⟩, ⟨.int .i64, x7⟩] := congrFun (congrFun (congrFun (congrFun (congrFun (congrFun (congrFun (congrFun (law13_LogsAlike_ex.choose_spec) x0) x1) x2) x3) x4) x5) x6) x7
noncomputable def law13_LogsAlike_l0 (y0 : Int) (y1 : Int) (y2 : Int) (y3 : Int) (y4 : Int) (y5 : List ((Int) × (List (Int)))) (y6 : Int) (y7 : Int) (y8 : List ((Int) × (List (Int)))) (y9 : Int) (y10 : Int) (y11 : List ((Int) × (List (Int)))) : Option (Bool) := loopAt law13_LogsAlike_C 3 7 [(false, [(false, .bool)])] law13_LogsAlike_un [true, true, true, true, true, true, true, true, false, true, false] (St.ofLists [(2, .int .i64 y0), (4, .ptr 132 0), (5, .ptr 140 0), (14, .ptr 212 0), (15, .int .i64 y1), (17, .int .i64 y2)] [(132, some (.cells [.int .i64 y3, .int .i64 y4, .fz ((Ty.int IntKind.i64).pair (Ty.int IntKind.u8).slice) y5 false false])), (140, some (.cells [.int .i64 y6, .int .i64 y7, .fz ((Ty.int IntKind.i64).pair (Ty.int IntKind.u8).slice) y8 false false])), (212, some (.cells [.int .i64 y9, .int .i64 y10, .ow 756])), (756, some (.row ((Ty.int IntKind.i64).pair (Ty.int IntKind.u8).slice) y11 0 false))] [212, 756, 708, 140, 132])
noncomputable def law13_LogsAlike_l2 (y0 : Int) (y1 : Int) (y2 : Int) (y3 : Int) (y4 : List ((Int) × (List (Int)))) (y5 : Int) (y6 : Int) (y7 : List ((Int) × (List (Int)))) : Option (Bool) := loopAt law13_LogsAlike_C 3 7 [(false, [(false, .bool)])] law13_LogsAlike_un [true, true, true, true, true, true, true, true, true, false, true, false] (St.ofLists [(2, .int .i64 y0), (4, .ptr 132 0), (14, .ptr 212 0), (22, .int .i64 y1)] [(132, some (.cells [.int .i64 y2, .int .i64 y3, .fz ((Ty.int IntKind.i64).pair (Ty.int IntKind.u8).slice) y4 false false])), (212, some (.cells [.int .i64 y5, .int .i64 y6, .ow 756])), (756, some (.row ((Ty.int IntKind.i64).pair (Ty.int IntKind.u8).slice) y7 0 false))] [212, 756, 708, 140, 132])
theorem law13_LogsAlike_eq (x0 : Int) (x1 : Int) (x2 : List (Int × (List Int))) (x3 : Int) (x4 : Int) (x5 : List (Int × (List Int))) (x6 : Int) (x7 : Int) : law13_LogsAlike x0 x1 x2 x3 x4 x5 x6 x7 =
  (law13_may x0 x1 x2).bind fun val0 =>
  bif !val0
    then (law13_works).bind fun val4 =>
      some (val4)
    else (law13_may x3 x4 x5).bind fun val4 =>
      bif !val4
        then (law13_works).bind fun val8 =>
          some (val8)
        else bif decide (x6 < x0)
          then (law13_works).bind fun val10 =>
            some (val10)
          else bif decide (x6 < x3)
            then (law13_works).bind fun val12 =>
              some (val12)
            else (ref13_Term x3 x4 x5 x6).bind fun val12 =>
              (ref13_Term x0 x1 x2 x6).bind fun val14 =>
                bif !val12.2
                  then (law13_works).bind fun val18 =>
                    some (val18)
                  else bif !val14.2
                    then (law13_works).bind fun val20 =>
                      some (val20)
                    else bif val12.1 != val14.1
                      then (law13_works).bind fun val22 =>
                        some (val22)
                      else (logs_From x3 x4 x5 (IntKind.i64.wrap (x6 + 1)) x7).bind fun val22 =>
                        (logs_Put x0 x1 x2 x6 val12.1 val22).bind fun val24 =>
                          bif !val24.2.2.2.2
                            then some false
                            else bif val24.2.2.2.1 != IntKind.i64.wrap (x6 + ilen val22)
                              then some false
                              else law13_LogsAlike_l0 (x6) (val24.2.2.2.1) (IntKind.i64.wrap (x6 + 1)) (x0) (x1) (x2) (x3) (x4) (x5) (val24.1) (val24.2.1) (val24.2.2.1) := (law13_LogsAlike_raw x0 x1 x2 x3 x4 x5 x6 x7).trans (by kernel_rfl)
theorem law13_LogsAlike_l0_eq (y0 : Int) (y1 : Int) (y2 : Int) (y3 : Int) (y4 : Int) (y5 : List ((Int) × (List (Int)))) (y6 : Int) (y7 : Int) (y8 : List ((Int) × (List (Int)))) (y9 : Int) (y10 : Int) (y11 : List ((Int) × (List (Int)))) : law13_LogsAlike_l0 y0 y1 y2 y3 y4 y5 y6 y7 y8 y9 y10 y11 =
  bif decide (y2 ≤ y1)
  then (ref13_Term y9 y10 y11 y2).bind fun val2 =>
    (ref13_Term y6 y7 y8 y2).bind fun val4 =>
      bif !val2.2
        then some false
        else bif !val4.2
          then some false
          else bif val2.1 != val4.1
            then some false
            else law13_LogsAlike_l0 (y0) (y1) (IntKind.i64.wrap (y2 + 1)) (y3) (y4) (y5) (y6) (y7) (y8) (y9) (y10) (y11)
  else law13_LogsAlike_l2 (y0) (IntKind.i64.wrap (y3 + 1)) (y3) (y4) (y5) (y9) (y10) (y11) := (loopAt_step _ _ _ _ _ _ _).trans (by kernel_rfl)
theorem law13_LogsAlike_l2_eq (y0 : Int) (y1 : Int) (y2 : Int) (y3 : Int) (y4 : List ((Int) × (List (Int)))) (y5 : Int) (y6 : Int) (y7 : List ((Int) × (List (Int)))) : law13_LogsAlike_l2 y0 y1 y2 y3 y4 y5 y6 y7 =
  bif decide (y1 ≤ y0)
  then (ref13_Term y5 y6 y7 y1).bind fun val2 =>
    (ref13_Term y2 y3 y4 y1).bind fun val4 =>
      bif val2.1 != val4.1
        then some false
        else law13_LogsAlike_l2 (y0) (IntKind.i64.wrap (y1 + 1)) (y2) (y3) (y4) (y5) (y6) (y7)
  else (law13_works).bind fun val2 =>
    some (val2) := (loopAt_step _ _ _ _ _ _ _).trans (by kernel_rfl)
noncomputable def law13_LogsAlike_sig : Sig := { pm := [(true, [(false, .int .i64), (false, .int .i64), (false, .slice (.pair (.int .i64) (.slice (.int .u8))))]), (true, [(false, .int .i64), (false, .int .i64), (false, .slice (.pair (.int .i64) (.slice (.int .u8))))]), (false, [(false, .int .i64)]), (false, [(false, .int .i64)])], rm := [(false, [(false, .bool)])], f := fun | [⟨.int .i64, x0⟩, ⟨.int .i64, x1⟩, ⟨.slice (.pair (.int .i64) (.slice (.int .u8))), x2⟩, ⟨.int .i64, x3⟩, ⟨.int .i64, x4⟩, ⟨.slice (.pair (.int .i64) (.slice (.int .u8))), x5⟩, ⟨.int .i64, x6⟩, ⟨.int .i64, x7⟩] => .yes _ (law13_LogsAlike x0 x1 x2 x3 x4 x5 x6 x7) law13_LogsAlike_mk | _ => .no }
theorem law13_LogsAlike_ok : SigOk Try.prog 7 law13_LogsAlike_sig := by
  refine contract_of (C := law13_LogsAlike_C) (d := 3) S36_ok (callable_ex (by kernel_rfl)) ?_
  intro dvs
  unfold law13_LogsAlike_sig
  dsimp only
  split
  · refine .inr ⟨_, law13_LogsAlike_un, law13_LogsAlike_mk, congrArg (fun o => Cl.yes _ o _) (law13_LogsAlike_raw _ _ _ _ _ _ _ _), ?_⟩
    intro ds x h
    unfold law13_LogsAlike_un at h
    split at h
    · cases h; rfl
    · cases h
  · exact .inl rfl
noncomputable def S37 : List (Nat × Sig) := (7, law13_LogsAlike_sig) :: S36
theorem S37_ok : ListOk Try.prog S37 := ListOk.cons S36_ok law13_LogsAlike_ok
noncomputable def law13_LogsCompacts_C : Cfg := { P := Try.prog, sig := lookSig S37, hb := fun _ _ => none, hr := fun _ _ => none }
noncomputable def law13_LogsCompacts_un : List DV → Option (Bool) := fun | [⟨.bool, r0⟩] => some r0 | _ => none
noncomputable def law13_LogsCompacts_mk : Bool → List DV := fun r0 => [⟨.bool, r0⟩]
theorem law13_LogsCompacts_ex : ∃ f : (Int) → (Int) → (List (Int × (List Int))) → (Int) → (Int) → (Int) → (List Int) → Option (Bool), f = fun (x0 : Int) (x1 : Int) (x2 : List (Int × (List Int))) (x3 : Int) (x4 : Int) (x5 : Int) (x6 : List Int) => funRun law13_LogsCompacts_C 3 8 [(true, [(false, .int .i64), (false, .int .i64), (false, .slice (.pair (.int .i64) (.slice (.int .u8))))]), (false, [(false, .int .i64)]), (false, [(false, .int .i64)]), (true, [(false, .int .i64), (false, .slice (.int .u8))])] [(false, [(false, .bool)])] law13_LogsCompacts_un [⟨.int .i64, x0⟩, ⟨.int .i64, x1⟩, ⟨.slice (.pair (.int .i64) (.slice (.int .u8))), x2⟩, ⟨.int .i64, x3⟩, ⟨.int .i64, x4⟩, ⟨.int .i64, x5⟩, ⟨.slice (.int .u8), x6⟩] := ⟨_, rfl⟩
noncomputable def law13_LogsCompacts : (Int) → (Int) → (List (Int × (List Int))) → (Int) → (Int) → (Int) → (List Int) → Option (Bool) := law13_LogsCompacts_ex.choose
theorem law13_LogsCompacts_raw (x0 : Int) (x1 : Int) (x2 : List (Int × (List Int))) (x3 : Int) (x4 : Int) (x5 : Int) (x6 : List Int) : law13_LogsCompacts x0 x1 x2 x3 x4 x5 x6 = funRun law13_LogsCompacts_C 3 8 [(true, [(false, .int .i64), (false, .int .i64), (false, .slice (.pair (.int .i64) (.slice (.int .u8))))]), (false, [(false, .int .i64)]), (false, [(false, .int .i64)]), (true, [(false, .int .i64), (false, .slice (.int .u8))])] [(false, [(false, .bool)])] law13_LogsCompacts_un [⟨.int .i64, x0⟩, ⟨.int .i64, x1⟩, ⟨.slice (.pair (.int .i64) (.slice (.int .u8))), x2⟩, ⟨.int .i64, x3⟩, ⟨.int .i64, x4⟩, ⟨.int .i64, x5⟩, ⟨.slice (.int .u8), x6⟩] := congrFun (congrFun (congrFun (congrFun (congrFun (congrFun (congrFun (law13_LogsCompacts_ex.choose_spec) x0) x1) x2) x3) x4) x5) x6
theorem law13_LogsCompacts_eq (x0 : Int) (x1 : Int) (x2 : List (Int × (List Int))) (x3 : Int) (x4 : Int) (x5 : Int) (x6 : List Int) : law13_LogsCompacts x0 x1 x2 x3 x4 x5 x6 =
  (law13_may x0 x1 x2).bind fun val0 =>
  bif !val0
    then (law13_works).bind fun val4 =>
      some (val4)
    else bif decide (ilen x6 > 500)
      then (law13_works).bind fun val6 =>
        some (val6)
      else (logs_Compact x0 x1 x2 x3).bind fun val6 =>
        (ref13_Compact x0 x1 x2 x3).bind fun val8 =>
          (logs_Behind x0 x1 x2 x5 x6).bind fun val10 =>
            bif decide ((0 + ilen x2) * 32 ≤ room)
              then bif decide ((ilen ([] ++ x2) + ilen [(x5, x6)]) * 32 ≤ room)
                then bif val6.2.2.2 == val8.2.2.2
                  then (ref13_Same val6.1 val6.2.1 val6.2.2.1 val8.1 val8.2.1 val8.2.2.1).bind fun val18 =>
                    bif val18
                      then (logs_Reset x0 x1 x2 x3 x4).bind fun val22 =>
                        (ref13_Reset x0 x1 x2 x3 x4).bind fun val24 =>
                          (ref13_Same val22.1 val22.2.1 val22.2.2 val24.1 val24.2.1 val24.2.2).bind fun val26 =>
                            bif val26
                              then (ref13_Same val10.1 val10.2.1 val10.2.2 x0 x1 ([] ++ x2 ++ [(x5, x6)])).bind fun val30 =>
                                bif val30
                                  then (law13_works).bind fun val34 =>
                                    some (val34)
                                  else some false
                              else some false
                      else some false
                  else some false
                else none
              else none := (law13_LogsCompacts_raw x0 x1 x2 x3 x4 x5 x6).trans (by kernel_rfl)
noncomputable def law13_LogsCompacts_sig : Sig := { pm := [(true, [(false, .int .i64), (false, .int .i64), (false, .slice (.pair (.int .i64) (.slice (.int .u8))))]), (false, [(false, .int .i64)]), (false, [(false, .int .i64)]), (true, [(false, .int .i64), (false, .slice (.int .u8))])], rm := [(false, [(false, .bool)])], f := fun | [⟨.int .i64, x0⟩, ⟨.int .i64, x1⟩, ⟨.slice (.pair (.int .i64) (.slice (.int .u8))), x2⟩, ⟨.int .i64, x3⟩, ⟨.int .i64, x4⟩, ⟨.int .i64, x5⟩, ⟨.slice (.int .u8), x6⟩] => .yes _ (law13_LogsCompacts x0 x1 x2 x3 x4 x5 x6) law13_LogsCompacts_mk | _ => .no }
theorem law13_LogsCompacts_ok : SigOk Try.prog 8 law13_LogsCompacts_sig := by
  refine contract_of (C := law13_LogsCompacts_C) (d := 3) S37_ok (callable_ex (by kernel_rfl)) ?_
  intro dvs
  unfold law13_LogsCompacts_sig
  dsimp only
  split
  · refine .inr ⟨_, law13_LogsCompacts_un, law13_LogsCompacts_mk, congrArg (fun o => Cl.yes _ o _) (law13_LogsCompacts_raw _ _ _ _ _ _ _), ?_⟩
    intro ds x h
    unfold law13_LogsCompacts_un at h
    split at h
    · cases h; rfl
    · cases h
  · exact .inl rfl
noncomputable def S38 : List (Nat × Sig) := (8, law13_LogsCompacts_sig) :: S37
theorem S38_ok : ListOk Try.prog S38 := ListOk.cons S37_ok law13_LogsCompacts_ok
end Go.Proofs.Ytbgbpdpaamlinaa.PE
