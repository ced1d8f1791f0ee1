/- The functions of this chapter, their first part. -/
import Derived.Test.YtdbenenonfldkaaDoorEFun
import Derived.KernelRfl
namespace Go.Proofs.YtdbenenonfldkaaDoor.PE
set_option linter.unusedVariables false
open Go.Proofs
noncomputable def S0 : List (Nat × Sig) := []
theorem S0_ok : ListOk Tryd.prog S0 := ListOk.nil
noncomputable def P0 : List (Nat × Sig) := []
theorem P0_ok : ListPOk Tryd.prog P0 := ListPOk.nil
noncomputable def ses_Global_C : Cfg := { P := Tryd.prog, sig := lookSig S0, hb := fun _ _ => none, hr := fun _ _ => none }
noncomputable def ses_Global_un : List DV → Option (Int × Int) := fun | [⟨.int .i64, r0⟩, ⟨.int .i64, r1⟩] => some (r0, r1) | _ => none
noncomputable def ses_Global_mk : (Int × Int) → List DV := fun ⟨r0, r1⟩ => [⟨.int .i64, r0⟩, ⟨.int .i64, r1⟩]
theorem ses_Global_ex : ∃ f : (Int) → (Int) → Option (Int × Int), f = fun (x0 : Int) (x1 : Int) => funRun ses_Global_C 3 7 [(false, [(false, .int .i64)]), (false, [(false, .int .i64)])] [(false, [(false, .int .i64)]), (false, [(false, .int .i64)])] ses_Global_un [⟨.int .i64, x0⟩, ⟨.int .i64, x1⟩] := ⟨_, rfl⟩
noncomputable def ses_Global : (Int) → (Int) → Option (Int × Int) := ses_Global_ex.choose
theorem ses_Global_raw (x0 : Int) (x1 : Int) : ses_Global x0 x1 = funRun ses_Global_C 3 7 [(false, [(false, .int .i64)]), (false, [(false, .int .i64)])] [(false, [(false, .int .i64)]), (false, [(false, .int .i64)])] ses_Global_un [⟨.int .i64, x0⟩, ⟨.int .i64, x1⟩] := congrFun (congrFun (ses_Global_ex.choose_spec) x0) x1
theorem ses_Global_eq (x0 : Int) (x1 : Int) : ses_Global x0 x1 =
  bif decide (x0 < 0)
  then some ((0), (2))
  else bif decide (x0 ≥ 64)
    then some ((0), (2))
    else bif decide (x1 < 0)
      then some ((0), (2))
      else bif decide (x1 > 1099511627776)
        then some ((0), (2))
        else some ((IntKind.i64.wrap (IntKind.i64.wrap (x1 * 64) + x0)), (0)) := (ses_Global_raw x0 x1).trans (by kernel_rfl)
noncomputable def ses_Global_sig : Sig := { pm := [(false, [(false, .int .i64)]), (false, [(false, .int .i64)])], rm := [(false, [(false, .int .i64)]), (false, [(false, .int .i64)])], f := fun | [⟨.int .i64, x0⟩, ⟨.int .i64, x1⟩] => .yes _ (ses_Global x0 x1) ses_Global_mk | _ => .no }
theorem ses_Global_ok : SigOk Tryd.prog 7 ses_Global_sig := by
  refine contract_of (C := ses_Global_C) (d := 3) ⟨S0_ok, noPs⟩ (callable_ex (by kernel_rfl)) ?_
  intro dvs
  unfold ses_Global_sig
  dsimp only
  split
  · refine .inr ⟨_, ses_Global_un, ses_Global_mk, congrArg (fun o => Cl.yes _ o _) (ses_Global_raw _ _), ?_⟩
    intro ds x h
    unfold ses_Global_un at h
    split at h
    · cases h; rfl
    · cases h
  · exact .inl rfl
noncomputable def S1 : List (Nat × Sig) := (7, ses_Global_sig) :: S0
theorem S1_ok : ListOk Tryd.prog S1 := ListOk.cons S0_ok ses_Global_ok
noncomputable def ref29_Global_C : Cfg := { P := Tryd.prog, sig := lookSig S1, hb := fun _ _ => none, hr := fun _ _ => none }
noncomputable def ref29_Global_un : List DV → Option (Int × Int) := fun | [⟨.int .i64, r0⟩, ⟨.int .i64, r1⟩] => some (r0, r1) | _ => none
noncomputable def ref29_Global_mk : (Int × Int) → List DV := fun ⟨r0, r1⟩ => [⟨.int .i64, r0⟩, ⟨.int .i64, r1⟩]
theorem ref29_Global_ex : ∃ f : (Int) → (Int) → Option (Int × Int), f = fun (x0 : Int) (x1 : Int) => funRun ref29_Global_C 3 8 [(false, [(false, .int .i64)]), (false, [(false, .int .i64)])] [(false, [(false, .int .i64)]), (false, [(false, .int .i64)])] ref29_Global_un [⟨.int .i64, x0⟩, ⟨.int .i64, x1⟩] := ⟨_, rfl⟩
noncomputable def ref29_Global : (Int) → (Int) → Option (Int × Int) := ref29_Global_ex.choose
theorem ref29_Global_raw (x0 : Int) (x1 : Int) : ref29_Global x0 x1 = funRun ref29_Global_C 3 8 [(false, [(false, .int .i64)]), (false, [(false, .int .i64)])] [(false, [(false, .int .i64)]), (false, [(false, .int .i64)])] ref29_Global_un [⟨.int .i64, x0⟩, ⟨.int .i64, x1⟩] := congrFun (congrFun (ref29_Global_ex.choose_spec) x0) x1
theorem ref29_Global_eq (x0 : Int) (x1 : Int) : ref29_Global x0 x1 =
  bif decide (x0 < 0)
  then some ((0), (2))
  else bif decide (x0 > 63)
    then some ((0), (2))
    else bif decide (x1 < 0)
      then some ((0), (2))
      else bif decide (x1 > 1099511627776)
        then some ((0), (2))
        else some ((IntKind.i64.wrap (IntKind.i64.wrap (64 * x1) + x0)), (0)) := (ref29_Global_raw x0 x1).trans (by kernel_rfl)
noncomputable def ref29_Global_sig : Sig := { pm := [(false, [(false, .int .i64)]), (false, [(false, .int .i64)])], rm := [(false, [(false, .int .i64)]), (false, [(false, .int .i64)])], f := fun | [⟨.int .i64, x0⟩, ⟨.int .i64, x1⟩] => .yes _ (ref29_Global x0 x1) ref29_Global_mk | _ => .no }
theorem ref29_Global_ok : SigOk Tryd.prog 8 ref29_Global_sig := by
  refine contract_of (C := ref29_Global_C) (d := 3) ⟨S1_ok, noPs⟩ (callable_ex (by kernel_rfl)) ?_
  intro dvs
  unfold ref29_Global_sig
  dsimp only
  split
  · refine .inr ⟨_, ref29_Global_un, ref29_Global_mk, congrArg (fun o => Cl.yes _ o _) (ref29_Global_raw _ _), ?_⟩
    intro ds x h
    unfold ref29_Global_un at h
    split at h
    · cases h; rfl
    · cases h
  · exact .inl rfl
noncomputable def S2 : List (Nat × Sig) := (8, ref29_Global_sig) :: S1
theorem S2_ok : ListOk Tryd.prog S2 := ListOk.cons S1_ok ref29_Global_ok
noncomputable def ses_Local_C : Cfg := { P := Tryd.prog, sig := lookSig S2, hb := fun _ _ => none, hr := fun _ _ => none }
noncomputable def ses_Local_un : List DV → Option (Int × Int × Int) := fun | [⟨.int .i64, r0⟩, ⟨.int .i64, r1⟩, ⟨.int .i64, r2⟩] => some (r0, r1, r2) | _ => none
noncomputable def ses_Local_mk : (Int × Int × Int) → List DV := fun ⟨r0, r1, r2⟩ => [⟨.int .i64, r0⟩, ⟨.int .i64, r1⟩, ⟨.int .i64, r2⟩]
theorem ses_Local_ex : ∃ f : (Int) → Option (Int × Int × Int), f = fun (x0 : Int) => funRun ses_Local_C 3 9 [(false, [(false, .int .i64)])] [(false, [(false, .int .i64)]), (false, [(false, .int .i64)]), (false, [(false, .int .i64)])] ses_Local_un [⟨.int .i64, x0⟩] := ⟨_, rfl⟩
noncomputable def ses_Local : (Int) → Option (Int × Int × Int) := ses_Local_ex.choose
theorem ses_Local_raw (x0 : Int) : ses_Local x0 = funRun ses_Local_C 3 9 [(false, [(false, .int .i64)])] [(false, [(false, .int .i64)]), (false, [(false, .int .i64)]), (false, [(false, .int .i64)])] ses_Local_un [⟨.int .i64, x0⟩] := congrFun (ses_Local_ex.choose_spec) x0
theorem ses_Local_eq (x0 : Int) : ses_Local x0 =
  bif decide (x0 < 0)
  then some ((0), ((0), (2)))
  else bif decide (IntKind.i64.wrap (x0.tdiv 64) > 1099511627776)
    then some ((0), ((0), (2)))
    else some ((x0.tmod 64), ((IntKind.i64.wrap (x0.tdiv 64)), (0))) := (ses_Local_raw x0).trans (by kernel_rfl)
noncomputable def ses_Local_sig : Sig := { pm := [(false, [(false, .int .i64)])], rm := [(false, [(false, .int .i64)]), (false, [(false, .int .i64)]), (false, [(false, .int .i64)])], f := fun | [⟨.int .i64, x0⟩] => .yes _ (ses_Local x0) ses_Local_mk | _ => .no }
theorem ses_Local_ok : SigOk Tryd.prog 9 ses_Local_sig := by
  refine contract_of (C := ses_Local_C) (d := 3) ⟨S2_ok, noPs⟩ (callable_ex (by kernel_rfl)) ?_
  intro dvs
  unfold ses_Local_sig
  dsimp only
  split
  · refine .inr ⟨_, ses_Local_un, ses_Local_mk, congrArg (fun o => Cl.yes _ o _) (ses_Local_raw _), ?_⟩
    intro ds x h
    unfold ses_Local_un at h
    split at h
    · cases h; rfl
    · cases h
  · exact .inl rfl
noncomputable def S3 : List (Nat × Sig) := (9, ses_Local_sig) :: S2
theorem S3_ok : ListOk Tryd.prog S3 := ListOk.cons S2_ok ses_Local_ok
noncomputable def ref29_Local_C : Cfg := { P := Tryd.prog, sig := lookSig S3, hb := fun _ _ => none, hr := fun _ _ => none }
noncomputable def ref29_Local_un : List DV → Option (Int × Int × Int) := fun | [⟨.int .i64, r0⟩, ⟨.int .i64, r1⟩, ⟨.int .i64, r2⟩] => some (r0, r1, r2) | _ => none
noncomputable def ref29_Local_mk : (Int × Int × Int) → List DV := fun ⟨r0, r1, r2⟩ => [⟨.int .i64, r0⟩, ⟨.int .i64, r1⟩, ⟨.int .i64, r2⟩]
theorem ref29_Local_ex : ∃ f : (Int) → Option (Int × Int × Int), f = fun (x0 : Int) => funRun ref29_Local_C 3 10 [(false, [(false, .int .i64)])] [(false, [(false, .int .i64)]), (false, [(false, .int .i64)]), (false, [(false, .int .i64)])] ref29_Local_un [⟨.int .i64, x0⟩] := ⟨_, rfl⟩
noncomputable def ref29_Local : (Int) → Option (Int × Int × Int) := ref29_Local_ex.choose
theorem ref29_Local_raw (x0 : Int) : ref29_Local x0 = funRun ref29_Local_C 3 10 [(false, [(false, .int .i64)])] [(false, [(false, .int .i64)]), (false, [(false, .int .i64)]), (false, [(false, .int .i64)])] ref29_Local_un [⟨.int .i64, x0⟩] := congrFun (ref29_Local_ex.choose_spec) x0
theorem ref29_Local_eq (x0 : Int) : ref29_Local x0 =
  bif decide (x0 < 0)
  then some ((0), ((0), (2)))
  else bif decide (IntKind.i64.wrap (x0.tdiv 64) > 1099511627776)
    then some ((0), ((0), (2)))
    else some ((IntKind.i64.wrap (x0 - IntKind.i64.wrap (IntKind.i64.wrap (x0.tdiv 64) * 64))), ((IntKind.i64.wrap (x0.tdiv 64)), (0))) := (ref29_Local_raw x0).trans (by kernel_rfl)
noncomputable def ref29_Local_sig : Sig := { pm := [(false, [(false, .int .i64)])], rm := [(false, [(false, .int .i64)]), (false, [(false, .int .i64)]), (false, [(false, .int .i64)])], f := fun | [⟨.int .i64, x0⟩] => .yes _ (ref29_Local x0) ref29_Local_mk | _ => .no }
theorem ref29_Local_ok : SigOk Tryd.prog 10 ref29_Local_sig := by
  refine contract_of (C := ref29_Local_C) (d := 3) ⟨S3_ok, noPs⟩ (callable_ex (by kernel_rfl)) ?_
  intro dvs
  unfold ref29_Local_sig
  dsimp only
  split
  · refine .inr ⟨_, ref29_Local_un, ref29_Local_mk, congrArg (fun o => Cl.yes _ o _) (ref29_Local_raw _), ?_⟩
    intro ds x h
    unfold ref29_Local_un at h
    split at h
    · cases h; rfl
    · cases h
  · exact .inl rfl
noncomputable def S4 : List (Nat × Sig) := (10, ref29_Local_sig) :: S3
theorem S4_ok : ListOk Tryd.prog S4 := ListOk.cons S3_ok ref29_Local_ok
noncomputable def ses_New_C : Cfg := { P := Tryd.prog, sig := lookSig S4, hb := fun _ _ => none, hr := fun _ _ => none }
noncomputable def ses_New_un : List DV → Option (Int × Int × Int × Int × Int × (List (Int × Int × (List Int))) × Int × Int) := fun | [⟨.int .i64, r0⟩, ⟨.int .i64, r1⟩, ⟨.int .i64, r2⟩, ⟨.int .i64, r3⟩, ⟨.int .i64, r4⟩, ⟨.slice (.pair (.int .i64) (.pair (.int .i64) (.slice (.int .u8)))), r5⟩, ⟨.int .i64, r6⟩, ⟨.int .i64, r7⟩] => some (r0, r1, r2, r3, r4, r5, r6, r7) | _ => none
noncomputable def ses_New_mk : (Int × Int × Int × Int × Int × (List (Int × Int × (List Int))) × Int × Int) → List DV := fun ⟨r0, r1, r2, r3, r4, r5, r6, r7⟩ => [⟨.int .i64, r0⟩, ⟨.int .i64, r1⟩, ⟨.int .i64, r2⟩, ⟨.int .i64, r3⟩, ⟨.int .i64, r4⟩, ⟨.slice (.pair (.int .i64) (.pair (.int .i64) (.slice (.int .u8)))), r5⟩, ⟨.int .i64, r6⟩, ⟨.int .i64, r7⟩]
theorem ses_New_ex : ∃ f : (Int) → (Int) → (Int) → Option (Int × Int × Int × Int × Int × (List (Int × Int × (List Int))) × Int × Int), f = fun (x0 : Int) (x1 : Int) (x2 : Int) => funRun ses_New_C 3 13 [(false, [(false, .int .i64)]), (false, [(false, .int .i64)]), (false, [(false, .int .i64)])] [(true, [(false, .int .i64), (false, .int .i64), (false, .int .i64), (false, .int .i64), (false, .int .i64), (true, .slice (.pair (.int .i64) (.pair (.int .i64) (.slice (.int .u8))))), (false, .int .i64)]), (false, [(false, .int .i64)])] ses_New_un [⟨.int .i64, x0⟩, ⟨.int .i64, x1⟩, ⟨.int .i64, x2⟩] := ⟨_, rfl⟩
noncomputable def ses_New : (Int) → (Int) → (Int) → Option (Int × Int × Int × Int × Int × (List (Int × Int × (List Int))) × Int × Int) := ses_New_ex.choose
theorem ses_New_raw (x0 : Int) (x1 : Int) (x2 : Int) : ses_New x0 x1 x2 = funRun ses_New_C 3 13 [(false, [(false, .int .i64)]), (false, [(false, .int .i64)]), (false, [(false, .int .i64)])] [(true, [(false, .int .i64), (false, .int .i64), (false, .int .i64), (false, .int .i64), (false, .int .i64), (true, .slice (.pair (.int .i64) (.pair (.int .i64) (.slice (.int .u8))))), (false, .int .i64)]), (false, [(false, .int .i64)])] ses_New_un [⟨.int .i64, x0⟩, ⟨.int .i64, x1⟩, ⟨.int .i64, x2⟩] := congrFun (congrFun (congrFun (ses_New_ex.choose_spec) x0) x1) x2
theorem ses_New_eq (x0 : Int) (x1 : Int) (x2 : Int) : ses_New x0 x1 x2 =
  bif decide (x0 < 1)
  then some ((0), ((0), ((0), ((0), ((0), (([]), ((0), (2))))))))
  else bif decide (x0 > 1099511627776)
    then some ((0), ((0), ((0), ((0), ((0), (([]), ((0), (2))))))))
    else bif decide (x1 < 1)
      then some ((0), ((0), ((0), ((0), ((0), (([]), ((0), (2))))))))
      else bif decide (x1 > 7)
        then some ((0), ((0), ((0), ((0), ((0), (([]), ((0), (2))))))))
        else bif decide (x2 < 1)
          then some ((0), ((0), ((0), ((0), ((0), (([]), ((0), (2))))))))
          else bif decide (x2 > 64)
            then some ((0), ((0), ((0), ((0), ((0), (([]), ((0), (2))))))))
            else some ((x0), ((0), ((x1), ((x2), ((1), (([]), ((0), (0)))))))) := (ses_New_raw x0 x1 x2).trans (by kernel_rfl)
noncomputable def ses_New_sig : Sig := { pm := [(false, [(false, .int .i64)]), (false, [(false, .int .i64)]), (false, [(false, .int .i64)])], rm := [(true, [(false, .int .i64), (false, .int .i64), (false, .int .i64), (false, .int .i64), (false, .int .i64), (true, .slice (.pair (.int .i64) (.pair (.int .i64) (.slice (.int .u8))))), (false, .int .i64)]), (false, [(false, .int .i64)])], f := fun | [⟨.int .i64, x0⟩, ⟨.int .i64, x1⟩, ⟨.int .i64, x2⟩] => .yes _ (ses_New x0 x1 x2) ses_New_mk | _ => .no }
theorem ses_New_ok : SigOk Tryd.prog 13 ses_New_sig := by
  refine contract_of (C := ses_New_C) (d := 3) ⟨S4_ok, noPs⟩ (callable_ex (by kernel_rfl)) ?_
  intro dvs
  unfold ses_New_sig
  dsimp only
  split
  · refine .inr ⟨_, ses_New_un, ses_New_mk, congrArg (fun o => Cl.yes _ o _) (ses_New_raw _ _ _), ?_⟩
    intro ds x h
    unfold ses_New_un at h
    split at h
    · cases h; rfl
    · cases h
  · exact .inl rfl
noncomputable def S5 : List (Nat × Sig) := (13, ses_New_sig) :: S4
theorem S5_ok : ListOk Tryd.prog S5 := ListOk.cons S4_ok ses_New_ok
noncomputable def ses_OpenW_C : Cfg := { P := Tryd.prog, sig := lookSig S0, hb := fun _ _ => none, hr := fun _ _ => none, un := fun f b => bif Nat.beq f 18 && Nat.beq b 0 then 2 else bif Nat.beq f 48 && Nat.beq b 0 then 3 else bif Nat.beq f 87 && Nat.beq b 0 then 2 else bif Nat.beq f 88 && Nat.beq b 1 then 2 else bif Nat.beq f 25 && Nat.beq b 1 then 2 else 0 }
noncomputable def ses_OpenW_un : List DV → Option (Int × Int × Int × Int × Int × (List (Int × Int × (List Int))) × Int × Int) := fun | [⟨.int .i64, r0⟩, ⟨.int .i64, r1⟩, ⟨.int .i64, r2⟩, ⟨.int .i64, r3⟩, ⟨.int .i64, r4⟩, ⟨.slice (.pair (.int .i64) (.pair (.int .i64) (.slice (.int .u8)))), r5⟩, ⟨.int .i64, r6⟩, ⟨.int .i64, r7⟩] => some (r0, r1, r2, r3, r4, r5, r6, r7) | _ => none
noncomputable def ses_OpenW_mk : (Int × Int × Int × Int × Int × (List (Int × Int × (List Int))) × Int × Int) → List DV := fun ⟨r0, r1, r2, r3, r4, r5, r6, r7⟩ => [⟨.int .i64, r0⟩, ⟨.int .i64, r1⟩, ⟨.int .i64, r2⟩, ⟨.int .i64, r3⟩, ⟨.int .i64, r4⟩, ⟨.slice (.pair (.int .i64) (.pair (.int .i64) (.slice (.int .u8)))), r5⟩, ⟨.int .i64, r6⟩, ⟨.int .i64, r7⟩]
theorem ses_OpenW_ex : ∃ f : (Int) → (Int) → (Int) → (Int) → (Int) → (List (Int × Int × (List Int))) → (Int) → (Int) → (Int) → (Int) → (ByteArray) → (ByteArray) → (Int) → (List ByteArray) → (List Int) → (Int) → (Int) → (Int) → (Int) → (List Int) → Option (Int × Int × Int × Int × Int × (List (Int × Int × (List Int))) × Int × Int), f = fun (x0 : Int) (x1 : Int) (x2 : Int) (x3 : Int) (x4 : Int) (x5 : List (Int × Int × (List Int))) (x6 : Int) (x7 : Int) (x8 : Int) (x9 : Int) (x10 : ByteArray) (x11 : ByteArray) (x12 : Int) (x13 : List ByteArray) (x14 : List Int) (x15 : Int) (x16 : Int) (x17 : Int) (x18 : Int) (x19 : List Int) => funRun ses_OpenW_C 8 18 [(true, [(false, .int .i64), (false, .int .i64), (false, .int .i64), (false, .int .i64), (false, .int .i64), (false, .slice (.pair (.int .i64) (.pair (.int .i64) (.slice (.int .u8))))), (false, .int .i64)]), (true, [(false, .int .i64), (false, .int .i64), (false, .int .i64), (false, .str), (false, .str), (false, .int .i64), (false, .slice (.str)), (false, .slice (.int .i64)), (false, .int .i64), (false, .int .i64), (false, .int .i64), (false, .int .i64), (false, .slice (.int .u8))])] [(true, [(false, .int .i64), (false, .int .i64), (false, .int .i64), (false, .int .i64), (false, .int .i64), (false, .slice (.pair (.int .i64) (.pair (.int .i64) (.slice (.int .u8))))), (false, .int .i64)]), (false, [(false, .int .i64)])] ses_OpenW_un [⟨.int .i64, x0⟩, ⟨.int .i64, x1⟩, ⟨.int .i64, x2⟩, ⟨.int .i64, x3⟩, ⟨.int .i64, x4⟩, ⟨.slice (.pair (.int .i64) (.pair (.int .i64) (.slice (.int .u8)))), x5⟩, ⟨.int .i64, x6⟩, ⟨.int .i64, x7⟩, ⟨.int .i64, x8⟩, ⟨.int .i64, x9⟩, ⟨.str, x10⟩, ⟨.str, x11⟩, ⟨.int .i64, x12⟩, ⟨.slice (.str), x13⟩, ⟨.slice (.int .i64), x14⟩, ⟨.int .i64, x15⟩, ⟨.int .i64, x16⟩, ⟨.int .i64, x17⟩, ⟨.int .i64, x18⟩, ⟨.slice (.int .u8), x19⟩] := ⟨_, rfl⟩
noncomputable def ses_OpenW : (Int) → (Int) → (Int) → (Int) → (Int) → (List (Int × Int × (List Int))) → (Int) → (Int) → (Int) → (Int) → (ByteArray) → (ByteArray) → (Int) → (List ByteArray) → (List Int) → (Int) → (Int) → (Int) → (Int) → (List Int) → Option (Int × Int × Int × Int × Int × (List (Int × Int × (List Int))) × Int × Int) := ses_OpenW_ex.choose
theorem ses_OpenW_raw (x0 : Int) (x1 : Int) (x2 : Int) (x3 : Int) (x4 : Int) (x5 : List (Int × Int × (List Int))) (x6 : Int) (x7 : Int) (x8 : Int) (x9 : Int) (x10 : ByteArray) (x11 : ByteArray) (x12 : Int) (x13 : List ByteArray) (x14 : List Int) (x15 : Int) (x16 : Int) (x17 : Int) (x18 : Int) (x19 : List Int) : ses_OpenW x0 x1 x2 x3 x4 x5 x6 x7 x8 x9 x10 x11 x12 x13 x14 x15 x16 x17 x18 x19 = funRun ses_OpenW_C 8 18 [(true, [(false, .int .i64), (false, .int .i64), (false, .int .i64), (false, .int .i64), (false, .int .i64), (false, .slice (.pair (.int .i64) (.pair (.int .i64) (.slice (.int .u8))))), (false, .int .i64)]), (true, [(false, .int .i64), (false, .int .i64), (false, .int .i64), (false, .str), (false, .str), (false, .int .i64), (false, .slice (.str)), (false, .slice (.int .i64)), (false, .int .i64), (false, .int .i64), (false, .int .i64), (false, .int .i64), (false, .slice (.int .u8))])] [(true, [(false, .int .i64), (false, .int .i64), (false, .int .i64), (false, .int .i64), (false, .int .i64), (false, .slice (.pair (.int .i64) (.pair (.int .i64) (.slice (.int .u8))))), (false, .int .i64)]), (false, [(false, .int .i64)])] ses_OpenW_un [⟨.int .i64, x0⟩, ⟨.int .i64, x1⟩, ⟨.int .i64, x2⟩, ⟨.int .i64, x3⟩, ⟨.int .i64, x4⟩, ⟨.slice (.pair (.int .i64) (.pair (.int .i64) (.slice (.int .u8)))), x5⟩, ⟨.int .i64, x6⟩, ⟨.int .i64, x7⟩, ⟨.int .i64, x8⟩, ⟨.int .i64, x9⟩, ⟨.str, x10⟩, ⟨.str, x11⟩, ⟨.int .i64, x12⟩, ⟨.slice (.str), x13⟩, ⟨.slice (.int .i64), x14⟩, ⟨.int .i64, x15⟩, ⟨.int .i64, x16⟩, ⟨.int .i64, x17⟩, ⟨.int .i64, x18⟩, ⟨.slice (.int .u8), x19⟩] := congrFun (congrFun (congrFun (congrFun (congrFun (congrFun (congrFun (congrFun (congrFun (congrFun (congrFun (congrFun (congrFun (congrFun (congrFun (congrFun (congrFun (congrFun (congrFun (congrFun (ses_OpenW_ex.choose_spec) x0) x1) x2) x3) x4) x5) x6) x7) x8) x9) x10) x11) x12) x13) x14) x15) x16) x17) x18) x19
noncomputable def ses_OpenW_sig : Sig := { pm := [(true, [(false, .int .i64), (false, .int .i64), (false, .int .i64), (false, .int .i64), (false, .int .i64), (false, .slice (.pair (.int .i64) (.pair (.int .i64) (.slice (.int .u8))))), (false, .int .i64)]), (true, [(false, .int .i64), (false, .int .i64), (false, .int .i64), (false, .str), (false, .str), (false, .int .i64), (false, .slice (.str)), (false, .slice (.int .i64)), (false, .int .i64), (false, .int .i64), (false, .int .i64), (false, .int .i64), (false, .slice (.int .u8))])], rm := [(true, [(false, .int .i64), (false, .int .i64), (false, .int .i64), (false, .int .i64), (false, .int .i64), (false, .slice (.pair (.int .i64) (.pair (.int .i64) (.slice (.int .u8))))), (false, .int .i64)]), (false, [(false, .int .i64)])], f := fun | [⟨.int .i64, x0⟩, ⟨.int .i64, x1⟩, ⟨.int .i64, x2⟩, ⟨.int .i64, x3⟩, ⟨.int .i64, x4⟩, ⟨.slice (.pair (.int .i64) (.pair (.int .i64) (.slice (.int .u8)))), x5⟩, ⟨.int .i64, x6⟩, ⟨.int .i64, x7⟩, ⟨.int .i64, x8⟩, ⟨.int .i64, x9⟩, ⟨.str, x10⟩, ⟨.str, x11⟩, ⟨.int .i64, x12⟩, ⟨.slice (.str), x13⟩, ⟨.slice (.int .i64), x14⟩, ⟨.int .i64, x15⟩, ⟨.int .i64, x16⟩, ⟨.int .i64, x17⟩, ⟨.int .i64, x18⟩, ⟨.slice (.int .u8), x19⟩] => .yes _ (ses_OpenW x0 x1 x2 x3 x4 x5 x6 x7 x8 x9 x10 x11 x12 x13 x14 x15 x16 x17 x18 x19) ses_OpenW_mk | _ => .no }
theorem ses_OpenW_ok : SigOk Tryd.prog 18 ses_OpenW_sig := by
  refine contract_of (C := ses_OpenW_C) (d := 8) ⟨S0_ok, noPs⟩ (callable_ex (by kernel_rfl)) ?_
  intro dvs
  unfold ses_OpenW_sig
  dsimp only
  split
  · refine .inr ⟨_, ses_OpenW_un, ses_OpenW_mk, congrArg (fun o => Cl.yes _ o _) (ses_OpenW_raw _ _ _ _ _ _ _ _ _ _ _ _ _ _ _ _ _ _ _ _), ?_⟩
    intro ds x h
    unfold ses_OpenW_un at h
    split at h
    · cases h; rfl
    · cases h
  · exact .inl rfl
noncomputable def S6 : List (Nat × Sig) := (18, ses_OpenW_sig) :: S5
theorem S6_ok : ListOk Tryd.prog S6 := ListOk.cons S5_ok ses_OpenW_ok
noncomputable def ses_CloneB_C : Cfg := { P := Tryd.prog, sig := lookSig S6, hb := fun _ _ => none, hr := fun _ _ => none }
noncomputable def ses_CloneB_un : List DV → Option ((List Int)) := fun | [⟨.slice (.int .u8), r0⟩] => some r0 | _ => none
noncomputable def ses_CloneB_mk : (List Int) → List DV := fun r0 => [⟨.slice (.int .u8), r0⟩]
theorem ses_CloneB_ex : ∃ f : (List Int) → Option ((List Int)), f = fun (x0 : List Int) => avRun ses_CloneB_C 3 30 [(false, [(true, .slice (.int .u8))])] ses_CloneB_un [.fz (.int .u8) x0 false true] := ⟨_, rfl⟩
noncomputable def ses_CloneB : (List Int) → Option ((List Int)) := ses_CloneB_ex.choose
theorem ses_CloneB_raw (x0 : List Int) : ses_CloneB x0 = avRun ses_CloneB_C 3 30 [(false, [(true, .slice (.int .u8))])] ses_CloneB_un [.fz (.int .u8) x0 false true] := congrFun (ses_CloneB_ex.choose_spec) x0
theorem ses_CloneB_eq (x0 : List Int) : ses_CloneB x0 =
  bif decide ((0 + ilen x0) * 1 ≤ room)
  then some ([] ++ x0)
  else none := (ses_CloneB_raw x0).trans (by kernel_rfl)
theorem ses_CloneB_nil : avRun ses_CloneB_C 3 30 [(false, [(true, .slice (.int .u8))])] ses_CloneB_un [.nils] = some ([]) := by kernel_rfl
noncomputable def ses_CloneB_sig : Sig := { pm := [(false, [(false, .slice (.int .u8))])], rm := [(false, [(true, .slice (.int .u8))])], f := fun | [⟨.slice (.int .u8), x0⟩] => .yes _ (ses_CloneB x0) ses_CloneB_mk | _ => .no }
theorem ses_CloneB_ok : SigOk Tryd.prog 30 ses_CloneB_sig := by
  refine contract_slice (C := ses_CloneB_C) (d := 3) ⟨S6_ok, noPs⟩ rfl (callable_ex (by kernel_rfl)) ?_
  intro dvs
  unfold ses_CloneB_sig
  dsimp only
  split
  · refine .inr ⟨_, ses_CloneB_un, ses_CloneB_mk, _, rfl, congrArg (fun o => Cl.yes _ o _) (ses_CloneB_raw _), ?_, ?_⟩
    · intro ds x h
      unfold ses_CloneB_un at h
      split at h
      · cases h; rfl
      · cases h
    · intro x hl ho
      subst hl
      rw [← ses_CloneB_raw, ses_CloneB_eq] at ho
      rw [ses_CloneB_nil]
      simpa [ilen, room] using ho
  · exact .inl rfl
noncomputable def S7 : List (Nat × Sig) := (30, ses_CloneB_sig) :: S6
theorem S7_ok : ListOk Tryd.prog S7 := ListOk.cons S6_ok ses_CloneB_ok
noncomputable def ses_Ask_C : Cfg := { P := Tryd.prog, sig := lookSig S7, hb := fun _ _ => none, hr := fun _ _ => none }
noncomputable def ses_Ask_un : List DV → Option (Int × Int × (List Int) × Bool) := fun | [⟨.int .i64, r0⟩, ⟨.int .i64, r1⟩, ⟨.slice (.int .u8), r2⟩, ⟨.bool, r3⟩] => some (r0, r1, r2, r3) | _ => none
noncomputable def ses_Ask_mk : (Int × Int × (List Int) × Bool) → List DV := fun ⟨r0, r1, r2, r3⟩ => [⟨.int .i64, r0⟩, ⟨.int .i64, r1⟩, ⟨.slice (.int .u8), r2⟩, ⟨.bool, r3⟩]
theorem ses_Ask_ex : ∃ f : (Int) → (Int) → (Int) → (Int) → (Int) → (List (Int × Int × (List Int))) → (Int) → Option (Int × Int × (List Int) × Bool), f = fun (x0 : Int) (x1 : Int) (x2 : Int) (x3 : Int) (x4 : Int) (x5 : List (Int × Int × (List Int))) (x6 : Int) => funRun ses_Ask_C 3 22 [(true, [(false, .int .i64), (false, .int .i64), (false, .int .i64), (false, .int .i64), (false, .int .i64), (false, .slice (.pair (.int .i64) (.pair (.int .i64) (.slice (.int .u8))))), (false, .int .i64)])] [(false, [(false, .int .i64)]), (false, [(false, .int .i64)]), (false, [(true, .slice (.int .u8))]), (false, [(false, .bool)])] ses_Ask_un [⟨.int .i64, x0⟩, ⟨.int .i64, x1⟩, ⟨.int .i64, x2⟩, ⟨.int .i64, x3⟩, ⟨.int .i64, x4⟩, ⟨.slice (.pair (.int .i64) (.pair (.int .i64) (.slice (.int .u8)))), x5⟩, ⟨.int .i64, x6⟩] := ⟨_, rfl⟩
noncomputable def ses_Ask : (Int) → (Int) → (Int) → (Int) → (Int) → (List (Int × Int × (List Int))) → (Int) → Option (Int × Int × (List Int) × Bool) := ses_Ask_ex.choose
theorem ses_Ask_raw (x0 : Int) (x1 : Int) (x2 : Int) (x3 : Int) (x4 : Int) (x5 : List (Int × Int × (List Int))) (x6 : Int) : ses_Ask x0 x1 x2 x3 x4 x5 x6 = funRun ses_Ask_C 3 22 [(true, [(false, .int .i64), (false, .int .i64), (false, .int .i64), (false, .int .i64), (false, .int .i64), (false, .slice (.pair (.int .i64) (.pair (.int .i64) (.slice (.int .u8))))), (false, .int .i64)])] [(false, [(false, .int .i64)]), (false, [(false, .int .i64)]), (false, [(true, .slice (.int .u8))]), (false, [(false, .bool)])] ses_Ask_un [⟨.int .i64, x0⟩, ⟨.int .i64, x1⟩, ⟨.int .i64, x2⟩, ⟨.int .i64, x3⟩, ⟨.int .i64, x4⟩, ⟨.slice (.pair (.int .i64) (.pair (.int .i64) (.slice (.int .u8)))), x5⟩, ⟨.int .i64, x6⟩] := congrFun (congrFun (congrFun (congrFun (congrFun (congrFun (congrFun (ses_Ask_ex.choose_spec) x0) x1) x2) x3) x4) x5) x6
theorem ses_Ask_eq (x0 : Int) (x1 : Int) (x2 : Int) (x3 : Int) (x4 : Int) (x5 : List (Int × Int × (List Int))) (x6 : Int) : ses_Ask x0 x1 x2 x3 x4 x5 x6 =
  bif ilen x5 == 0
  then some ((0), ((0), (([]), false)))
  else (x5[Int.toNat 0]?).bind fun val2 =>
    (ses_CloneB val2.snd.snd).bind fun val4 =>
      some ((x4), ((val2.fst), ((val4), true))) := (ses_Ask_raw x0 x1 x2 x3 x4 x5 x6).trans (by kernel_rfl)
noncomputable def ses_Ask_sig : Sig := { pm := [(true, [(false, .int .i64), (false, .int .i64), (false, .int .i64), (false, .int .i64), (false, .int .i64), (false, .slice (.pair (.int .i64) (.pair (.int .i64) (.slice (.int .u8))))), (false, .int .i64)])], rm := [(false, [(false, .int .i64)]), (false, [(false, .int .i64)]), (false, [(true, .slice (.int .u8))]), (false, [(false, .bool)])], f := fun | [⟨.int .i64, x0⟩, ⟨.int .i64, x1⟩, ⟨.int .i64, x2⟩, ⟨.int .i64, x3⟩, ⟨.int .i64, x4⟩, ⟨.slice (.pair (.int .i64) (.pair (.int .i64) (.slice (.int .u8)))), x5⟩, ⟨.int .i64, x6⟩] => .yes _ (ses_Ask x0 x1 x2 x3 x4 x5 x6) ses_Ask_mk | _ => .no }
theorem ses_Ask_ok : SigOk Tryd.prog 22 ses_Ask_sig := by
  refine contract_of (C := ses_Ask_C) (d := 3) ⟨S7_ok, noPs⟩ (callable_ex (by kernel_rfl)) ?_
  intro dvs
  unfold ses_Ask_sig
  dsimp only
  split
  · refine .inr ⟨_, ses_Ask_un, ses_Ask_mk, congrArg (fun o => Cl.yes _ o _) (ses_Ask_raw _ _ _ _ _ _ _), ?_⟩
    intro ds x h
    unfold ses_Ask_un at h
    split at h
    · cases h; rfl
    · cases h
  · exact .inl rfl
noncomputable def S8 : List (Nat × Sig) := (22, ses_Ask_sig) :: S7
theorem S8_ok : ListOk Tryd.prog S8 := ListOk.cons S7_ok ses_Ask_ok
noncomputable def ref24_Read_C : Cfg := { P := Tryd.prog, sig := lookSig S0, hb := fun _ _ => none, hr := fun _ _ => none, un := fun f b => bif Nat.beq f 35 && Nat.beq b 1 then 5 else bif Nat.beq f 80 && Nat.beq b 2 then 3 else bif Nat.beq f 80 && Nat.beq b 0 then 3 else bif Nat.beq f 83 && Nat.beq b 0 then 2 else bif Nat.beq f 82 && Nat.beq b 0 then 2 else 0 }
noncomputable def ref24_Read_un : List DV → Option (Int × Int × Int × ByteArray × ByteArray × Int × (List ByteArray) × (List Int) × Int × Int × Int × Int × (List Int) × Int) := fun | [⟨.int .i64, r0⟩, ⟨.int .i64, r1⟩, ⟨.int .i64, r2⟩, ⟨.str, r3⟩, ⟨.str, r4⟩, ⟨.int .i64, r5⟩, ⟨.slice (.str), r6⟩, ⟨.slice (.int .i64), r7⟩, ⟨.int .i64, r8⟩, ⟨.int .i64, r9⟩, ⟨.int .i64, r10⟩, ⟨.int .i64, r11⟩, ⟨.slice (.int .u8), r12⟩, ⟨.int .i64, r13⟩] => some (r0, r1, r2, r3, r4, r5, r6, r7, r8, r9, r10, r11, r12, r13) | _ => none
noncomputable def ref24_Read_mk : (Int × Int × Int × ByteArray × ByteArray × Int × (List ByteArray) × (List Int) × Int × Int × Int × Int × (List Int) × Int) → List DV := fun ⟨r0, r1, r2, r3, r4, r5, r6, r7, r8, r9, r10, r11, r12, r13⟩ => [⟨.int .i64, r0⟩, ⟨.int .i64, r1⟩, ⟨.int .i64, r2⟩, ⟨.str, r3⟩, ⟨.str, r4⟩, ⟨.int .i64, r5⟩, ⟨.slice (.str), r6⟩, ⟨.slice (.int .i64), r7⟩, ⟨.int .i64, r8⟩, ⟨.int .i64, r9⟩, ⟨.int .i64, r10⟩, ⟨.int .i64, r11⟩, ⟨.slice (.int .u8), r12⟩, ⟨.int .i64, r13⟩]
theorem ref24_Read_ex : ∃ f : (List Int) → Option (Int × Int × Int × ByteArray × ByteArray × Int × (List ByteArray) × (List Int) × Int × Int × Int × Int × (List Int) × Int), f = fun (x0 : List Int) => funRun ref24_Read_C 8 24 [(false, [(false, .slice (.int .u8))])] [(true, [(false, .int .i64), (false, .int .i64), (false, .int .i64), (false, .str), (false, .str), (false, .int .i64), (false, .slice (.str)), (false, .slice (.int .i64)), (false, .int .i64), (false, .int .i64), (false, .int .i64), (false, .int .i64), (false, .slice (.int .u8))]), (false, [(false, .int .i64)])] ref24_Read_un [⟨.slice (.int .u8), x0⟩] := ⟨_, rfl⟩
noncomputable def ref24_Read : (List Int) → Option (Int × Int × Int × ByteArray × ByteArray × Int × (List ByteArray) × (List Int) × Int × Int × Int × Int × (List Int) × Int) := ref24_Read_ex.choose
theorem ref24_Read_raw (x0 : List Int) : ref24_Read x0 = funRun ref24_Read_C 8 24 [(false, [(false, .slice (.int .u8))])] [(true, [(false, .int .i64), (false, .int .i64), (false, .int .i64), (false, .str), (false, .str), (false, .int .i64), (false, .slice (.str)), (false, .slice (.int .i64)), (false, .int .i64), (false, .int .i64), (false, .int .i64), (false, .int .i64), (false, .slice (.int .u8))]), (false, [(false, .int .i64)])] ref24_Read_un [⟨.slice (.int .u8), x0⟩] := congrFun (ref24_Read_ex.choose_spec) x0
noncomputable def ref24_Read_sig : Sig := { pm := [(false, [(false, .slice (.int .u8))])], rm := [(true, [(false, .int .i64), (false, .int .i64), (false, .int .i64), (false, .str), (false, .str), (false, .int .i64), (false, .slice (.str)), (false, .slice (.int .i64)), (false, .int .i64), (false, .int .i64), (false, .int .i64), (false, .int .i64), (false, .slice (.int .u8))]), (false, [(false, .int .i64)])], f := fun | [⟨.slice (.int .u8), x0⟩] => .yes _ (ref24_Read x0) ref24_Read_mk | _ => .no }
theorem ref24_Read_ok : SigOk Tryd.prog 24 ref24_Read_sig := by
  refine contract_of (C := ref24_Read_C) (d := 8) ⟨S0_ok, noPs⟩ (callable_ex (by kernel_rfl)) ?_
  intro dvs
  unfold ref24_Read_sig
  dsimp only
  split
  · refine .inr ⟨_, ref24_Read_un, ref24_Read_mk, congrArg (fun o => Cl.yes _ o _) (ref24_Read_raw _), ?_⟩
    intro ds x h
    unfold ref24_Read_un at h
    split at h
    · cases h; rfl
    · cases h
  · exact .inl rfl
noncomputable def S9 : List (Nat × Sig) := (24, ref24_Read_sig) :: S8
theorem S9_ok : ListOk Tryd.prog S9 := ListOk.cons S8_ok ref24_Read_ok
noncomputable def ses_Turn_C : Cfg := { P := Tryd.prog, sig := lookSig S9, hb := fun _ _ => none, hr := fun _ _ => none }
noncomputable def ses_Turn_un : List DV → Option (Int × Int × Int × Int × Int × (List (Int × Int × (List Int))) × Int) := fun | [⟨.int .i64, r0⟩, ⟨.int .i64, r1⟩, ⟨.int .i64, r2⟩, ⟨.int .i64, r3⟩, ⟨.int .i64, r4⟩, ⟨.slice (.pair (.int .i64) (.pair (.int .i64) (.slice (.int .u8)))), r5⟩, ⟨.int .i64, r6⟩] => some (r0, r1, r2, r3, r4, r5, r6) | _ => none
noncomputable def ses_Turn_mk : (Int × Int × Int × Int × Int × (List (Int × Int × (List Int))) × Int) → List DV := fun ⟨r0, r1, r2, r3, r4, r5, r6⟩ => [⟨.int .i64, r0⟩, ⟨.int .i64, r1⟩, ⟨.int .i64, r2⟩, ⟨.int .i64, r3⟩, ⟨.int .i64, r4⟩, ⟨.slice (.pair (.int .i64) (.pair (.int .i64) (.slice (.int .u8)))), r5⟩, ⟨.int .i64, r6⟩]
theorem ses_Turn_ex : ∃ f : (Int) → (Int) → (Int) → (Int) → (Int) → (List (Int × Int × (List Int))) → (Int) → (Int) → Option (Int × Int × Int × Int × Int × (List (Int × Int × (List Int))) × Int), f = fun (x0 : Int) (x1 : Int) (x2 : Int) (x3 : Int) (x4 : Int) (x5 : List (Int × Int × (List Int))) (x6 : Int) (x7 : Int) => funRun ses_Turn_C 3 20 [(true, [(false, .int .i64), (false, .int .i64), (false, .int .i64), (false, .int .i64), (false, .int .i64), (false, .slice (.pair (.int .i64) (.pair (.int .i64) (.slice (.int .u8))))), (false, .int .i64)]), (false, [(false, .int .i64)])] [(true, [(false, .int .i64), (false, .int .i64), (false, .int .i64), (false, .int .i64), (false, .int .i64), (false, .slice (.pair (.int .i64) (.pair (.int .i64) (.slice (.int .u8))))), (false, .int .i64)])] ses_Turn_un [⟨.int .i64, x0⟩, ⟨.int .i64, x1⟩, ⟨.int .i64, x2⟩, ⟨.int .i64, x3⟩, ⟨.int .i64, x4⟩, ⟨.slice (.pair (.int .i64) (.pair (.int .i64) (.slice (.int .u8)))), x5⟩, ⟨.int .i64, x6⟩, ⟨.int .i64, x7⟩] := ⟨_, rfl⟩
noncomputable def ses_Turn : (Int) → (Int) → (Int) → (Int) → (Int) → (List (Int × Int × (List Int))) → (Int) → (Int) → Option (Int × Int × Int × Int × Int × (List (Int × Int × (List Int))) × Int) := ses_Turn_ex.choose
theorem ses_Turn_raw (x0 : Int) (x1 : Int) (x2 : Int) (x3 : Int) (x4 : Int) (x5 : List (Int × Int × (List Int))) (x6 : Int) (x7 : Int) : ses_Turn x0 x1 x2 x3 x4 x5 x6 x7 = funRun ses_Turn_C 3 20 [(true, [(false, .int .i64), (false, .int .i64), (false, .int .i64), (false, .int .i64), (false, .int .i64), (false, .slice (.pair (.int .i64) (.pair (.int .i64) (.slice (.int .u8))))), (false, .int .i64)]), (false, [(false, .int .i64)])] [(true, [(false, .int .i64), (false, .int .i64), (false, .int .i64), (false, .int .i64), (false, .int .i64), (false, .slice (.pair (.int .i64) (.pair (.int .i64) (.slice (.int .u8))))), (false, .int .i64)])] ses_Turn_un [⟨.int .i64, x0⟩, ⟨.int .i64, x1⟩, ⟨.int .i64, x2⟩, ⟨.int .i64, x3⟩, ⟨.int .i64, x4⟩, ⟨.slice (.pair (.int .i64) (.pair (.int .i64) (.slice (.int .u8)))), x5⟩, ⟨.int .i64, x6⟩, ⟨.int .i64, x7⟩] := congrFun (congrFun (congrFun (congrFun (congrFun (congrFun (congrFun (congrFun (ses_Turn_ex.choose_spec) x0) x1) x2) x3) x4) x5) x6) x7
theorem ses_Turn_eq (x0 : Int) (x1 : Int) (x2 : Int) (x3 : Int) (x4 : Int) (x5 : List (Int × Int × (List Int))) (x6 : Int) (x7 : Int) : ses_Turn x0 x1 x2 x3 x4 x5 x6 x7 =
  bif decide (x7 ≥ 1)
  then bif decide (x7 ≤ x2)
    then some ((x0), ((x1), ((x2), ((x3), ((x7), ((x5), (x6)))))))
    else bif decide (x2 = 0)
      then none
      else some ((x0), ((x1), ((x2), ((x3), ((IntKind.i64.wrap (x4.tmod x2 + 1)), ((x5), (x6)))))))
  else bif decide (x2 = 0)
    then none
    else some ((x0), ((x1), ((x2), ((x3), ((IntKind.i64.wrap (x4.tmod x2 + 1)), ((x5), (x6))))))) := (ses_Turn_raw x0 x1 x2 x3 x4 x5 x6 x7).trans (by kernel_rfl)
noncomputable def ses_Turn_sig : Sig := { pm := [(true, [(false, .int .i64), (false, .int .i64), (false, .int .i64), (false, .int .i64), (false, .int .i64), (false, .slice (.pair (.int .i64) (.pair (.int .i64) (.slice (.int .u8))))), (false, .int .i64)]), (false, [(false, .int .i64)])], rm := [(true, [(false, .int .i64), (false, .int .i64), (false, .int .i64), (false, .int .i64), (false, .int .i64), (false, .slice (.pair (.int .i64) (.pair (.int .i64) (.slice (.int .u8))))), (false, .int .i64)])], f := fun | [⟨.int .i64, x0⟩, ⟨.int .i64, x1⟩, ⟨.int .i64, x2⟩, ⟨.int .i64, x3⟩, ⟨.int .i64, x4⟩, ⟨.slice (.pair (.int .i64) (.pair (.int .i64) (.slice (.int .u8)))), x5⟩, ⟨.int .i64, x6⟩, ⟨.int .i64, x7⟩] => .yes _ (ses_Turn x0 x1 x2 x3 x4 x5 x6 x7) ses_Turn_mk | _ => .no }
theorem ses_Turn_ok : SigOk Tryd.prog 20 ses_Turn_sig := by
  refine contract_of (C := ses_Turn_C) (d := 3) ⟨S9_ok, noPs⟩ (callable_ex (by kernel_rfl)) ?_
  intro dvs
  unfold ses_Turn_sig
  dsimp only
  split
  · refine .inr ⟨_, ses_Turn_un, ses_Turn_mk, congrArg (fun o => Cl.yes _ o _) (ses_Turn_raw _ _ _ _ _ _ _ _), ?_⟩
    intro ds x h
    unfold ses_Turn_un at h
    split at h
    · cases h; rfl
    · cases h
  · exact .inl rfl
noncomputable def S10 : List (Nat × Sig) := (20, ses_Turn_sig) :: S9
theorem S10_ok : ListOk Tryd.prog S10 := ListOk.cons S9_ok ses_Turn_ok
noncomputable def ses_CloneJ_C : Cfg := { P := Tryd.prog, sig := lookSig S10, hb := fun _ _ => none, hr := fun _ _ => none }
noncomputable def ses_CloneJ_un : List DV → Option ((List (Int × Int × Int × ByteArray × Int × ByteArray × Int))) := fun | [⟨.slice (.pair (.int .i64) (.pair (.int .i64) (.pair (.int .i64) (.pair (.str) (.pair (.int .i64) (.pair (.str) (.int .i64))))))), r0⟩] => some r0 | _ => none
noncomputable def ses_CloneJ_mk : (List (Int × Int × Int × ByteArray × Int × ByteArray × Int)) → List DV := fun r0 => [⟨.slice (.pair (.int .i64) (.pair (.int .i64) (.pair (.int .i64) (.pair (.str) (.pair (.int .i64) (.pair (.str) (.int .i64))))))), r0⟩]
theorem ses_CloneJ_ex : ∃ f : (List (Int × Int × Int × ByteArray × Int × ByteArray × Int)) → Option ((List (Int × Int × Int × ByteArray × Int × ByteArray × Int))), f = fun (x0 : List (Int × Int × Int × ByteArray × Int × ByteArray × Int)) => avRun ses_CloneJ_C 3 29 [(false, [(true, .slice (.pair (.int .i64) (.pair (.int .i64) (.pair (.int .i64) (.pair (.str) (.pair (.int .i64) (.pair (.str) (.int .i64))))))))])] ses_CloneJ_un [.fz (.pair (.int .i64) (.pair (.int .i64) (.pair (.int .i64) (.pair (.str) (.pair (.int .i64) (.pair (.str) (.int .i64))))))) x0 false true] := ⟨_, rfl⟩
noncomputable def ses_CloneJ : (List (Int × Int × Int × ByteArray × Int × ByteArray × Int)) → Option ((List (Int × Int × Int × ByteArray × Int × ByteArray × Int))) := ses_CloneJ_ex.choose
theorem ses_CloneJ_raw (x0 : List (Int × Int × Int × ByteArray × Int × ByteArray × Int)) : ses_CloneJ x0 = avRun ses_CloneJ_C 3 29 [(false, [(true, .slice (.pair (.int .i64) (.pair (.int .i64) (.pair (.int .i64) (.pair (.str) (.pair (.int .i64) (.pair (.str) (.int .i64))))))))])] ses_CloneJ_un [.fz (.pair (.int .i64) (.pair (.int .i64) (.pair (.int .i64) (.pair (.str) (.pair (.int .i64) (.pair (.str) (.int .i64))))))) x0 false true] := congrFun (ses_CloneJ_ex.choose_spec) x0
theorem ses_CloneJ_eq (x0 : List (Int × Int × Int × ByteArray × Int × ByteArray × Int)) : ses_CloneJ x0 =
  bif decide ((0 + ilen x0) * 72 ≤ room)
  then some ([] ++ x0)
  else none := (ses_CloneJ_raw x0).trans (by kernel_rfl)
theorem ses_CloneJ_nil : avRun ses_CloneJ_C 3 29 [(false, [(true, .slice (.pair (.int .i64) (.pair (.int .i64) (.pair (.int .i64) (.pair (.str) (.pair (.int .i64) (.pair (.str) (.int .i64))))))))])] ses_CloneJ_un [.nils] = some ([]) := by kernel_rfl
noncomputable def ses_CloneJ_sig : Sig := { pm := [(false, [(false, .slice (.pair (.int .i64) (.pair (.int .i64) (.pair (.int .i64) (.pair (.str) (.pair (.int .i64) (.pair (.str) (.int .i64))))))))])], rm := [(false, [(true, .slice (.pair (.int .i64) (.pair (.int .i64) (.pair (.int .i64) (.pair (.str) (.pair (.int .i64) (.pair (.str) (.int .i64))))))))])], f := fun | [⟨.slice (.pair (.int .i64) (.pair (.int .i64) (.pair (.int .i64) (.pair (.str) (.pair (.int .i64) (.pair (.str) (.int .i64))))))), x0⟩] => .yes _ (ses_CloneJ x0) ses_CloneJ_mk | _ => .no }
theorem ses_CloneJ_ok : SigOk Tryd.prog 29 ses_CloneJ_sig := by
  refine contract_slice (C := ses_CloneJ_C) (d := 3) ⟨S10_ok, noPs⟩ rfl (callable_ex (by kernel_rfl)) ?_
  intro dvs
  unfold ses_CloneJ_sig
  dsimp only
  split
  · refine .inr ⟨_, ses_CloneJ_un, ses_CloneJ_mk, _, rfl, congrArg (fun o => Cl.yes _ o _) (ses_CloneJ_raw _), ?_, ?_⟩
    · intro ds x h
      unfold ses_CloneJ_un at h
      split at h
      · cases h; rfl
      · cases h
    · intro x hl ho
      subst hl
      rw [← ses_CloneJ_raw, ses_CloneJ_eq] at ho
      rw [ses_CloneJ_nil]
      simpa [ilen, room] using ho
  · exact .inl rfl
noncomputable def S11 : List (Nat × Sig) := (29, ses_CloneJ_sig) :: S10
theorem S11_ok : ListOk Tryd.prog S11 := ListOk.cons S10_ok ses_CloneJ_ok
noncomputable def ses_Heard_C : Cfg := { P := Tryd.prog, sig := lookSig S11, hb := fun f b =>   bif Nat.beq f 21 && Nat.beq b 0 then some { tmps := [2, 3, 4, 5, 9, 89, 90], obs := [116, 124, 132, 140, 172, 556, 772], nils := [], kl := [772, 172, 556, 156, 140, 132, 124, 116] } else none, hr := fun f b =>   bif Nat.beq f 21 && Nat.beq b 6 then some { tmps := [2, 3, 4, 5, 7], obs := [116, 124, 132, 140, 156], nils := [], kl := [156, 140, 132, 124, 116] } else none }
noncomputable def ses_Heard_un : List DV → Option (Int × Int × Int × Int × Int × (List (Int × Int × (List Int))) × Int × Int × Int × Int × Int × (List (Int × Int × Int × ByteArray × Int × ByteArray × Int)) × Bool) := fun | [⟨.int .i64, r0⟩, ⟨.int .i64, r1⟩, ⟨.int .i64, r2⟩, ⟨.int .i64, r3⟩, ⟨.int .i64, r4⟩, ⟨.slice (.pair (.int .i64) (.pair (.int .i64) (.slice (.int .u8)))), r5⟩, ⟨.int .i64, r6⟩, ⟨.int .i64, r7⟩, ⟨.int .i64, r8⟩, ⟨.int .i64, r9⟩, ⟨.int .i64, r10⟩, ⟨.slice (.pair (.int .i64) (.pair (.int .i64) (.pair (.int .i64) (.pair (.str) (.pair (.int .i64) (.pair (.str) (.int .i64))))))), r11⟩, ⟨.bool, r12⟩] => some (r0, r1, r2, r3, r4, r5, r6, r7, r8, r9, r10, r11, r12) | _ => none
noncomputable def ses_Heard_mk : (Int × Int × Int × Int × Int × (List (Int × Int × (List Int))) × Int × Int × Int × Int × Int × (List (Int × Int × Int × ByteArray × Int × ByteArray × Int)) × Bool) → List DV := fun ⟨r0, r1, r2, r3, r4, r5, r6, r7, r8, r9, r10, r11, r12⟩ => [⟨.int .i64, r0⟩, ⟨.int .i64, r1⟩, ⟨.int .i64, r2⟩, ⟨.int .i64, r3⟩, ⟨.int .i64, r4⟩, ⟨.slice (.pair (.int .i64) (.pair (.int .i64) (.slice (.int .u8)))), r5⟩, ⟨.int .i64, r6⟩, ⟨.int .i64, r7⟩, ⟨.int .i64, r8⟩, ⟨.int .i64, r9⟩, ⟨.int .i64, r10⟩, ⟨.slice (.pair (.int .i64) (.pair (.int .i64) (.pair (.int .i64) (.pair (.str) (.pair (.int .i64) (.pair (.str) (.int .i64))))))), r11⟩, ⟨.bool, r12⟩]
theorem ses_Heard_ex : ∃ f : (Int) → (Int) → (Int) → (Int) → (Int) → (List (Int × Int × (List Int))) → (Int) → (Int) → (Int) → (Int) → (Int) → (Int) → (List (Int × Int × Int × ByteArray × Int × ByteArray × Int)) → Option (Int × Int × Int × Int × Int × (List (Int × Int × (List Int))) × Int × Int × Int × Int × Int × (List (Int × Int × Int × ByteArray × Int × ByteArray × Int)) × Bool), f = fun (x0 : Int) (x1 : Int) (x2 : Int) (x3 : Int) (x4 : Int) (x5 : List (Int × Int × (List Int))) (x6 : Int) (x7 : Int) (x8 : Int) (x9 : Int) (x10 : Int) (x11 : Int) (x12 : List (Int × Int × Int × ByteArray × Int × ByteArray × Int)) => funRun ses_Heard_C 3 21 [(true, [(false, .int .i64), (false, .int .i64), (false, .int .i64), (false, .int .i64), (false, .int .i64), (false, .slice (.pair (.int .i64) (.pair (.int .i64) (.slice (.int .u8))))), (false, .int .i64)]), (true, [(false, .int .i64), (false, .int .i64), (false, .int .i64), (false, .int .i64), (false, .int .i64), (false, .slice (.pair (.int .i64) (.pair (.int .i64) (.pair (.int .i64) (.pair (.str) (.pair (.int .i64) (.pair (.str) (.int .i64))))))))])] [(true, [(false, .int .i64), (false, .int .i64), (false, .int .i64), (false, .int .i64), (false, .int .i64), (false, .slice (.pair (.int .i64) (.pair (.int .i64) (.slice (.int .u8))))), (false, .int .i64)]), (true, [(false, .int .i64), (false, .int .i64), (false, .int .i64), (false, .int .i64), (false, .slice (.pair (.int .i64) (.pair (.int .i64) (.pair (.int .i64) (.pair (.str) (.pair (.int .i64) (.pair (.str) (.int .i64))))))))]), (false, [(false, .bool)])] ses_Heard_un [⟨.int .i64, x0⟩, ⟨.int .i64, x1⟩, ⟨.int .i64, x2⟩, ⟨.int .i64, x3⟩, ⟨.int .i64, x4⟩, ⟨.slice (.pair (.int .i64) (.pair (.int .i64) (.slice (.int .u8)))), x5⟩, ⟨.int .i64, x6⟩, ⟨.int .i64, x7⟩, ⟨.int .i64, x8⟩, ⟨.int .i64, x9⟩, ⟨.int .i64, x10⟩, ⟨.int .i64, x11⟩, ⟨.slice (.pair (.int .i64) (.pair (.int .i64) (.pair (.int .i64) (.pair (.str) (.pair (.int .i64) (.pair (.str) (.int .i64))))))), x12⟩] := ⟨_, rfl⟩
noncomputable def ses_Heard : (Int) → (Int) → (Int) → (Int) → (Int) → (List (Int × Int × (List Int))) → (Int) → (Int) → (Int) → (Int) → (Int) → (Int) → (List (Int × Int × Int × ByteArray × Int × ByteArray × Int)) → Option (Int × Int × Int × Int × Int × (List (Int × Int × (List Int))) × Int × Int × Int × Int × Int × (List (Int × Int × Int × ByteArray × Int × ByteArray × Int)) × Bool) := ses_Heard_ex.choose
theorem ses_Heard_raw (x0 : Int) (x1 : Int) (x2 : Int) (x3 : Int) (x4 : Int) (x5 : List (Int × Int × (List Int))) (x6 : Int) (x7 : Int) (x8 : Int) (x9 : Int) (x10 : Int) (x11 : Int) (x12 : List (Int × Int × Int × ByteArray × Int × ByteArray × Int)) : ses_Heard x0 x1 x2 x3 x4 x5 x6 x7 x8 x9 x10 x11 x12 = funRun ses_Heard_C 3 21 [(true, [(false, .int .i64), (false, .int .i64), (false, .int .i64), (false, .int .i64), (false, .int .i64), (false, .slice (.pair (.int .i64) (.pair (.int .i64) (.slice (.int .u8))))), (false, .int .i64)]), (true, [(false, .int .i64), (false, .int .i64), (false, .int .i64), (false, .int .i64), (false, .int .i64), (false, .slice (.pair (.int .i64) (.pair (.int .i64) (.pair (.int .i64) (.pair (.str) (.pair (.int .i64) (.pair (.str) (.int .i64))))))))])] [(true, [(false, .int .i64), (false, .int .i64), (false, .int .i64), (false, .int .i64), (false, .int .i64), (false, .slice (.pair (.int .i64) (.pair (.int .i64) (.slice (.int .u8))))), (false, .int .i64)]), (true, [(false, .int .i64), (false, .int .i64), (false, .int .i64), (false, .int .i64), (false, .slice (.pair (.int .i64) (.pair (.int .i64) (.pair (.int .i64) (.pair (.str) (.pair (.int .i64) (.pair (.str) (.int .i64))))))))]), (false, [(false, .bool)])] ses_Heard_un [⟨.int .i64, x0⟩, ⟨.int .i64, x1⟩, ⟨.int .i64, x2⟩, ⟨.int .i64, x3⟩, ⟨.int .i64, x4⟩, ⟨.slice (.pair (.int .i64) (.pair (.int .i64) (.slice (.int .u8)))), x5⟩, ⟨.int .i64, x6⟩, ⟨.int .i64, x7⟩, ⟨.int .i64, x8⟩, ⟨.int .i64, x9⟩, ⟨.int .i64, x10⟩, ⟨.int .i64, x11⟩, ⟨.slice (.pair (.int .i64) (.pair (.int .i64) (.pair (.int .i64) (.pair (.str) (.pair (.int .i64) (.pair (.str) (.int .i64))))))), x12⟩] := congrFun (congrFun (congrFun (congrFun (congrFun (congrFun (congrFun (congrFun (congrFun (congrFun (congrFun (congrFun (congrFun (ses_Heard_ex.choose_spec) x0) x1) x2) x3) x4) x5) x6) x7) x8) x9) x10) x11) x12
noncomputable def ses_Heard_r6 (y0 : Int) (y1 : Int) (y2 : Int) (y3 : Int) (y4 : Int) (y5 : List ((Int) × ((Int) × (List (Int))))) (y6 : Int) (y7 : Int) (y8 : Int) (y9 : Int) (y10 : Int) (y11 : Int) (y12 : List ((Int) × ((Int) × ((Int) × ((ByteArray) × ((Int) × ((ByteArray) × (Int)))))))) (y13 : Int) (y14 : Int) (y15 : Int) (y16 : Int) (y17 : Int) (y18 : Int) (y19 : Int) (y20 : Int) (y21 : Int) (y22 : Int) (y23 : Int) (y24 : Int) (y25 : Int) (y26 : Int) (y27 : List ((Int) × ((Int) × ((Int) × ((ByteArray) × ((Int) × ((ByteArray) × (Int)))))))) : Option (Int × Int × Int × Int × Int × (List (Int × Int × (List Int))) × Int × Int × Int × Int × Int × (List (Int × Int × Int × ByteArray × Int × ByteArray × Int)) × Bool) := regAt ses_Heard_C 3 21 [(true, [(false, .int .i64), (false, .int .i64), (false, .int .i64), (false, .int .i64), (false, .int .i64), (false, .slice (.pair (.int .i64) (.pair (.int .i64) (.slice (.int .u8))))), (false, .int .i64)]), (true, [(false, .int .i64), (false, .int .i64), (false, .int .i64), (false, .int .i64), (false, .slice (.pair (.int .i64) (.pair (.int .i64) (.pair (.int .i64) (.pair (.str) (.pair (.int .i64) (.pair (.str) (.int .i64))))))))]), (false, [(false, .bool)])] ses_Heard_un [true, true, true, true, false] (St.ofLists [(2, .ptr 116 0), (3, .ptr 124 0), (4, .ptr 132 0), (5, .ptr 140 0), (7, .ptr 156 0)] [(116, some (.cells [.int .i64 y0, .int .i64 y1, .int .i64 y2, .int .i64 y3, .int .i64 y4, .fz ((Ty.int IntKind.i64).pair ((Ty.int IntKind.i64).pair (Ty.int IntKind.u8).slice)) y5 false false, .int .i64 y6])), (124, some (.cells [.int .i64 y7, .int .i64 y8, .int .i64 y9, .int .i64 y10, .int .i64 y11, .fz ((Ty.int IntKind.i64).pair ((Ty.int IntKind.i64).pair ((Ty.int IntKind.i64).pair (Ty.str.pair ((Ty.int IntKind.i64).pair (Ty.str.pair (Ty.int IntKind.i64))))))) y12 false false])), (132, some (.cells [.int .i64 y13, .int .i64 y14, .int .i64 y15, .int .i64 y16, .int .i64 y17, .nils, .int .i64 y18])), (140, some (.cells [.int .i64 y19, .int .i64 y20, .int .i64 y21, .int .i64 y22, .nils])), (156, some (.cells [.int .i64 y23, .int .i64 y24, .int .i64 y25, .int .i64 y26, .fz ((Ty.int IntKind.i64).pair ((Ty.int IntKind.i64).pair ((Ty.int IntKind.i64).pair (Ty.str.pair ((Ty.int IntKind.i64).pair (Ty.str.pair (Ty.int IntKind.i64))))))) y27 false false]))] [156, 140, 132, 124, 116])
noncomputable def ses_Heard_l0 (y0 : Int) (y1 : Int) (y2 : Int) (y3 : Int) (y4 : Int) (y5 : Int) (y6 : Int) (y7 : Int) (y8 : Int) (y9 : Int) (y10 : Int) (y11 : Int) (y12 : Int) (y13 : List ((Int) × ((Int) × ((Int) × ((ByteArray) × ((Int) × ((ByteArray) × (Int)))))))) (y14 : Int) (y15 : Int) (y16 : Int) (y17 : Int) (y18 : Int) (y19 : Int) (y20 : Int) (y21 : Int) (y22 : Int) (y23 : Int) (y24 : Int) (y25 : Int) (y26 : Int) (y27 : Int) (y28 : List ((Int) × ((Int) × (List (Int))))) (y29 : List ((Int) × ((Int) × ((Int) × ((ByteArray) × ((Int) × ((ByteArray) × (Int)))))))) : Option (Int × Int × Int × Int × Int × (List (Int × Int × (List Int))) × Int × Int × Int × Int × Int × (List (Int × Int × Int × ByteArray × Int × ByteArray × Int)) × Bool) := loopAt ses_Heard_C 3 21 [(true, [(false, .int .i64), (false, .int .i64), (false, .int .i64), (false, .int .i64), (false, .int .i64), (false, .slice (.pair (.int .i64) (.pair (.int .i64) (.slice (.int .u8))))), (false, .int .i64)]), (true, [(false, .int .i64), (false, .int .i64), (false, .int .i64), (false, .int .i64), (false, .slice (.pair (.int .i64) (.pair (.int .i64) (.pair (.int .i64) (.pair (.str) (.pair (.int .i64) (.pair (.str) (.int .i64))))))))]), (false, [(false, .bool)])] ses_Heard_un [true, true, true, true, true, true, true, true, true, false, true, false, true, true, false] (St.ofLists [(2, .ptr 116 0), (3, .ptr 124 0), (4, .ptr 132 0), (5, .ptr 140 0), (9, .ptr 172 0), (89, .int .i64 y0), (90, .int .i64 y1)] [(116, some (.cells [.int .i64 y2, .int .i64 y3, .int .i64 y4, .int .i64 y5, .int .i64 y6, .ow 556, .int .i64 y7])), (124, some (.cells [.int .i64 y8, .int .i64 y9, .int .i64 y10, .int .i64 y11, .int .i64 y12, .fz ((Ty.int IntKind.i64).pair ((Ty.int IntKind.i64).pair ((Ty.int IntKind.i64).pair (Ty.str.pair ((Ty.int IntKind.i64).pair (Ty.str.pair (Ty.int IntKind.i64))))))) y13 false false])), (132, some (.cells [.int .i64 y14, .int .i64 y15, .int .i64 y16, .int .i64 y17, .int .i64 y18, .nils, .int .i64 y19])), (140, some (.cells [.int .i64 y20, .int .i64 y21, .int .i64 y22, .int .i64 y23, .nils])), (172, some (.cells [.int .i64 y24, .int .i64 y25, .int .i64 y26, .int .i64 y27, .ow 772])), (556, some (.row ((Ty.int IntKind.i64).pair ((Ty.int IntKind.i64).pair (Ty.int IntKind.u8).slice)) y28 0 false)), (772, some (.row ((Ty.int IntKind.i64).pair ((Ty.int IntKind.i64).pair ((Ty.int IntKind.i64).pair (Ty.str.pair ((Ty.int IntKind.i64).pair (Ty.str.pair (Ty.int IntKind.i64))))))) y29 0 false))] [772, 172, 556, 156, 140, 132, 124, 116])
theorem ses_Heard_eq (x0 : Int) (x1 : Int) (x2 : Int) (x3 : Int) (x4 : Int) (x5 : List (Int × Int × (List Int))) (x6 : Int) (x7 : Int) (x8 : Int) (x9 : Int) (x10 : Int) (x11 : Int) (x12 : List (Int × Int × Int × ByteArray × Int × ByteArray × Int)) : ses_Heard x0 x1 x2 x3 x4 x5 x6 x7 x8 x9 x10 x11 x12 =
  bif ilen x5 == 0
  then some ((x0), ((x1), ((x2), ((x3), ((x4), ((x5), ((x6), ((0), ((0), ((0), ((0), (([]), false))))))))))))
  else (x5[Int.toNat 0]?).bind fun val2 =>
    bif val2.fst != x7
      then some ((x0), ((x1), ((x2), ((x3), ((x4), ((x5), ((x6), ((0), ((0), ((0), ((0), (([]), false))))))))))))
      else bif x8 != x0
        then some ((x0), ((x1), ((x2), ((x3), ((x4), ((x5), ((x6), ((0), ((0), ((0), ((0), (([]), false))))))))))))
        else (x5[Int.toNat 0]?).bind fun val8 =>
          bif x9 != val8.snd.fst
            then some ((x0), ((x1), ((x2), ((x3), ((x4), ((x5), ((x6), ((0), ((0), ((0), ((0), (([]), false))))))))))))
            else bif x6 == 0
              then ses_Heard_r6 (x0) (x1) (x2) (x3) (x4) (x5) (x10) (x7) (x8) (x9) (x10) (x11) (x12) (0) (0) (0) (0) (0) (0) (0) (0) (0) (0) (x8) (x9) (x10) (x11) (x12)
              else ses_Heard_r6 (x0) (x1) (x2) (x3) (x4) (x5) (x6) (x7) (x8) (x9) (x10) (x11) (x12) (0) (0) (0) (0) (0) (0) (0) (0) (0) (0) (x8) (x9) (x10) (x11) (x12) := (ses_Heard_raw x0 x1 x2 x3 x4 x5 x6 x7 x8 x9 x10 x11 x12).trans (by kernel_rfl)
theorem ses_Heard_r6_eq (y0 : Int) (y1 : Int) (y2 : Int) (y3 : Int) (y4 : Int) (y5 : List ((Int) × ((Int) × (List (Int))))) (y6 : Int) (y7 : Int) (y8 : Int) (y9 : Int) (y10 : Int) (y11 : Int) (y12 : List ((Int) × ((Int) × ((Int) × ((ByteArray) × ((Int) × ((ByteArray) × (Int)))))))) (y13 : Int) (y14 : Int) (y15 : Int) (y16 : Int) (y17 : Int) (y18 : Int) (y19 : Int) (y20 : Int) (y21 : Int) (y22 : Int) (y23 : Int) (y24 : Int) (y25 : Int) (y26 : Int) (y27 : List ((Int) × ((Int) × ((Int) × ((ByteArray) × ((Int) × ((ByteArray) × (Int)))))))) : ses_Heard_r6 y0 y1 y2 y3 y4 y5 y6 y7 y8 y9 y10 y11 y12 y13 y14 y15 y16 y17 y18 y19 y20 y21 y22 y23 y24 y25 y26 y27 =
  bif decide (IntKind.i64.wrap (ilen y5 - 1) = IntKind.i64.wrap (ilen y5 - 1))
  then bif decide (0 ≤ IntKind.i64.wrap (ilen y5 - 1))
    then bif decide (IntKind.i64.wrap (ilen y5 - 1) * 40 ≤ room ∧ IntKind.i64.wrap (ilen y5 - 1) ≤ room)
      then bif decide (1 ≤ ilen y5)
        then bif decide (ilen y5 ≤ ilen y5)
          then bif decide (ilen (List.take (List.replicate (IntKind.i64.wrap (ilen y5 - 1)).toNat (zeroOf ((Ty.int IntKind.i64).pair ((Ty.int IntKind.i64).pair (Ty.int IntKind.u8).slice)))).length (List.drop (Int.toNat 1) (List.take (ilen y5).toNat y5)) ++ List.drop (List.drop (Int.toNat 1) (List.take (ilen y5).toNat y5)).length (List.replicate (IntKind.i64.wrap (ilen y5 - 1)).toNat (zeroOf ((Ty.int IntKind.i64).pair ((Ty.int IntKind.i64).pair (Ty.int IntKind.u8).slice))))) > 0)
            then some ((y0), ((y1), ((y2), ((y3), ((y4), ((List.take (List.replicate (IntKind.i64.wrap (ilen y5 - 1)).toNat (zeroOf ((Ty.int IntKind.i64).pair ((Ty.int IntKind.i64).pair (Ty.int IntKind.u8).slice)))).length (List.drop (Int.toNat 1) (List.take (ilen y5).toNat y5)) ++ List.drop (List.drop (Int.toNat 1) (List.take (ilen y5).toNat y5)).length (List.replicate (IntKind.i64.wrap (ilen y5 - 1)).toNat (zeroOf ((Ty.int IntKind.i64).pair ((Ty.int IntKind.i64).pair (Ty.int IntKind.u8).slice))))), ((y6), ((0), ((0), ((0), ((0), (([]), false))))))))))))
            else bif y6 == 0
              then (ses_CloneJ y27).bind fun val14 =>
                ses_Heard_l0 (ilen val14) (0) (y0) (y1) (y2) (y3) (y4) (y6) (y7) (y8) (y9) (y10) (y11) (y12) (y13) (y14) (y15) (y16) (y17) (y18) (y19) (y20) (y21) (y22) (y23) (y24) (y6) (y26) (List.take (List.replicate (IntKind.i64.wrap (ilen y5 - 1)).toNat (zeroOf ((Ty.int IntKind.i64).pair ((Ty.int IntKind.i64).pair (Ty.int IntKind.u8).slice)))).length (List.drop (Int.toNat 1) (List.take (ilen y5).toNat y5)) ++ List.drop (List.drop (Int.toNat 1) (List.take (ilen y5).toNat y5)).length (List.replicate (IntKind.i64.wrap (ilen y5 - 1)).toNat (zeroOf ((Ty.int IntKind.i64).pair ((Ty.int IntKind.i64).pair (Ty.int IntKind.u8).slice))))) (val14)
              else some ((y0), ((y1), ((y2), ((y3), ((y4), ((List.take (List.replicate (IntKind.i64.wrap (ilen y5 - 1)).toNat (zeroOf ((Ty.int IntKind.i64).pair ((Ty.int IntKind.i64).pair (Ty.int IntKind.u8).slice)))).length (List.drop (Int.toNat 1) (List.take (ilen y5).toNat y5)) ++ List.drop (List.drop (Int.toNat 1) (List.take (ilen y5).toNat y5)).length (List.replicate (IntKind.i64.wrap (ilen y5 - 1)).toNat (zeroOf ((Ty.int IntKind.i64).pair ((Ty.int IntKind.i64).pair (Ty.int IntKind.u8).slice))))), ((0), ((y23), ((y24), ((y6), ((0), (([]), true))))))))))))
          else none
        else none
      else none
    else none
  else none := (regAt_step _ _ _ _ _ _ _).trans (by kernel_rfl)
theorem ses_Heard_l0_eq (y0 : Int) (y1 : Int) (y2 : Int) (y3 : Int) (y4 : Int) (y5 : Int) (y6 : Int) (y7 : Int) (y8 : Int) (y9 : Int) (y10 : Int) (y11 : Int) (y12 : Int) (y13 : List ((Int) × ((Int) × ((Int) × ((ByteArray) × ((Int) × ((ByteArray) × (Int)))))))) (y14 : Int) (y15 : Int) (y16 : Int) (y17 : Int) (y18 : Int) (y19 : Int) (y20 : Int) (y21 : Int) (y22 : Int) (y23 : Int) (y24 : Int) (y25 : Int) (y26 : Int) (y27 : Int) (y28 : List ((Int) × ((Int) × (List (Int))))) (y29 : List ((Int) × ((Int) × ((Int) × ((ByteArray) × ((Int) × ((ByteArray) × (Int)))))))) : ses_Heard_l0 y0 y1 y2 y3 y4 y5 y6 y7 y8 y9 y10 y11 y12 y13 y14 y15 y16 y17 y18 y19 y20 y21 y22 y23 y24 y25 y26 y27 y28 y29 =
  bif decide (y1 < y0)
  then bif decide (0 ≤ y1)
    then bif decide (y1 < ilen y29)
      then (y29[y1.toNat]?).bind fun val6 =>
        (ses_Global y8 val6.fst).bind fun val8 =>
          (y29[y1.toNat]?).bind fun val10 =>
            ((y29.set y1.toNat (val8.1, val10.snd))[y1.toNat]?).bind fun val12 =>
              (ses_Global y8 val12.snd.fst).bind fun val14 =>
                ((y29.set y1.toNat (val8.1, val10.snd))[y1.toNat]?).bind fun val16 =>
                  ses_Heard_l0 (y0) (IntKind.i64.wrap (y1 + 1)) (y2) (y3) (y4) (y5) (y6) (y7) (y8) (y9) (y10) (y11) (y12) (y13) (y14) (y15) (y16) (y17) (y18) (y19) (y20) (y21) (y22) (y23) (y24) (y25) (y26) (y27) (y28) ((y29.set y1.toNat (val8.1, val10.snd)).set y1.toNat (val16.fst, val14.1, val16.snd.snd))
      else none
    else none
  else some ((y2), ((y3), ((y4), ((y5), ((y6), ((y28), ((0), ((y24), ((y25), ((y26), ((y27), ((y29), true)))))))))))) := (loopAt_step _ _ _ _ _ _ _).trans (by kernel_rfl)
noncomputable def ses_Heard_sig : Sig := { pm := [(true, [(false, .int .i64), (false, .int .i64), (false, .int .i64), (false, .int .i64), (false, .int .i64), (false, .slice (.pair (.int .i64) (.pair (.int .i64) (.slice (.int .u8))))), (false, .int .i64)]), (true, [(false, .int .i64), (false, .int .i64), (false, .int .i64), (false, .int .i64), (false, .int .i64), (false, .slice (.pair (.int .i64) (.pair (.int .i64) (.pair (.int .i64) (.pair (.str) (.pair (.int .i64) (.pair (.str) (.int .i64))))))))])], rm := [(true, [(false, .int .i64), (false, .int .i64), (false, .int .i64), (false, .int .i64), (false, .int .i64), (false, .slice (.pair (.int .i64) (.pair (.int .i64) (.slice (.int .u8))))), (false, .int .i64)]), (true, [(false, .int .i64), (false, .int .i64), (false, .int .i64), (false, .int .i64), (false, .slice (.pair (.int .i64) (.pair (.int .i64) (.pair (.int .i64) (.pair (.str) (.pair (.int .i64) (.pair (.str) (.int .i64))))))))]), (false, [(false, .bool)])], f := fun | [⟨.int .i64, x0⟩, ⟨.int .i64, x1⟩, ⟨.int .i64, x2⟩, ⟨.int .i64, x3⟩, ⟨.int .i64, x4⟩, ⟨.slice (.pair (.int .i64) (.pair (.int .i64) (.slice (.int .u8)))), x5⟩, ⟨.int .i64, x6⟩, ⟨.int .i64, x7⟩, ⟨.int .i64, x8⟩, ⟨.int .i64, x9⟩, ⟨.int .i64, x10⟩, ⟨.int .i64, x11⟩, ⟨.slice (.pair (.int .i64) (.pair (.int .i64) (.pair (.int .i64) (.pair (.str) (.pair (.int .i64) (.pair (.str) (.int .i64))))))), x12⟩] => .yes _ (ses_Heard x0 x1 x2 x3 x4 x5 x6 x7 x8 x9 x10 x11 x12) ses_Heard_mk | _ => .no }
theorem ses_Heard_ok : SigOk Tryd.prog 21 ses_Heard_sig := by
  refine contract_of (C := ses_Heard_C) (d := 3) ⟨S11_ok, noPs⟩ (callable_ex (by kernel_rfl)) ?_
  intro dvs
  unfold ses_Heard_sig
  dsimp only
  split
  · refine .inr ⟨_, ses_Heard_un, ses_Heard_mk, congrArg (fun o => Cl.yes _ o _) (ses_Heard_raw _ _ _ _ _ _ _ _ _ _ _ _ _), ?_⟩
    intro ds x h
    unfold ses_Heard_un at h
    split at h
    · cases h; rfl
    · cases h
  · exact .inl rfl
noncomputable def S12 : List (Nat × Sig) := (21, ses_Heard_sig) :: S11
theorem S12_ok : ListOk Tryd.prog S12 := ListOk.cons S11_ok ses_Heard_ok
noncomputable def ses_Check_C : Cfg := { P := Tryd.prog, sig := lookSig S12, hb := fun f b =>   bif Nat.beq f 16 && Nat.beq b 0 then some { tmps := [1, 59, 60, 61], obs := [108], nils := [], kl := [124, 212, 108, 148] } else none, hr := fun _ _ => none }
noncomputable def ses_Check_un : List DV → Option (Int) := fun | [⟨.int .i64, r0⟩] => some r0 | _ => none
noncomputable def ses_Check_mk : Int → List DV := fun r0 => [⟨.int .i64, r0⟩]
theorem ses_Check_ex : ∃ f : (Int) → (Int) → (Int) → (Int) → (Int) → (List (Int × Int × (List Int))) → (Int) → Option (Int), f = fun (x0 : Int) (x1 : Int) (x2 : Int) (x3 : Int) (x4 : Int) (x5 : List (Int × Int × (List Int))) (x6 : Int) => funRun ses_Check_C 3 16 [(true, [(false, .int .i64), (false, .int .i64), (false, .int .i64), (false, .int .i64), (false, .int .i64), (false, .slice (.pair (.int .i64) (.pair (.int .i64) (.slice (.int .u8))))), (false, .int .i64)])] [(false, [(false, .int .i64)])] ses_Check_un [⟨.int .i64, x0⟩, ⟨.int .i64, x1⟩, ⟨.int .i64, x2⟩, ⟨.int .i64, x3⟩, ⟨.int .i64, x4⟩, ⟨.slice (.pair (.int .i64) (.pair (.int .i64) (.slice (.int .u8)))), x5⟩, ⟨.int .i64, x6⟩] := ⟨_, rfl⟩
noncomputable def ses_Check : (Int) → (Int) → (Int) → (Int) → (Int) → (List (Int × Int × (List Int))) → (Int) → Option (Int) := ses_Check_ex.choose
theorem ses_Check_raw (x0 : Int) (x1 : Int) (x2 : Int) (x3 : Int) (x4 : Int) (x5 : List (Int × Int × (List Int))) (x6 : Int) : ses_Check x0 x1 x2 x3 x4 x5 x6 = funRun ses_Check_C 3 16 [(true, [(false, .int .i64), (false, .int .i64), (false, .int .i64), (false, .int .i64), (false, .int .i64), (false, .slice (.pair (.int .i64) (.pair (.int .i64) (.slice (.int .u8))))), (false, .int .i64)])] [(false, [(false, .int .i64)])] ses_Check_un [⟨.int .i64, x0⟩, ⟨.int .i64, x1⟩, ⟨.int .i64, x2⟩, ⟨.int .i64, x3⟩, ⟨.int .i64, x4⟩, ⟨.slice (.pair (.int .i64) (.pair (.int .i64) (.slice (.int .u8)))), x5⟩, ⟨.int .i64, x6⟩] := congrFun (congrFun (congrFun (congrFun (congrFun (congrFun (congrFun (ses_Check_ex.choose_spec) x0) x1) x2) x3) x4) x5) x6
noncomputable def ses_Check_l0 (y0 : List ((Int) × ((Int) × (List (Int))))) (y1 : Int) (y2 : Int) (y3 : Int) (y4 : Int) (y5 : Int) (y6 : Int) (y7 : Int) (y8 : List ((Int) × ((Int) × (List (Int))))) (y9 : Int) : Option (Int) := loopAt ses_Check_C 3 16 [(false, [(false, .int .i64)])] ses_Check_un [true, true, true, false, true, false] (St.ofLists [(1, .ptr 108 0), (59, .fz ((Ty.int IntKind.i64).pair ((Ty.int IntKind.i64).pair (Ty.int IntKind.u8).slice)) y0 false false), (60, .int .i64 y1), (61, .int .i64 y2)] [(108, some (.cells [.int .i64 y3, .int .i64 y4, .int .i64 y5, .int .i64 y6, .int .i64 y7, .fz ((Ty.int IntKind.i64).pair ((Ty.int IntKind.i64).pair (Ty.int IntKind.u8).slice)) y8 false false, .int .i64 y9]))] [124, 212, 108, 148])
theorem ses_Check_eq (x0 : Int) (x1 : Int) (x2 : Int) (x3 : Int) (x4 : Int) (x5 : List (Int × Int × (List Int))) (x6 : Int) : ses_Check x0 x1 x2 x3 x4 x5 x6 =
  (ses_New x0 x2 x3).bind fun val0 =>
  bif val0.2.2.2.2.2.2.2 != 0
    then some (val0.2.2.2.2.2.2.2)
    else bif decide (x1 < 0)
      then some (1)
      else bif decide (x1 > 1099511627776)
        then some (1)
        else bif decide (x4 < 1)
          then some (1)
          else bif decide (x4 > x2)
            then some (1)
            else bif decide (ilen x5 > x3)
              then some (1)
              else bif decide (x6 < 0)
                then some (1)
                else bif decide (x6 > 17)
                  then some (1)
                  else ses_Check_l0 (x5) (ilen x5) (0) (x0) (x1) (x2) (x3) (x4) (x5) (x6) := (ses_Check_raw x0 x1 x2 x3 x4 x5 x6).trans (by kernel_rfl)
theorem ses_Check_l0_eq (y0 : List ((Int) × ((Int) × (List (Int))))) (y1 : Int) (y2 : Int) (y3 : Int) (y4 : Int) (y5 : Int) (y6 : Int) (y7 : Int) (y8 : List ((Int) × ((Int) × (List (Int))))) (y9 : Int) : ses_Check_l0 y0 y1 y2 y3 y4 y5 y6 y7 y8 y9 =
  bif decide (y2 < y1)
  then bif decide (0 ≤ y2)
    then (y0[y2.toNat]?).bind fun val4 =>
      bif decide (val4.fst < 0)
        then some (1)
        else bif decide (val4.fst ≥ y6)
          then some (1)
          else bif val4.snd.fst != IntKind.i64.wrap (IntKind.i64.wrap (IntKind.i64.wrap (y4 - ilen y8) + 1) + y2)
            then some (1)
            else bif decide (val4.snd.fst < 1)
              then some (1)
              else ses_Check_l0 (y0) (y1) (IntKind.i64.wrap (y2 + 1)) (y3) (y4) (y5) (y6) (y7) (y8) (y9)
    else none
  else some (0) := (loopAt_step _ _ _ _ _ _ _).trans (by kernel_rfl)
noncomputable def ses_Check_sig : Sig := { pm := [(true, [(false, .int .i64), (false, .int .i64), (false, .int .i64), (false, .int .i64), (false, .int .i64), (false, .slice (.pair (.int .i64) (.pair (.int .i64) (.slice (.int .u8))))), (false, .int .i64)])], rm := [(false, [(false, .int .i64)])], f := fun | [⟨.int .i64, x0⟩, ⟨.int .i64, x1⟩, ⟨.int .i64, x2⟩, ⟨.int .i64, x3⟩, ⟨.int .i64, x4⟩, ⟨.slice (.pair (.int .i64) (.pair (.int .i64) (.slice (.int .u8)))), x5⟩, ⟨.int .i64, x6⟩] => .yes _ (ses_Check x0 x1 x2 x3 x4 x5 x6) ses_Check_mk | _ => .no }
theorem ses_Check_ok : SigOk Tryd.prog 16 ses_Check_sig := by
  refine contract_of (C := ses_Check_C) (d := 3) ⟨S12_ok, noPs⟩ (callable_ex (by kernel_rfl)) ?_
  intro dvs
  unfold ses_Check_sig
  dsimp only
  split
  · refine .inr ⟨_, ses_Check_un, ses_Check_mk, congrArg (fun o => Cl.yes _ o _) (ses_Check_raw _ _ _ _ _ _ _), ?_⟩
    intro ds x h
    unfold ses_Check_un at h
    split at h
    · cases h; rfl
    · cases h
  · exact .inl rfl
noncomputable def S13 : List (Nat × Sig) := (16, ses_Check_sig) :: S12
theorem S13_ok : ListOk Tryd.prog S13 := ListOk.cons S12_ok ses_Check_ok
noncomputable def law29_works_C : Cfg := { P := Tryd.prog, sig := lookSig S13, hb := fun _ _ => none, hr := fun _ _ => none }
noncomputable def law29_works_un : List DV → Option (Bool) := fun | [⟨.bool, r0⟩] => some r0 | _ => none
noncomputable def law29_works_mk : Bool → List DV := fun r0 => [⟨.bool, r0⟩]
theorem law29_works_ex : ∃ f : Option (Bool), f = funRun law29_works_C 3 11 [] [(false, [(false, .bool)])] law29_works_un [] := ⟨_, rfl⟩
noncomputable def law29_works : Option (Bool) := law29_works_ex.choose
theorem law29_works_raw  : law29_works = funRun law29_works_C 3 11 [] [(false, [(false, .bool)])] law29_works_un [] := law29_works_ex.choose_spec
theorem law29_works_eq  : law29_works =
  (ses_New 5 3 2).bind fun val0 =>
  (ses_OpenW val0.1 val0.2.1 val0.2.2.1 val0.2.2.2.1 val0.2.2.2.2.1 val0.2.2.2.2.2.1 val0.2.2.2.2.2.2.1 10 0 0 (⟨#[]⟩ : ByteArray) (⟨#[]⟩ : ByteArray) 0 [] [] 129 0 0 0 []).bind fun val2 =>
    (ses_Ask val2.1 val2.2.1 val2.2.2.1 val2.2.2.2.1 val2.2.2.2.2.1 val2.2.2.2.2.2.1 val2.2.2.2.2.2.2.1).bind fun val4 =>
      (ref24_Read val4.2.2.1).bind fun val6 =>
        (ses_Turn val2.1 val2.2.1 val2.2.2.1 val2.2.2.2.1 val2.2.2.2.2.1 val2.2.2.2.2.2.1 val2.2.2.2.2.2.2.1 0).bind fun val8 =>
          (ses_Heard val8.1 val8.2.1 val8.2.2.1 val8.2.2.2.1 val8.2.2.2.2.1 val8.2.2.2.2.2.1 val8.2.2.2.2.2.2 0 5 1 0 0 []).bind fun val10 =>
            (ses_Heard val10.1 val10.2.1 val10.2.2.1 val10.2.2.2.1 val10.2.2.2.2.1 val10.2.2.2.2.2.1 val10.2.2.2.2.2.2.1 1 5 1 9 0 []).bind fun val12 =>
              (ses_Global 1 2).bind fun val14 =>
                (ses_Local val14.1).bind fun val16 =>
                  bif val0.2.2.2.2.2.2.2 == 0
                    then bif val2.2.2.2.2.2.2.2 == 0
                      then bif val4.1 == 1
                        then bif val4.2.1 == 1
                          then bif val4.2.2.2
                            then bif val6.2.2.2.2.2.2.2.2.2.2.2.2.2 == 0
                              then bif val6.2.2.2.2.2.2.2.2.1 == 2
                                then bif val6.2.1 == 5
                                  then bif val12.2.2.2.2.1 == 2
                                    then bif !val10.2.2.2.2.2.2.2.2.2.2.2.2
                                      then bif val12.2.2.2.2.2.2.2.2.2.2.2.2
                                        then bif val12.2.2.2.2.2.2.2.2.2.1 == 9
                                          then bif val14.1 == 129
                                            then bif val14.2 == 0
                                              then bif val16.1 == 1
                                                then bif val16.2.1 == 2
                                                  then bif val16.2.2 == 0
                                                    then (ses_Check val12.1 val12.2.1 val12.2.2.1 val12.2.2.2.1 val12.2.2.2.2.1 val12.2.2.2.2.2.1 val12.2.2.2.2.2.2.1).bind fun val52 =>
                                                      bif val52 == 0
                                                        then some (ilen val12.2.2.2.2.2.1 == 0)
                                                        else some false
                                                    else some false
                                                  else some false
                                                else some false
                                              else some false
                                            else some false
                                          else some false
                                        else some false
                                      else some false
                                    else some false
                                  else some false
                                else some false
                              else some false
                            else some false
                          else some false
                        else some false
                      else some false
                    else some false := (law29_works_raw).trans (by kernel_rfl)
noncomputable def law29_works_sig : Sig := { pm := [], rm := [(false, [(false, .bool)])], f := fun | [] => .yes _ (law29_works) law29_works_mk | _ => .no }
theorem law29_works_ok : SigOk Tryd.prog 11 law29_works_sig := by
  refine contract_of (C := law29_works_C) (d := 3) ⟨S13_ok, noPs⟩ (callable_ex (by kernel_rfl)) ?_
  intro dvs
  unfold law29_works_sig
  dsimp only
  split
  · refine .inr ⟨_, law29_works_un, law29_works_mk, congrArg (fun o => Cl.yes _ o _) (law29_works_raw), ?_⟩
    intro ds x h
    unfold law29_works_un at h
    split at h
    · cases h; rfl
    · cases h
  · exact .inl rfl
noncomputable def S14 : List (Nat × Sig) := (11, law29_works_sig) :: S13
theorem S14_ok : ListOk Tryd.prog S14 := ListOk.cons S13_ok law29_works_ok
noncomputable def law29_SessionNumbers_C : Cfg := { P := Tryd.prog, sig := lookSig S14, hb := fun _ _ => none, hr := fun f b =>   bif Nat.beq f 3 && Nat.beq b 11 then some { tmps := [2, 11, 12, 13], obs := [], nils := [], kl := [] } else none }
noncomputable def law29_SessionNumbers_un : List DV → Option (Bool) := fun | [⟨.bool, r0⟩] => some r0 | _ => none
noncomputable def law29_SessionNumbers_mk : Bool → List DV := fun r0 => [⟨.bool, r0⟩]
theorem law29_SessionNumbers_ex : ∃ f : (Int) → (Int) → (Int) → Option (Bool), f = fun (x0 : Int) (x1 : Int) (x2 : Int) => funRun law29_SessionNumbers_C 3 3 [(false, [(false, .int .i64)]), (false, [(false, .int .i64)]), (false, [(false, .int .i64)])] [(false, [(false, .bool)])] law29_SessionNumbers_un [⟨.int .i64, x0⟩, ⟨.int .i64, x1⟩, ⟨.int .i64, x2⟩] := ⟨_, rfl⟩
noncomputable def law29_SessionNumbers : (Int) → (Int) → (Int) → Option (Bool) := law29_SessionNumbers_ex.choose
theorem law29_SessionNumbers_raw (x0 : Int) (x1 : Int) (x2 : Int) : law29_SessionNumbers x0 x1 x2 = funRun law29_SessionNumbers_C 3 3 [(false, [(false, .int .i64)]), (false, [(false, .int .i64)]), (false, [(false, .int .i64)])] [(false, [(false, .bool)])] law29_SessionNumbers_un [⟨.int .i64, x0⟩, ⟨.int .i64, x1⟩, ⟨.int .i64, x2⟩] := congrFun (congrFun (congrFun (law29_SessionNumbers_ex.choose_spec) x0) x1) x2
noncomputable def law29_SessionNumbers_r11 (y0 : Int) (y1 : Int) (y2 : Int) (y3 : Int) : Option (Bool) := regAt law29_SessionNumbers_C 3 3 [(false, [(false, .bool)])] law29_SessionNumbers_un [true, true, true, true, true, true, true, false, false] (St.ofLists [(2, .int .i64 y0), (11, .int .i64 y1), (12, .int .i64 y2), (13, .int .i64 y3)] [] [])
theorem law29_SessionNumbers_eq (x0 : Int) (x1 : Int) (x2 : Int) : law29_SessionNumbers x0 x1 x2 =
  (ses_Global x0 x1).bind fun val0 =>
  (ref29_Global x0 x1).bind fun val2 =>
    (ses_Local x2).bind fun val4 =>
      (ref29_Local x2).bind fun val6 =>
        bif val0.1 != val2.1
          then some false
          else bif val0.2 != val2.2
            then some false
            else bif val4.1 != val6.1
              then some false
              else bif val4.2.1 != val6.2.1
                then some false
                else bif val4.2.2 != val6.2.2
                  then some false
                  else bif val0.2 == 0
                    then (ses_Local val0.1).bind fun val20 =>
                      bif val20.2.2 != 0
                        then some false
                        else bif val20.1 != x0
                          then some false
                          else bif val20.2.1 != x1
                            then some false
                            else law29_SessionNumbers_r11 (x2) (val4.1) (val4.2.1) (val4.2.2)
                    else law29_SessionNumbers_r11 (x2) (val4.1) (val4.2.1) (val4.2.2) := (law29_SessionNumbers_raw x0 x1 x2).trans (by kernel_rfl)
theorem law29_SessionNumbers_r11_eq (y0 : Int) (y1 : Int) (y2 : Int) (y3 : Int) : law29_SessionNumbers_r11 y0 y1 y2 y3 =
  bif y3 == 0
  then (ses_Global y1 y2).bind fun val2 =>
    bif val2.2 != 0
      then some false
      else bif val2.1 != y0
        then some false
        else (law29_works).bind fun val8 =>
          some (val8)
  else (law29_works).bind fun val2 =>
    some (val2) := (regAt_step _ _ _ _ _ _ _).trans (by kernel_rfl)
noncomputable def law29_SessionNumbers_sig : Sig := { pm := [(false, [(false, .int .i64)]), (false, [(false, .int .i64)]), (false, [(false, .int .i64)])], rm := [(false, [(false, .bool)])], f := fun | [⟨.int .i64, x0⟩, ⟨.int .i64, x1⟩, ⟨.int .i64, x2⟩] => .yes _ (law29_SessionNumbers x0 x1 x2) law29_SessionNumbers_mk | _ => .no }
theorem law29_SessionNumbers_ok : SigOk Tryd.prog 3 law29_SessionNumbers_sig := by
  refine contract_of (C := law29_SessionNumbers_C) (d := 3) ⟨S14_ok, noPs⟩ (callable_ex (by kernel_rfl)) ?_
  intro dvs
  unfold law29_SessionNumbers_sig
  dsimp only
  split
  · refine .inr ⟨_, law29_SessionNumbers_un, law29_SessionNumbers_mk, congrArg (fun o => Cl.yes _ o _) (law29_SessionNumbers_raw _ _ _), ?_⟩
    intro ds x h
    unfold law29_SessionNumbers_un at h
    split at h
    · cases h; rfl
    · cases h
  · exact .inl rfl
noncomputable def S15 : List (Nat × Sig) := (3, law29_SessionNumbers_sig) :: S14
theorem S15_ok : ListOk Tryd.prog S15 := ListOk.cons S14_ok law29_SessionNumbers_ok
noncomputable def pack_Uint_C : Cfg := { P := Tryd.prog, sig := lookSig S15, hb := fun f b =>   bif Nat.beq f 48 && Nat.beq b 0 then some { tmps := [0, 1], obs := [0], nils := [], kl := [0, 188] } else none, hr := fun _ _ => none }
noncomputable def pack_Uint_un : List DV → Option ((List Int)) := fun | [⟨.slice (.int .u8), r0⟩] => some r0 | _ => none
noncomputable def pack_Uint_mk : (List Int) → List DV := fun r0 => [⟨.slice (.int .u8), r0⟩]
theorem pack_Uint_ex : ∃ f : (List Int) → (Int) → Option ((List Int)), f = fun (x0 : List Int) (x1 : Int) => funRun pack_Uint_C 3 48 [(false, [(true, .slice (.int .u8))]), (false, [(false, .int .u64)])] [(false, [(true, .slice (.int .u8))])] pack_Uint_un [⟨.slice (.int .u8), x0⟩, ⟨.int .u64, x1⟩] := ⟨_, rfl⟩
noncomputable def pack_Uint : (List Int) → (Int) → Option ((List Int)) := pack_Uint_ex.choose
theorem pack_Uint_raw (x0 : List Int) (x1 : Int) : pack_Uint x0 x1 = funRun pack_Uint_C 3 48 [(false, [(true, .slice (.int .u8))]), (false, [(false, .int .u64)])] [(false, [(true, .slice (.int .u8))])] pack_Uint_un [⟨.slice (.int .u8), x0⟩, ⟨.int .u64, x1⟩] := congrFun (congrFun (pack_Uint_ex.choose_spec) x0) x1
noncomputable def pack_Uint_l0 (y0 : Int) (y1 : List (Int)) : Option ((List Int)) := loopAt pack_Uint_C 3 48 [(false, [(true, .slice (.int .u8))])] pack_Uint_un [true, false, false] (St.ofLists [(0, .ow 0), (1, .int .u64 y0)] [(0, some (.row (Ty.int IntKind.u8) y1 0 false))] [0, 188])
theorem pack_Uint_eq (x0 : List Int) (x1 : Int) : pack_Uint x0 x1 =
  pack_Uint_l0 (x1) (x0) := (pack_Uint_raw x0 x1).trans (by kernel_rfl)
theorem pack_Uint_l0_eq (y0 : Int) (y1 : List (Int)) : pack_Uint_l0 y0 y1 =
  bif decide (y0 ≥ 128)
  then bif decide ((ilen y1 + ilen [IntKind.u8.wrap ↑(BitVec.ofInt IntKind.u8.bits (IntKind.u8.wrap y0) ||| BitVec.ofInt IntKind.u8.bits 128).toNat]) * 1 ≤ room)
    then pack_Uint_l0 (y0.fdiv (2 ^ min (Int.toNat 7) IntKind.u64.bits)) (y1 ++ [IntKind.u8.wrap ↑(BitVec.ofInt IntKind.u8.bits (IntKind.u8.wrap y0) ||| BitVec.ofInt IntKind.u8.bits 128).toNat])
    else none
  else bif decide ((ilen y1 + ilen [IntKind.u8.wrap y0]) * 1 ≤ room)
    then some (y1 ++ [IntKind.u8.wrap y0])
    else none := (loopAt_step _ _ _ _ _ _ _).trans (by kernel_rfl)
noncomputable def pack_Uint_sig : Sig := { pm := [(false, [(true, .slice (.int .u8))]), (false, [(false, .int .u64)])], rm := [(false, [(true, .slice (.int .u8))])], f := fun | [⟨.slice (.int .u8), x0⟩, ⟨.int .u64, x1⟩] => .yes _ (pack_Uint x0 x1) pack_Uint_mk | _ => .no }
theorem pack_Uint_ok : SigOk Tryd.prog 48 pack_Uint_sig := by
  refine contract_of (C := pack_Uint_C) (d := 3) ⟨S15_ok, noPs⟩ (callable_ex (by kernel_rfl)) ?_
  intro dvs
  unfold pack_Uint_sig
  dsimp only
  split
  · refine .inr ⟨_, pack_Uint_un, pack_Uint_mk, congrArg (fun o => Cl.yes _ o _) (pack_Uint_raw _ _), ?_⟩
    intro ds x h
    unfold pack_Uint_un at h
    split at h
    · cases h; rfl
    · cases h
  · exact .inl rfl
noncomputable def S16 : List (Nat × Sig) := (48, pack_Uint_sig) :: S15
theorem S16_ok : ListOk Tryd.prog S16 := ListOk.cons S15_ok pack_Uint_ok
noncomputable def pack_Int_C : Cfg := { P := Tryd.prog, sig := lookSig S16, hb := fun _ _ => none, hr := fun _ _ => none }
noncomputable def pack_Int_un : List DV → Option ((List Int)) := fun | [⟨.slice (.int .u8), r0⟩] => some r0 | _ => none
noncomputable def pack_Int_mk : (List Int) → List DV := fun r0 => [⟨.slice (.int .u8), r0⟩]
theorem pack_Int_ex : ∃ f : (List Int) → (Int) → Option ((List Int)), f = fun (x0 : List Int) (x1 : Int) => funRun pack_Int_C 3 50 [(false, [(true, .slice (.int .u8))]), (false, [(false, .int .i64)])] [(false, [(true, .slice (.int .u8))])] pack_Int_un [⟨.slice (.int .u8), x0⟩, ⟨.int .i64, x1⟩] := ⟨_, rfl⟩
noncomputable def pack_Int : (List Int) → (Int) → Option ((List Int)) := pack_Int_ex.choose
theorem pack_Int_raw (x0 : List Int) (x1 : Int) : pack_Int x0 x1 = funRun pack_Int_C 3 50 [(false, [(true, .slice (.int .u8))]), (false, [(false, .int .i64)])] [(false, [(true, .slice (.int .u8))])] pack_Int_un [⟨.slice (.int .u8), x0⟩, ⟨.int .i64, x1⟩] := congrFun (congrFun (pack_Int_ex.choose_spec) x0) x1
theorem pack_Int_eq (x0 : List Int) (x1 : Int) : pack_Int x0 x1 =
  (pack_Uint x0 (IntKind.u64.wrap ↑(BitVec.ofInt IntKind.u64.bits (IntKind.u64.wrap (IntKind.u64.wrap x1 * 2 ^ min (Int.toNat 1) IntKind.u64.bits)) ^^^ BitVec.ofInt IntKind.u64.bits (IntKind.u64.wrap (x1.fdiv (2 ^ min (Int.toNat 63) IntKind.i64.bits)))).toNat)).bind fun val0 =>
  some (val0) := (pack_Int_raw x0 x1).trans (by kernel_rfl)
noncomputable def pack_Int_sig : Sig := { pm := [(false, [(true, .slice (.int .u8))]), (false, [(false, .int .i64)])], rm := [(false, [(true, .slice (.int .u8))])], f := fun | [⟨.slice (.int .u8), x0⟩, ⟨.int .i64, x1⟩] => .yes _ (pack_Int x0 x1) pack_Int_mk | _ => .no }
theorem pack_Int_ok : SigOk Tryd.prog 50 pack_Int_sig := by
  refine contract_of (C := pack_Int_C) (d := 3) ⟨S16_ok, noPs⟩ (callable_ex (by kernel_rfl)) ?_
  intro dvs
  unfold pack_Int_sig
  dsimp only
  split
  · refine .inr ⟨_, pack_Int_un, pack_Int_mk, congrArg (fun o => Cl.yes _ o _) (pack_Int_raw _ _), ?_⟩
    intro ds x h
    unfold pack_Int_un at h
    split at h
    · cases h; rfl
    · cases h
  · exact .inl rfl
noncomputable def S17 : List (Nat × Sig) := (50, pack_Int_sig) :: S16
theorem S17_ok : ListOk Tryd.prog S17 := ListOk.cons S16_ok pack_Int_ok
noncomputable def pack_Bytes_C : Cfg := { P := Tryd.prog, sig := lookSig S17, hb := fun _ _ => none, hr := fun _ _ => none }
noncomputable def pack_Bytes_un : List DV → Option ((List Int)) := fun | [⟨.slice (.int .u8), r0⟩] => some r0 | _ => none
noncomputable def pack_Bytes_mk : (List Int) → List DV := fun r0 => [⟨.slice (.int .u8), r0⟩]
theorem pack_Bytes_ex : ∃ f : (List Int) → (List Int) → Option ((List Int)), f = fun (x0 : List Int) (x1 : List Int) => funRun pack_Bytes_C 3 49 [(false, [(true, .slice (.int .u8))]), (false, [(false, .slice (.int .u8))])] [(false, [(true, .slice (.int .u8))])] pack_Bytes_un [⟨.slice (.int .u8), x0⟩, ⟨.slice (.int .u8), x1⟩] := ⟨_, rfl⟩
noncomputable def pack_Bytes : (List Int) → (List Int) → Option ((List Int)) := pack_Bytes_ex.choose
theorem pack_Bytes_raw (x0 : List Int) (x1 : List Int) : pack_Bytes x0 x1 = funRun pack_Bytes_C 3 49 [(false, [(true, .slice (.int .u8))]), (false, [(false, .slice (.int .u8))])] [(false, [(true, .slice (.int .u8))])] pack_Bytes_un [⟨.slice (.int .u8), x0⟩, ⟨.slice (.int .u8), x1⟩] := congrFun (congrFun (pack_Bytes_ex.choose_spec) x0) x1
theorem pack_Bytes_eq (x0 : List Int) (x1 : List Int) : pack_Bytes x0 x1 =
  (pack_Uint x0 (IntKind.u64.wrap (ilen x1))).bind fun val0 =>
  bif decide ((ilen val0 + ilen x1) * 1 ≤ room)
    then some (val0 ++ x1)
    else none := (pack_Bytes_raw x0 x1).trans (by kernel_rfl)
noncomputable def pack_Bytes_sig : Sig := { pm := [(false, [(true, .slice (.int .u8))]), (false, [(false, .slice (.int .u8))])], rm := [(false, [(true, .slice (.int .u8))])], f := fun | [⟨.slice (.int .u8), x0⟩, ⟨.slice (.int .u8), x1⟩] => .yes _ (pack_Bytes x0 x1) pack_Bytes_mk | _ => .no }
theorem pack_Bytes_ok : SigOk Tryd.prog 49 pack_Bytes_sig := by
  refine contract_of (C := pack_Bytes_C) (d := 3) ⟨S17_ok, noPs⟩ (callable_ex (by kernel_rfl)) ?_
  intro dvs
  unfold pack_Bytes_sig
  dsimp only
  split
  · refine .inr ⟨_, pack_Bytes_un, pack_Bytes_mk, congrArg (fun o => Cl.yes _ o _) (pack_Bytes_raw _ _), ?_⟩
    intro ds x h
    unfold pack_Bytes_un at h
    split at h
    · cases h; rfl
    · cases h
  · exact .inl rfl
noncomputable def S18 : List (Nat × Sig) := (49, pack_Bytes_sig) :: S17
theorem S18_ok : ListOk Tryd.prog S18 := ListOk.cons S17_ok pack_Bytes_ok
noncomputable def pack_Name_C : Cfg := { P := Tryd.prog, sig := lookSig S18, hb := fun f b =>   bif Nat.beq f 87 && Nat.beq b 0 then some { tmps := [0, 7, 8, 9], obs := [156], nils := [], kl := [156] } else none, hr := fun _ _ => none }
noncomputable def pack_Name_un : List DV → Option (Bool) := fun | [⟨.bool, r0⟩] => some r0 | _ => none
noncomputable def pack_Name_mk : Bool → List DV := fun r0 => [⟨.bool, r0⟩]
theorem pack_Name_ex : ∃ f : (ByteArray) → Option (Bool), f = fun (x0 : ByteArray) => funRun pack_Name_C 3 87 [(false, [(false, .str)])] [(false, [(false, .bool)])] pack_Name_un [⟨.str, x0⟩] := ⟨_, rfl⟩
noncomputable def pack_Name : (ByteArray) → Option (Bool) := pack_Name_ex.choose
theorem pack_Name_raw (x0 : ByteArray) : pack_Name x0 = funRun pack_Name_C 3 87 [(false, [(false, .str)])] [(false, [(false, .bool)])] pack_Name_un [⟨.str, x0⟩] := congrFun (pack_Name_ex.choose_spec) x0
noncomputable def pack_Name_l0 (y0 : ByteArray) (y1 : Int) (y2 : Int) (y3 : List (Int)) : Option (Bool) := loopAt pack_Name_C 3 87 [(false, [(false, .bool)])] pack_Name_un [true, false, true, false] (St.ofLists [(0, .str y0), (7, .ow 156), (8, .int .i64 y1), (9, .int .i64 y2)] [(156, some (.row (Ty.int IntKind.u8) y3 0 false))] [156])
theorem pack_Name_eq (x0 : ByteArray) : pack_Name x0 =
  pack_Name_l0 (x0) (ilen (bytesList x0)) (0) (bytesList x0) := (pack_Name_raw x0).trans (by kernel_rfl)
theorem pack_Name_l0_eq (y0 : ByteArray) (y1 : Int) (y2 : Int) (y3 : List (Int)) : pack_Name_l0 y0 y1 y2 y3 =
  bif decide (y2 < y1)
  then bif decide (0 ≤ y2)
    then bif decide (y2 < ilen y3)
      then (y3[y2.toNat]?).bind fun val6 =>
        bif decide (val6 ≥ 97)
          then bif !decide (val6 ≤ 122)
            then bif y2 == 0
              then some false
              else bif decide (val6 < 48)
                then some false
                else bif decide (val6 > 57)
                  then some false
                  else pack_Name_l0 (y0) (y1) (IntKind.i64.wrap (y2 + 1)) (y3)
            else pack_Name_l0 (y0) (y1) (IntKind.i64.wrap (y2 + 1)) (y3)
          else bif y2 == 0
            then some false
            else bif decide (val6 < 48)
              then some false
              else bif decide (val6 > 57)
                then some false
                else pack_Name_l0 (y0) (y1) (IntKind.i64.wrap (y2 + 1)) (y3)
      else none
    else none
  else bif decide (isize y0 ≥ 1)
    then some (decide (isize y0 ≤ 32))
    else some false := (loopAt_step _ _ _ _ _ _ _).trans (by kernel_rfl)
noncomputable def pack_Name_sig : Sig := { pm := [(false, [(false, .str)])], rm := [(false, [(false, .bool)])], f := fun | [⟨.str, x0⟩] => .yes _ (pack_Name x0) pack_Name_mk | _ => .no }
theorem pack_Name_ok : SigOk Tryd.prog 87 pack_Name_sig := by
  refine contract_of (C := pack_Name_C) (d := 3) ⟨S18_ok, noPs⟩ (callable_ex (by kernel_rfl)) ?_
  intro dvs
  unfold pack_Name_sig
  dsimp only
  split
  · refine .inr ⟨_, pack_Name_un, pack_Name_mk, congrArg (fun o => Cl.yes _ o _) (pack_Name_raw _), ?_⟩
    intro ds x h
    unfold pack_Name_un at h
    split at h
    · cases h; rfl
    · cases h
  · exact .inl rfl
noncomputable def S19 : List (Nat × Sig) := (87, pack_Name_sig) :: S18
theorem S19_ok : ListOk Tryd.prog S19 := ListOk.cons S18_ok pack_Name_ok
noncomputable def ref02_Name_C : Cfg := { P := Tryd.prog, sig := lookSig S19, hb := fun f b =>   bif Nat.beq f 83 && Nat.beq b 0 then some { tmps := [0, 3], obs := [], nils := [], kl := [] } else none, hr := fun _ _ => none }
noncomputable def ref02_Name_un : List DV → Option (Bool) := fun | [⟨.bool, r0⟩] => some r0 | _ => none
noncomputable def ref02_Name_mk : Bool → List DV := fun r0 => [⟨.bool, r0⟩]
theorem ref02_Name_ex : ∃ f : (ByteArray) → Option (Bool), f = fun (x0 : ByteArray) => funRun ref02_Name_C 3 83 [(false, [(false, .str)])] [(false, [(false, .bool)])] ref02_Name_un [⟨.str, x0⟩] := ⟨_, rfl⟩
noncomputable def ref02_Name : (ByteArray) → Option (Bool) := ref02_Name_ex.choose
theorem ref02_Name_raw (x0 : ByteArray) : ref02_Name x0 = funRun ref02_Name_C 3 83 [(false, [(false, .str)])] [(false, [(false, .bool)])] ref02_Name_un [⟨.str, x0⟩] := congrFun (ref02_Name_ex.choose_spec) x0
noncomputable def ref02_Name_l0 (y0 : ByteArray) (y1 : Int) : Option (Bool) := loopAt ref02_Name_C 3 83 [(false, [(false, .bool)])] ref02_Name_un [true, true, false, true, false] (St.ofLists [(0, .str y0), (3, .int .i64 y1)] [] [])
theorem ref02_Name_eq (x0 : ByteArray) : ref02_Name x0 =
  bif isize x0 == 0
  then some false
  else bif decide (isize x0 > 32)
    then some false
    else (x0.data[Int.toNat 0]?).bind fun val4 =>
      bif decide ((val4.toNat : Int) < 97)
        then some false
        else ref02_Name_l0 (x0) (0) := (ref02_Name_raw x0).trans (by kernel_rfl)
theorem ref02_Name_l0_eq (y0 : ByteArray) (y1 : Int) : ref02_Name_l0 y0 y1 =
  bif decide (y1 < isize y0)
  then bif decide (0 ≤ y1)
    then (y0.data[y1.toNat]?).bind fun val4 =>
      bif decide ((val4.toNat : Int) ≥ 48)
        then bif decide (0 ≤ y1)
          then (y0.data[y1.toNat]?).bind fun val10 =>
            bif decide (0 ≤ y1)
              then (y0.data[y1.toNat]?).bind fun val14 =>
                bif decide ((val14.toNat : Int) ≥ 97)
                  then bif decide (0 ≤ y1)
                    then (y0.data[y1.toNat]?).bind fun val20 =>
                      bif !decide ((val10.toNat : Int) ≤ 57)
                        then bif !decide ((val20.toNat : Int) ≤ 122)
                          then some false
                          else ref02_Name_l0 (y0) (IntKind.i64.wrap (y1 + 1))
                        else ref02_Name_l0 (y0) (IntKind.i64.wrap (y1 + 1))
                    else none
                  else bif !decide ((val10.toNat : Int) ≤ 57)
                    then some false
                    else ref02_Name_l0 (y0) (IntKind.i64.wrap (y1 + 1))
              else none
          else none
        else bif decide (0 ≤ y1)
          then (y0.data[y1.toNat]?).bind fun val10 =>
            bif decide ((val10.toNat : Int) ≥ 97)
              then bif decide (0 ≤ y1)
                then (y0.data[y1.toNat]?).bind fun val16 =>
                  bif !decide ((val16.toNat : Int) ≤ 122)
                    then some false
                    else ref02_Name_l0 (y0) (IntKind.i64.wrap (y1 + 1))
                else none
              else some false
          else none
    else none
  else some true := (loopAt_step _ _ _ _ _ _ _).trans (by kernel_rfl)
noncomputable def ref02_Name_sig : Sig := { pm := [(false, [(false, .str)])], rm := [(false, [(false, .bool)])], f := fun | [⟨.str, x0⟩] => .yes _ (ref02_Name x0) ref02_Name_mk | _ => .no }
theorem ref02_Name_ok : SigOk Tryd.prog 83 ref02_Name_sig := by
  refine contract_of (C := ref02_Name_C) (d := 3) ⟨S19_ok, noPs⟩ (callable_ex (by kernel_rfl)) ?_
  intro dvs
  unfold ref02_Name_sig
  dsimp only
  split
  · refine .inr ⟨_, ref02_Name_un, ref02_Name_mk, congrArg (fun o => Cl.yes _ o _) (ref02_Name_raw _), ?_⟩
    intro ds x h
    unfold ref02_Name_un at h
    split at h
    · cases h; rfl
    · cases h
  · exact .inl rfl
noncomputable def S20 : List (Nat × Sig) := (83, ref02_Name_sig) :: S19
theorem S20_ok : ListOk Tryd.prog S20 := ListOk.cons S19_ok ref02_Name_ok
noncomputable def vars_Check_C : Cfg := { P := Tryd.prog, sig := lookSig S20, hb := fun f b =>   bif Nat.beq f 88 && Nat.beq b 1 then some { tmps := [1, 19, 20, 21], obs := [108], nils := [], kl := [108] } else none, hr := fun _ _ => none }
noncomputable def vars_Check_un : List DV → Option (Int) := fun | [⟨.int .i64, r0⟩] => some r0 | _ => none
noncomputable def vars_Check_mk : Int → List DV := fun r0 => [⟨.int .i64, r0⟩]
theorem vars_Check_ex : ∃ f : (List ByteArray) → (List Int) → Option (Int), f = fun (x0 : List ByteArray) (x1 : List Int) => funRun vars_Check_C 3 88 [(true, [(false, .slice (.str)), (false, .slice (.int .i64))])] [(false, [(false, .int .i64)])] vars_Check_un [⟨.slice (.str), x0⟩, ⟨.slice (.int .i64), x1⟩] := ⟨_, rfl⟩
noncomputable def vars_Check : (List ByteArray) → (List Int) → Option (Int) := vars_Check_ex.choose
theorem vars_Check_raw (x0 : List ByteArray) (x1 : List Int) : vars_Check x0 x1 = funRun vars_Check_C 3 88 [(true, [(false, .slice (.str)), (false, .slice (.int .i64))])] [(false, [(false, .int .i64)])] vars_Check_un [⟨.slice (.str), x0⟩, ⟨.slice (.int .i64), x1⟩] := congrFun (congrFun (vars_Check_ex.choose_spec) x0) x1
noncomputable def vars_Check_l1 (y0 : List (ByteArray)) (y1 : Int) (y2 : Int) (y3 : List (ByteArray)) (y4 : List (Int)) : Option (Int) := loopAt vars_Check_C 3 88 [(false, [(false, .int .i64)])] vars_Check_un [true, true, false, true, false] (St.ofLists [(1, .ptr 108 0), (19, .fz (Ty.str) y0 false false), (20, .int .i64 y1), (21, .int .i64 y2)] [(108, some (.cells [.fz (Ty.str) y3 false false, .fz (Ty.int IntKind.i64) y4 false false]))] [108])
theorem vars_Check_eq (x0 : List ByteArray) (x1 : List Int) : vars_Check x0 x1 =
  bif ilen x0 != ilen x1
  then some (1)
  else bif decide (ilen x0 > 64)
    then some (6)
    else vars_Check_l1 (x0) (ilen x0) (0) (x0) (x1) := (vars_Check_raw x0 x1).trans (by kernel_rfl)
theorem vars_Check_l1_eq (y0 : List (ByteArray)) (y1 : Int) (y2 : Int) (y3 : List (ByteArray)) (y4 : List (Int)) : vars_Check_l1 y0 y1 y2 y3 y4 =
  bif decide (y2 < y1)
  then bif decide (0 ≤ y2)
    then (y0[y2.toNat]?).bind fun val4 =>
      (pack_Name val4).bind fun val6 =>
        bif !val6
          then some (1)
          else bif ByteArray.toList val4 == (⟨#[121, 101, 115]⟩ : ByteArray).toList
            then some (1)
            else bif ByteArray.toList val4 == (⟨#[110, 111]⟩ : ByteArray).toList
              then some (1)
              else bif decide (y2 > 0)
                then bif decide (0 ≤ IntKind.i64.wrap (y2 - 1))
                  then (y3[(IntKind.i64.wrap (y2 - 1)).toNat]?).bind fun val18 =>
                    bif !Op.bytesLess (ByteArray.toList val18) (ByteArray.toList val4)
                      then some (1)
                      else vars_Check_l1 (y0) (y1) (IntKind.i64.wrap (y2 + 1)) (y3) (y4)
                  else none
                else vars_Check_l1 (y0) (y1) (IntKind.i64.wrap (y2 + 1)) (y3) (y4)
    else none
  else some (0) := (loopAt_step _ _ _ _ _ _ _).trans (by kernel_rfl)
noncomputable def vars_Check_sig : Sig := { pm := [(true, [(false, .slice (.str)), (false, .slice (.int .i64))])], rm := [(false, [(false, .int .i64)])], f := fun | [⟨.slice (.str), x0⟩, ⟨.slice (.int .i64), x1⟩] => .yes _ (vars_Check x0 x1) vars_Check_mk | _ => .no }
theorem vars_Check_ok : SigOk Tryd.prog 88 vars_Check_sig := by
  refine contract_of (C := vars_Check_C) (d := 3) ⟨S20_ok, noPs⟩ (callable_ex (by kernel_rfl)) ?_
  intro dvs
  unfold vars_Check_sig
  dsimp only
  split
  · refine .inr ⟨_, vars_Check_un, vars_Check_mk, congrArg (fun o => Cl.yes _ o _) (vars_Check_raw _ _), ?_⟩
    intro ds x h
    unfold vars_Check_un at h
    split at h
    · cases h; rfl
    · cases h
  · exact .inl rfl
noncomputable def S21 : List (Nat × Sig) := (88, vars_Check_sig) :: S20
theorem S21_ok : ListOk Tryd.prog S21 := ListOk.cons S20_ok vars_Check_ok
noncomputable def ref09_Check_C : Cfg := { P := Tryd.prog, sig := lookSig S21, hb := fun f b =>   bif Nat.beq f 82 && Nat.beq b 0 then some { tmps := [1, 3], obs := [108], nils := [], kl := [108] } else none, hr := fun _ _ => none }
noncomputable def ref09_Check_un : List DV → Option (Int) := fun | [⟨.int .i64, r0⟩] => some r0 | _ => none
noncomputable def ref09_Check_mk : Int → List DV := fun r0 => [⟨.int .i64, r0⟩]
theorem ref09_Check_ex : ∃ f : (List ByteArray) → (List Int) → Option (Int), f = fun (x0 : List ByteArray) (x1 : List Int) => funRun ref09_Check_C 3 82 [(true, [(false, .slice (.str)), (false, .slice (.int .i64))])] [(false, [(false, .int .i64)])] ref09_Check_un [⟨.slice (.str), x0⟩, ⟨.slice (.int .i64), x1⟩] := ⟨_, rfl⟩
noncomputable def ref09_Check : (List ByteArray) → (List Int) → Option (Int) := ref09_Check_ex.choose
theorem ref09_Check_raw (x0 : List ByteArray) (x1 : List Int) : ref09_Check x0 x1 = funRun ref09_Check_C 3 82 [(true, [(false, .slice (.str)), (false, .slice (.int .i64))])] [(false, [(false, .int .i64)])] ref09_Check_un [⟨.slice (.str), x0⟩, ⟨.slice (.int .i64), x1⟩] := congrFun (congrFun (ref09_Check_ex.choose_spec) x0) x1
noncomputable def ref09_Check_l0 (y0 : Int) (y1 : List (ByteArray)) (y2 : List (Int)) : Option (Int) := loopAt ref09_Check_C 3 82 [(false, [(false, .int .i64)])] ref09_Check_un [true, true, true, false, true, false] (St.ofLists [(1, .ptr 108 0), (3, .int .i64 y0)] [(108, some (.cells [.fz (Ty.str) y1 false false, .fz (Ty.int IntKind.i64) y2 false false]))] [108])
theorem ref09_Check_eq (x0 : List ByteArray) (x1 : List Int) : ref09_Check x0 x1 =
  bif ilen x0 != ilen x1
  then some (1)
  else bif decide (ilen x0 > 64)
    then some (6)
    else ref09_Check_l0 (0) (x0) (x1) := (ref09_Check_raw x0 x1).trans (by kernel_rfl)
theorem ref09_Check_l0_eq (y0 : Int) (y1 : List (ByteArray)) (y2 : List (Int)) : ref09_Check_l0 y0 y1 y2 =
  bif decide (y0 < ilen y1)
  then bif decide (0 ≤ y0)
    then (y1[y0.toNat]?).bind fun val4 =>
      (ref02_Name val4).bind fun val6 =>
        bif !val6
          then some (1)
          else bif ByteArray.toList val4 == (⟨#[121, 101, 115]⟩ : ByteArray).toList
            then some (1)
            else bif ByteArray.toList val4 == (⟨#[110, 111]⟩ : ByteArray).toList
              then some (1)
              else bif decide (y0 > 0)
                then bif decide (0 ≤ IntKind.i64.wrap (y0 - 1))
                  then (y1[(IntKind.i64.wrap (y0 - 1)).toNat]?).bind fun val18 =>
                    bif !Op.bytesLess (ByteArray.toList val18) (ByteArray.toList val4)
                      then some (1)
                      else ref09_Check_l0 (IntKind.i64.wrap (y0 + 1)) (y1) (y2)
                  else none
                else ref09_Check_l0 (IntKind.i64.wrap (y0 + 1)) (y1) (y2)
    else none
  else some (0) := (loopAt_step _ _ _ _ _ _ _).trans (by kernel_rfl)
noncomputable def ref09_Check_sig : Sig := { pm := [(true, [(false, .slice (.str)), (false, .slice (.int .i64))])], rm := [(false, [(false, .int .i64)])], f := fun | [⟨.slice (.str), x0⟩, ⟨.slice (.int .i64), x1⟩] => .yes _ (ref09_Check x0 x1) ref09_Check_mk | _ => .no }
theorem ref09_Check_ok : SigOk Tryd.prog 82 ref09_Check_sig := by
  refine contract_of (C := ref09_Check_C) (d := 3) ⟨S21_ok, noPs⟩ (callable_ex (by kernel_rfl)) ?_
  intro dvs
  unfold ref09_Check_sig
  dsimp only
  split
  · refine .inr ⟨_, ref09_Check_un, ref09_Check_mk, congrArg (fun o => Cl.yes _ o _) (ref09_Check_raw _ _), ?_⟩
    intro ds x h
    unfold ref09_Check_un at h
    split at h
    · cases h; rfl
    · cases h
  · exact .inl rfl
noncomputable def S22 : List (Nat × Sig) := (82, ref09_Check_sig) :: S21
theorem S22_ok : ListOk Tryd.prog S22 := ListOk.cons S21_ok ref09_Check_ok
noncomputable def vars_Put_C : Cfg := { P := Tryd.prog, sig := lookSig S22, hb := fun f b =>   bif Nat.beq f 51 && Nat.beq b 0 then some { tmps := [0, 3, 14, 15, 16], obs := [124, 60], nils := [(0, 60, (.int .u8))], kl := [196, 124, 348, 292, 284, 60] } else none, hr := fun _ _ => none }
noncomputable def vars_Put_un : List DV → Option ((List Int)) := fun | [⟨.slice (.int .u8), r0⟩] => some r0 | _ => none
noncomputable def vars_Put_mk : (List Int) → List DV := fun r0 => [⟨.slice (.int .u8), r0⟩]
theorem vars_Put_ex : ∃ f : (List Int) → (List ByteArray) → (List Int) → Option ((List Int)), f = fun (x0 : List Int) (x1 : List ByteArray) (x2 : List Int) => funRun vars_Put_C 3 51 [(false, [(true, .slice (.int .u8))]), (true, [(false, .slice (.str)), (false, .slice (.int .i64))])] [(false, [(true, .slice (.int .u8))])] vars_Put_un [⟨.slice (.int .u8), x0⟩, ⟨.slice (.str), x1⟩, ⟨.slice (.int .i64), x2⟩] := ⟨_, rfl⟩
noncomputable def vars_Put : (List Int) → (List ByteArray) → (List Int) → Option ((List Int)) := vars_Put_ex.choose
theorem vars_Put_raw (x0 : List Int) (x1 : List ByteArray) (x2 : List Int) : vars_Put x0 x1 x2 = funRun vars_Put_C 3 51 [(false, [(true, .slice (.int .u8))]), (true, [(false, .slice (.str)), (false, .slice (.int .i64))])] [(false, [(true, .slice (.int .u8))])] vars_Put_un [⟨.slice (.int .u8), x0⟩, ⟨.slice (.str), x1⟩, ⟨.slice (.int .i64), x2⟩] := congrFun (congrFun (congrFun (vars_Put_ex.choose_spec) x0) x1) x2
noncomputable def vars_Put_l0 (y0 : List (ByteArray)) (y1 : Int) (y2 : Int) (y3 : List (ByteArray)) (y4 : List (Int)) (y5 : List (Int)) : Option ((List Int)) := loopAt vars_Put_C 3 51 [(false, [(true, .slice (.int .u8))])] vars_Put_un [true, true, false, true, false] (St.ofLists [(0, .ow 60), (3, .ptr 124 0), (14, .fz (Ty.str) y0 false false), (15, .int .i64 y1), (16, .int .i64 y2)] [(124, some (.cells [.fz (Ty.str) y3 false false, .fz (Ty.int IntKind.i64) y4 false false])), (60, some (.row (Ty.int IntKind.u8) y5 0 false))] [196, 124, 348, 292, 284, 60])
theorem vars_Put_eq (x0 : List Int) (x1 : List ByteArray) (x2 : List Int) : vars_Put x0 x1 x2 =
  (pack_Uint x0 (IntKind.u64.wrap (ilen x1))).bind fun val0 =>
  vars_Put_l0 (x1) (ilen x1) (0) (x1) (x2) (val0) := (vars_Put_raw x0 x1 x2).trans (by kernel_rfl)
theorem vars_Put_l0_eq (y0 : List (ByteArray)) (y1 : Int) (y2 : Int) (y3 : List (ByteArray)) (y4 : List (Int)) (y5 : List (Int)) : vars_Put_l0 y0 y1 y2 y3 y4 y5 =
  bif decide (y2 < y1)
  then bif decide (0 ≤ y2)
    then (y0[y2.toNat]?).bind fun val4 =>
      (pack_Bytes y5 (bytesList val4)).bind fun val6 =>
        bif decide (0 ≤ y2)
          then (y4[y2.toNat]?).bind fun val10 =>
            (pack_Int val6 val10).bind fun val12 =>
              vars_Put_l0 (y0) (y1) (IntKind.i64.wrap (y2 + 1)) (y3) (y4) (val12)
          else none
    else none
  else some (y5) := (loopAt_step _ _ _ _ _ _ _).trans (by kernel_rfl)
noncomputable def vars_Put_sig : Sig := { pm := [(false, [(true, .slice (.int .u8))]), (true, [(false, .slice (.str)), (false, .slice (.int .i64))])], rm := [(false, [(true, .slice (.int .u8))])], f := fun | [⟨.slice (.int .u8), x0⟩, ⟨.slice (.str), x1⟩, ⟨.slice (.int .i64), x2⟩] => .yes _ (vars_Put x0 x1 x2) vars_Put_mk | _ => .no }
theorem vars_Put_ok : SigOk Tryd.prog 51 vars_Put_sig := by
  refine contract_of (C := vars_Put_C) (d := 3) ⟨S22_ok, noPs⟩ (callable_ex (by kernel_rfl)) ?_
  intro dvs
  unfold vars_Put_sig
  dsimp only
  split
  · refine .inr ⟨_, vars_Put_un, vars_Put_mk, congrArg (fun o => Cl.yes _ o _) (vars_Put_raw _ _ _), ?_⟩
    intro ds x h
    unfold vars_Put_un at h
    split at h
    · cases h; rfl
    · cases h
  · exact .inl rfl
noncomputable def S23 : List (Nat × Sig) := (51, vars_Put_sig) :: S22
theorem S23_ok : ListOk Tryd.prog S23 := ListOk.cons S22_ok vars_Put_ok
noncomputable def command_from_C : Cfg := { P := Tryd.prog, sig := lookSig S23, hb := fun _ _ => none, hr := fun _ _ => none }
noncomputable def command_from_un : List DV → Option (Bool) := fun | [⟨.bool, r0⟩] => some r0 | _ => none
noncomputable def command_from_mk : Bool → List DV := fun r0 => [⟨.bool, r0⟩]
theorem command_from_ex : ∃ f : (Int) → (Bool) → (Int) → (Int) → Option (Bool), f = fun (x0 : Int) (x1 : Bool) (x2 : Int) (x3 : Int) => funRun command_from_C 3 73 [(false, [(false, .int .i64)]), (false, [(false, .bool)]), (false, [(false, .int .i64)]), (false, [(false, .int .i64)])] [(false, [(false, .bool)])] command_from_un [⟨.int .i64, x0⟩, ⟨.bool, x1⟩, ⟨.int .i64, x2⟩, ⟨.int .i64, x3⟩] := ⟨_, rfl⟩
noncomputable def command_from : (Int) → (Bool) → (Int) → (Int) → Option (Bool) := command_from_ex.choose
theorem command_from_raw (x0 : Int) (x1 : Bool) (x2 : Int) (x3 : Int) : command_from x0 x1 x2 x3 = funRun command_from_C 3 73 [(false, [(false, .int .i64)]), (false, [(false, .bool)]), (false, [(false, .int .i64)]), (false, [(false, .int .i64)])] [(false, [(false, .bool)])] command_from_un [⟨.int .i64, x0⟩, ⟨.bool, x1⟩, ⟨.int .i64, x2⟩, ⟨.int .i64, x3⟩] := congrFun (congrFun (congrFun (congrFun (command_from_ex.choose_spec) x0) x1) x2) x3
theorem command_from_eq (x0 : Int) (x1 : Bool) (x2 : Int) (x3 : Int) : command_from x0 x1 x2 x3 =
  bif !x1
  then some (x0 == 0)
  else bif decide (x0 ≥ x2)
    then some (decide (x0 ≤ x3))
    else some false := (command_from_raw x0 x1 x2 x3).trans (by kernel_rfl)
noncomputable def command_from_sig : Sig := { pm := [(false, [(false, .int .i64)]), (false, [(false, .bool)]), (false, [(false, .int .i64)]), (false, [(false, .int .i64)])], rm := [(false, [(false, .bool)])], f := fun | [⟨.int .i64, x0⟩, ⟨.bool, x1⟩, ⟨.int .i64, x2⟩, ⟨.int .i64, x3⟩] => .yes _ (command_from x0 x1 x2 x3) command_from_mk | _ => .no }
theorem command_from_ok : SigOk Tryd.prog 73 command_from_sig := by
  refine contract_of (C := command_from_C) (d := 3) ⟨S23_ok, noPs⟩ (callable_ex (by kernel_rfl)) ?_
  intro dvs
  unfold command_from_sig
  dsimp only
  split
  · refine .inr ⟨_, command_from_un, command_from_mk, congrArg (fun o => Cl.yes _ o _) (command_from_raw _ _ _ _), ?_⟩
    intro ds x h
    unfold command_from_un at h
    split at h
    · cases h; rfl
    · cases h
  · exact .inl rfl
noncomputable def S24 : List (Nat × Sig) := (73, command_from_sig) :: S23
theorem S24_ok : ListOk Tryd.prog S24 := ListOk.cons S23_ok command_from_ok
noncomputable def command_text_C : Cfg := { P := Tryd.prog, sig := lookSig S24, hb := fun _ _ => none, hr := fun _ _ => none }
noncomputable def command_text_un : List DV → Option (Bool) := fun | [⟨.bool, r0⟩] => some r0 | _ => none
noncomputable def command_text_mk : Bool → List DV := fun r0 => [⟨.bool, r0⟩]
theorem command_text_ex : ∃ f : (ByteArray) → (Bool) → Option (Bool), f = fun (x0 : ByteArray) (x1 : Bool) => funRun command_text_C 3 74 [(false, [(false, .str)]), (false, [(false, .bool)])] [(false, [(false, .bool)])] command_text_un [⟨.str, x0⟩, ⟨.bool, x1⟩] := ⟨_, rfl⟩
noncomputable def command_text : (ByteArray) → (Bool) → Option (Bool) := command_text_ex.choose
theorem command_text_raw (x0 : ByteArray) (x1 : Bool) : command_text x0 x1 = funRun command_text_C 3 74 [(false, [(false, .str)]), (false, [(false, .bool)])] [(false, [(false, .bool)])] command_text_un [⟨.str, x0⟩, ⟨.bool, x1⟩] := congrFun (congrFun (command_text_ex.choose_spec) x0) x1
theorem command_text_eq (x0 : ByteArray) (x1 : Bool) : command_text x0 x1 =
  bif !x1
  then some (x0.toList == (⟨#[]⟩ : ByteArray).toList)
  else (pack_Name x0).bind fun val2 =>
    some (val2) := (command_text_raw x0 x1).trans (by kernel_rfl)
noncomputable def command_text_sig : Sig := { pm := [(false, [(false, .str)]), (false, [(false, .bool)])], rm := [(false, [(false, .bool)])], f := fun | [⟨.str, x0⟩, ⟨.bool, x1⟩] => .yes _ (command_text x0 x1) command_text_mk | _ => .no }
theorem command_text_ok : SigOk Tryd.prog 74 command_text_sig := by
  refine contract_of (C := command_text_C) (d := 3) ⟨S24_ok, noPs⟩ (callable_ex (by kernel_rfl)) ?_
  intro dvs
  unfold command_text_sig
  dsimp only
  split
  · refine .inr ⟨_, command_text_un, command_text_mk, congrArg (fun o => Cl.yes _ o _) (command_text_raw _ _), ?_⟩
    intro ds x h
    unfold command_text_un at h
    split at h
    · cases h; rfl
    · cases h
  · exact .inl rfl
noncomputable def S25 : List (Nat × Sig) := (74, command_text_sig) :: S24
theorem S25_ok : ListOk Tryd.prog S25 := ListOk.cons S24_ok command_text_ok
noncomputable def command_variables_C : Cfg := { P := Tryd.prog, sig := lookSig S25, hb := fun _ _ => none, hr := fun _ _ => none }
noncomputable def command_variables_un : List DV → Option (Int) := fun | [⟨.int .i64, r0⟩] => some r0 | _ => none
noncomputable def command_variables_mk : Int → List DV := fun r0 => [⟨.int .i64, r0⟩]
theorem command_variables_ex : ∃ f : (List ByteArray) → (List Int) → (Bool) → Option (Int), f = fun (x0 : List ByteArray) (x1 : List Int) (x2 : Bool) => funRun command_variables_C 3 75 [(true, [(false, .slice (.str)), (false, .slice (.int .i64))]), (false, [(false, .bool)])] [(false, [(false, .int .i64)])] command_variables_un [⟨.slice (.str), x0⟩, ⟨.slice (.int .i64), x1⟩, ⟨.bool, x2⟩] := ⟨_, rfl⟩
noncomputable def command_variables : (List ByteArray) → (List Int) → (Bool) → Option (Int) := command_variables_ex.choose
theorem command_variables_raw (x0 : List ByteArray) (x1 : List Int) (x2 : Bool) : command_variables x0 x1 x2 = funRun command_variables_C 3 75 [(true, [(false, .slice (.str)), (false, .slice (.int .i64))]), (false, [(false, .bool)])] [(false, [(false, .int .i64)])] command_variables_un [⟨.slice (.str), x0⟩, ⟨.slice (.int .i64), x1⟩, ⟨.bool, x2⟩] := congrFun (congrFun (congrFun (command_variables_ex.choose_spec) x0) x1) x2
theorem command_variables_eq (x0 : List ByteArray) (x1 : List Int) (x2 : Bool) : command_variables x0 x1 x2 =
  bif !x2
  then bif decide (ilen x0 > 0)
    then some (1)
    else bif decide (ilen x1 > 0)
      then some (1)
      else (vars_Check x0 x1).bind fun val6 =>
        some (val6)
  else (vars_Check x0 x1).bind fun val2 =>
    some (val2) := (command_variables_raw x0 x1 x2).trans (by kernel_rfl)
noncomputable def command_variables_sig : Sig := { pm := [(true, [(false, .slice (.str)), (false, .slice (.int .i64))]), (false, [(false, .bool)])], rm := [(false, [(false, .int .i64)])], f := fun | [⟨.slice (.str), x0⟩, ⟨.slice (.int .i64), x1⟩, ⟨.bool, x2⟩] => .yes _ (command_variables x0 x1 x2) command_variables_mk | _ => .no }
theorem command_variables_ok : SigOk Tryd.prog 75 command_variables_sig := by
  refine contract_of (C := command_variables_C) (d := 3) ⟨S25_ok, noPs⟩ (callable_ex (by kernel_rfl)) ?_
  intro dvs
  unfold command_variables_sig
  dsimp only
  split
  · refine .inr ⟨_, command_variables_un, command_variables_mk, congrArg (fun o => Cl.yes _ o _) (command_variables_raw _ _ _), ?_⟩
    intro ds x h
    unfold command_variables_un at h
    split at h
    · cases h; rfl
    · cases h
  · exact .inl rfl
noncomputable def S26 : List (Nat × Sig) := (75, command_variables_sig) :: S25
theorem S26_ok : ListOk Tryd.prog S26 := ListOk.cons S25_ok command_variables_ok
noncomputable def cmd_Check_C : Cfg := { P := Tryd.prog, sig := lookSig S26, hb := fun _ _ => none, hr := fun _ _ => none }
noncomputable def cmd_Check_un : List DV → Option (Int) := fun | [⟨.int .i64, r0⟩] => some r0 | _ => none
noncomputable def cmd_Check_mk : Int → List DV := fun r0 => [⟨.int .i64, r0⟩]
theorem cmd_Check_ex : ∃ f : (Int) → (Int) → (Int) → (ByteArray) → (ByteArray) → (Int) → (List ByteArray) → (List Int) → (Int) → (Int) → (Int) → (Int) → (List Int) → Option (Int), f = fun (x0 : Int) (x1 : Int) (x2 : Int) (x3 : ByteArray) (x4 : ByteArray) (x5 : Int) (x6 : List ByteArray) (x7 : List Int) (x8 : Int) (x9 : Int) (x10 : Int) (x11 : Int) (x12 : List Int) => funRun cmd_Check_C 3 45 [(true, [(false, .int .i64), (false, .int .i64), (false, .int .i64), (false, .str), (false, .str), (false, .int .i64), (false, .slice (.str)), (false, .slice (.int .i64)), (false, .int .i64), (false, .int .i64), (false, .int .i64), (false, .int .i64), (false, .slice (.int .u8))])] [(false, [(false, .int .i64)])] cmd_Check_un [⟨.int .i64, x0⟩, ⟨.int .i64, x1⟩, ⟨.int .i64, x2⟩, ⟨.str, x3⟩, ⟨.str, x4⟩, ⟨.int .i64, x5⟩, ⟨.slice (.str), x6⟩, ⟨.slice (.int .i64), x7⟩, ⟨.int .i64, x8⟩, ⟨.int .i64, x9⟩, ⟨.int .i64, x10⟩, ⟨.int .i64, x11⟩, ⟨.slice (.int .u8), x12⟩] := ⟨_, rfl⟩
noncomputable def cmd_Check : (Int) → (Int) → (Int) → (ByteArray) → (ByteArray) → (Int) → (List ByteArray) → (List Int) → (Int) → (Int) → (Int) → (Int) → (List Int) → Option (Int) := cmd_Check_ex.choose
theorem cmd_Check_raw (x0 : Int) (x1 : Int) (x2 : Int) (x3 : ByteArray) (x4 : ByteArray) (x5 : Int) (x6 : List ByteArray) (x7 : List Int) (x8 : Int) (x9 : Int) (x10 : Int) (x11 : Int) (x12 : List Int) : cmd_Check x0 x1 x2 x3 x4 x5 x6 x7 x8 x9 x10 x11 x12 = funRun cmd_Check_C 3 45 [(true, [(false, .int .i64), (false, .int .i64), (false, .int .i64), (false, .str), (false, .str), (false, .int .i64), (false, .slice (.str)), (false, .slice (.int .i64)), (false, .int .i64), (false, .int .i64), (false, .int .i64), (false, .int .i64), (false, .slice (.int .u8))])] [(false, [(false, .int .i64)])] cmd_Check_un [⟨.int .i64, x0⟩, ⟨.int .i64, x1⟩, ⟨.int .i64, x2⟩, ⟨.str, x3⟩, ⟨.str, x4⟩, ⟨.int .i64, x5⟩, ⟨.slice (.str), x6⟩, ⟨.slice (.int .i64), x7⟩, ⟨.int .i64, x8⟩, ⟨.int .i64, x9⟩, ⟨.int .i64, x10⟩, ⟨.int .i64, x11⟩, ⟨.slice (.int .u8), x12⟩] := congrFun (congrFun (congrFun (congrFun (congrFun (congrFun (congrFun (congrFun (congrFun (congrFun (congrFun (congrFun (congrFun (cmd_Check_ex.choose_spec) x0) x1) x2) x3) x4) x5) x6) x7) x8) x9) x10) x11) x12
theorem cmd_Check_eq (x0 : Int) (x1 : Int) (x2 : Int) (x3 : ByteArray) (x4 : ByteArray) (x5 : Int) (x6 : List ByteArray) (x7 : List Int) (x8 : Int) (x9 : Int) (x10 : Int) (x11 : Int) (x12 : List Int) : cmd_Check x0 x1 x2 x3 x4 x5 x6 x7 x8 x9 x10 x11 x12 =
  bif x0 == 1
  then (command_from x1 (IntKind.i64.wrap ↑(BitVec.ofInt IntKind.i64.bits 256 &&& BitVec.ofInt IntKind.i64.bits 1).toNat != 0) 1 1099511627776).bind fun val2 =>
    bif !val2
      then some (1)
      else (command_from x2 (IntKind.i64.wrap ↑(BitVec.ofInt IntKind.i64.bits 256 &&& BitVec.ofInt IntKind.i64.bits 1).toNat != 0) 1 1099511627776).bind fun val6 =>
        bif !val6
          then some (1)
          else (command_text x3 (IntKind.i64.wrap ↑(BitVec.ofInt IntKind.i64.bits 256 &&& BitVec.ofInt IntKind.i64.bits 2).toNat != 0)).bind fun val10 =>
            bif !val10
              then some (1)
              else (command_text x4 (IntKind.i64.wrap ↑(BitVec.ofInt IntKind.i64.bits 256 &&& BitVec.ofInt IntKind.i64.bits 4).toNat != 0)).bind fun val14 =>
                bif !val14
                  then some (1)
                  else bif x5 != 0
                    then some (1)
                    else (command_from x8 (IntKind.i64.wrap ↑(BitVec.ofInt IntKind.i64.bits 256 &&& BitVec.ofInt IntKind.i64.bits 32).toNat != 0) 0 1099511627776).bind fun val20 =>
                      bif !val20
                        then some (2)
                        else (command_from x9 (IntKind.i64.wrap ↑(BitVec.ofInt IntKind.i64.bits 256 &&& BitVec.ofInt IntKind.i64.bits 64).toNat != 0) 0 1099511627776).bind fun val24 =>
                          bif !val24
                            then some (2)
                            else (command_from x10 (IntKind.i64.wrap ↑(BitVec.ofInt IntKind.i64.bits 256 &&& BitVec.ofInt IntKind.i64.bits 128).toNat != 0) 0 1099511627776).bind fun val28 =>
                              bif !val28
                                then some (2)
                                else (command_from x11 (IntKind.i64.wrap ↑(BitVec.ofInt IntKind.i64.bits 256 &&& BitVec.ofInt IntKind.i64.bits 256).toNat != 0) 0 1099511627776).bind fun val32 =>
                                  bif !val32
                                    then some (2)
                                    else bif decide (ilen x12 > 0)
                                      then some (1)
                                      else bif decide (ilen x12 > 65536)
                                        then some (6)
                                        else (command_variables x6 x7 (IntKind.i64.wrap ↑(BitVec.ofInt IntKind.i64.bits 256 &&& BitVec.ofInt IntKind.i64.bits 16).toNat != 0)).bind fun val40 =>
                                          some (val40)
  else bif x0 == 2
    then (command_from x1 (IntKind.i64.wrap ↑(BitVec.ofInt IntKind.i64.bits 513 &&& BitVec.ofInt IntKind.i64.bits 1).toNat != 0) 1 1099511627776).bind fun val4 =>
      bif !val4
        then some (1)
        else (command_from x2 (IntKind.i64.wrap ↑(BitVec.ofInt IntKind.i64.bits 513 &&& BitVec.ofInt IntKind.i64.bits 1).toNat != 0) 1 1099511627776).bind fun val8 =>
          bif !val8
            then some (1)
            else (command_text x3 (IntKind.i64.wrap ↑(BitVec.ofInt IntKind.i64.bits 513 &&& BitVec.ofInt IntKind.i64.bits 2).toNat != 0)).bind fun val12 =>
              bif !val12
                then some (1)
                else (command_text x4 (IntKind.i64.wrap ↑(BitVec.ofInt IntKind.i64.bits 513 &&& BitVec.ofInt IntKind.i64.bits 4).toNat != 0)).bind fun val16 =>
                  bif !val16
                    then some (1)
                    else bif x5 != 0
                      then some (1)
                      else (command_from x8 (IntKind.i64.wrap ↑(BitVec.ofInt IntKind.i64.bits 513 &&& BitVec.ofInt IntKind.i64.bits 32).toNat != 0) 0 1099511627776).bind fun val22 =>
                        bif !val22
                          then some (2)
                          else (command_from x9 (IntKind.i64.wrap ↑(BitVec.ofInt IntKind.i64.bits 513 &&& BitVec.ofInt IntKind.i64.bits 64).toNat != 0) 0 1099511627776).bind fun val26 =>
                            bif !val26
                              then some (2)
                              else (command_from x10 (IntKind.i64.wrap ↑(BitVec.ofInt IntKind.i64.bits 513 &&& BitVec.ofInt IntKind.i64.bits 128).toNat != 0) 0 1099511627776).bind fun val30 =>
                                bif !val30
                                  then some (2)
                                  else (command_from x11 (IntKind.i64.wrap ↑(BitVec.ofInt IntKind.i64.bits 513 &&& BitVec.ofInt IntKind.i64.bits 256).toNat != 0) 0 1099511627776).bind fun val34 =>
                                    bif !val34
                                      then some (2)
                                      else bif decide (ilen x12 > 65536)
                                        then some (6)
                                        else (command_variables x6 x7 (IntKind.i64.wrap ↑(BitVec.ofInt IntKind.i64.bits 513 &&& BitVec.ofInt IntKind.i64.bits 16).toNat != 0)).bind fun val40 =>
                                          some (val40)
    else bif x0 == 3
      then (command_from x1 (IntKind.i64.wrap ↑(BitVec.ofInt IntKind.i64.bits 19 &&& BitVec.ofInt IntKind.i64.bits 1).toNat != 0) 1 1099511627776).bind fun val6 =>
        bif !val6
          then some (1)
          else (command_from x2 (IntKind.i64.wrap ↑(BitVec.ofInt IntKind.i64.bits 19 &&& BitVec.ofInt IntKind.i64.bits 1).toNat != 0) 1 1099511627776).bind fun val10 =>
            bif !val10
              then some (1)
              else (command_text x3 (IntKind.i64.wrap ↑(BitVec.ofInt IntKind.i64.bits 19 &&& BitVec.ofInt IntKind.i64.bits 2).toNat != 0)).bind fun val14 =>
                bif !val14
                  then some (1)
                  else (command_text x4 (IntKind.i64.wrap ↑(BitVec.ofInt IntKind.i64.bits 19 &&& BitVec.ofInt IntKind.i64.bits 4).toNat != 0)).bind fun val18 =>
                    bif !val18
                      then some (1)
                      else bif x5 != 0
                        then some (1)
                        else (command_from x8 (IntKind.i64.wrap ↑(BitVec.ofInt IntKind.i64.bits 19 &&& BitVec.ofInt IntKind.i64.bits 32).toNat != 0) 0 1099511627776).bind fun val24 =>
                          bif !val24
                            then some (2)
                            else (command_from x9 (IntKind.i64.wrap ↑(BitVec.ofInt IntKind.i64.bits 19 &&& BitVec.ofInt IntKind.i64.bits 64).toNat != 0) 0 1099511627776).bind fun val28 =>
                              bif !val28
                                then some (2)
                                else (command_from x10 (IntKind.i64.wrap ↑(BitVec.ofInt IntKind.i64.bits 19 &&& BitVec.ofInt IntKind.i64.bits 128).toNat != 0) 0 1099511627776).bind fun val32 =>
                                  bif !val32
                                    then some (2)
                                    else (command_from x11 (IntKind.i64.wrap ↑(BitVec.ofInt IntKind.i64.bits 19 &&& BitVec.ofInt IntKind.i64.bits 256).toNat != 0) 0 1099511627776).bind fun val36 =>
                                      bif !val36
                                        then some (2)
                                        else bif decide (ilen x12 > 0)
                                          then some (1)
                                          else bif decide (ilen x12 > 65536)
                                            then some (6)
                                            else (command_variables x6 x7 (IntKind.i64.wrap ↑(BitVec.ofInt IntKind.i64.bits 19 &&& BitVec.ofInt IntKind.i64.bits 16).toNat != 0)).bind fun val44 =>
                                              some (val44)
      else bif x0 == 4
        then (command_from x1 (IntKind.i64.wrap ↑(BitVec.ofInt IntKind.i64.bits 155 &&& BitVec.ofInt IntKind.i64.bits 1).toNat != 0) 1 1099511627776).bind fun val8 =>
          bif !val8
            then some (1)
            else (command_from x2 (IntKind.i64.wrap ↑(BitVec.ofInt IntKind.i64.bits 155 &&& BitVec.ofInt IntKind.i64.bits 1).toNat != 0) 1 1099511627776).bind fun val12 =>
              bif !val12
                then some (1)
                else (command_text x3 (IntKind.i64.wrap ↑(BitVec.ofInt IntKind.i64.bits 155 &&& BitVec.ofInt IntKind.i64.bits 2).toNat != 0)).bind fun val16 =>
                  bif !val16
                    then some (1)
                    else (command_text x4 (IntKind.i64.wrap ↑(BitVec.ofInt IntKind.i64.bits 155 &&& BitVec.ofInt IntKind.i64.bits 4).toNat != 0)).bind fun val20 =>
                      bif !val20
                        then some (1)
                        else (command_from x8 (IntKind.i64.wrap ↑(BitVec.ofInt IntKind.i64.bits 155 &&& BitVec.ofInt IntKind.i64.bits 32).toNat != 0) 0 1099511627776).bind fun val24 =>
                          bif !val24
                            then some (2)
                            else (command_from x9 (IntKind.i64.wrap ↑(BitVec.ofInt IntKind.i64.bits 155 &&& BitVec.ofInt IntKind.i64.bits 64).toNat != 0) 0 1099511627776).bind fun val28 =>
                              bif !val28
                                then some (2)
                                else (command_from x10 (IntKind.i64.wrap ↑(BitVec.ofInt IntKind.i64.bits 155 &&& BitVec.ofInt IntKind.i64.bits 128).toNat != 0) 0 1099511627776).bind fun val32 =>
                                  bif !val32
                                    then some (2)
                                    else (command_from x11 (IntKind.i64.wrap ↑(BitVec.ofInt IntKind.i64.bits 155 &&& BitVec.ofInt IntKind.i64.bits 256).toNat != 0) 0 1099511627776).bind fun val36 =>
                                      bif !val36
                                        then some (2)
                                        else bif decide (ilen x12 > 0)
                                          then some (1)
                                          else bif decide (ilen x12 > 65536)
                                            then some (6)
                                            else (command_variables x6 x7 (IntKind.i64.wrap ↑(BitVec.ofInt IntKind.i64.bits 155 &&& BitVec.ofInt IntKind.i64.bits 16).toNat != 0)).bind fun val44 =>
                                              some (val44)
        else bif x0 == 5
          then (command_from x1 (IntKind.i64.wrap ↑(BitVec.ofInt IntKind.i64.bits 391 &&& BitVec.ofInt IntKind.i64.bits 1).toNat != 0) 1 1099511627776).bind fun val10 =>
            bif !val10
              then some (1)
              else (command_from x2 (IntKind.i64.wrap ↑(BitVec.ofInt IntKind.i64.bits 391 &&& BitVec.ofInt IntKind.i64.bits 1).toNat != 0) 1 1099511627776).bind fun val14 =>
                bif !val14
                  then some (1)
                  else (command_text x3 (IntKind.i64.wrap ↑(BitVec.ofInt IntKind.i64.bits 391 &&& BitVec.ofInt IntKind.i64.bits 2).toNat != 0)).bind fun val18 =>
                    bif !val18
                      then some (1)
                      else (command_text x4 (IntKind.i64.wrap ↑(BitVec.ofInt IntKind.i64.bits 391 &&& BitVec.ofInt IntKind.i64.bits 4).toNat != 0)).bind fun val22 =>
                        bif !val22
                          then some (1)
                          else bif x5 != 0
                            then some (1)
                            else (command_from x8 (IntKind.i64.wrap ↑(BitVec.ofInt IntKind.i64.bits 391 &&& BitVec.ofInt IntKind.i64.bits 32).toNat != 0) 0 1099511627776).bind fun val28 =>
                              bif !val28
                                then some (2)
                                else (command_from x9 (IntKind.i64.wrap ↑(BitVec.ofInt IntKind.i64.bits 391 &&& BitVec.ofInt IntKind.i64.bits 64).toNat != 0) 0 1099511627776).bind fun val32 =>
                                  bif !val32
                                    then some (2)
                                    else (command_from x10 (IntKind.i64.wrap ↑(BitVec.ofInt IntKind.i64.bits 391 &&& BitVec.ofInt IntKind.i64.bits 128).toNat != 0) 0 1099511627776).bind fun val36 =>
                                      bif !val36
                                        then some (2)
                                        else (command_from x11 (IntKind.i64.wrap ↑(BitVec.ofInt IntKind.i64.bits 391 &&& BitVec.ofInt IntKind.i64.bits 256).toNat != 0) 0 1099511627776).bind fun val40 =>
                                          bif !val40
                                            then some (2)
                                            else bif decide (ilen x12 > 0)
                                              then some (1)
                                              else bif decide (ilen x12 > 65536)
                                                then some (6)
                                                else (command_variables x6 x7 (IntKind.i64.wrap ↑(BitVec.ofInt IntKind.i64.bits 391 &&& BitVec.ofInt IntKind.i64.bits 16).toNat != 0)).bind fun val48 =>
                                                  some (val48)
          else bif x0 == 6
            then (command_from x1 (IntKind.i64.wrap ↑(BitVec.ofInt IntKind.i64.bits 53 &&& BitVec.ofInt IntKind.i64.bits 1).toNat != 0) 1 1099511627776).bind fun val12 =>
              bif !val12
                then some (1)
                else (command_from x2 (IntKind.i64.wrap ↑(BitVec.ofInt IntKind.i64.bits 53 &&& BitVec.ofInt IntKind.i64.bits 1).toNat != 0) 1 1099511627776).bind fun val16 =>
                  bif !val16
                    then some (1)
                    else (command_text x3 (IntKind.i64.wrap ↑(BitVec.ofInt IntKind.i64.bits 53 &&& BitVec.ofInt IntKind.i64.bits 2).toNat != 0)).bind fun val20 =>
                      bif !val20
                        then some (1)
                        else (command_text x4 (IntKind.i64.wrap ↑(BitVec.ofInt IntKind.i64.bits 53 &&& BitVec.ofInt IntKind.i64.bits 4).toNat != 0)).bind fun val24 =>
                          bif !val24
                            then some (1)
                            else bif x5 != 0
                              then some (1)
                              else (command_from x8 (IntKind.i64.wrap ↑(BitVec.ofInt IntKind.i64.bits 53 &&& BitVec.ofInt IntKind.i64.bits 32).toNat != 0) 0 1099511627776).bind fun val30 =>
                                bif !val30
                                  then some (2)
                                  else (command_from x9 (IntKind.i64.wrap ↑(BitVec.ofInt IntKind.i64.bits 53 &&& BitVec.ofInt IntKind.i64.bits 64).toNat != 0) 0 1099511627776).bind fun val34 =>
                                    bif !val34
                                      then some (2)
                                      else (command_from x10 (IntKind.i64.wrap ↑(BitVec.ofInt IntKind.i64.bits 53 &&& BitVec.ofInt IntKind.i64.bits 128).toNat != 0) 0 1099511627776).bind fun val38 =>
                                        bif !val38
                                          then some (2)
                                          else (command_from x11 (IntKind.i64.wrap ↑(BitVec.ofInt IntKind.i64.bits 53 &&& BitVec.ofInt IntKind.i64.bits 256).toNat != 0) 0 1099511627776).bind fun val42 =>
                                            bif !val42
                                              then some (2)
                                              else bif decide (ilen x12 > 0)
                                                then some (1)
                                                else bif decide (ilen x12 > 65536)
                                                  then some (6)
                                                  else (command_variables x6 x7 (IntKind.i64.wrap ↑(BitVec.ofInt IntKind.i64.bits 53 &&& BitVec.ofInt IntKind.i64.bits 16).toNat != 0)).bind fun val50 =>
                                                    some (val50)
            else bif x0 == 7
              then (command_from x1 (IntKind.i64.wrap ↑(BitVec.ofInt IntKind.i64.bits 37 &&& BitVec.ofInt IntKind.i64.bits 1).toNat != 0) 1 1099511627776).bind fun val14 =>
                bif !val14
                  then some (1)
                  else (command_from x2 (IntKind.i64.wrap ↑(BitVec.ofInt IntKind.i64.bits 37 &&& BitVec.ofInt IntKind.i64.bits 1).toNat != 0) 1 1099511627776).bind fun val18 =>
                    bif !val18
                      then some (1)
                      else (command_text x3 (IntKind.i64.wrap ↑(BitVec.ofInt IntKind.i64.bits 37 &&& BitVec.ofInt IntKind.i64.bits 2).toNat != 0)).bind fun val22 =>
                        bif !val22
                          then some (1)
                          else (command_text x4 (IntKind.i64.wrap ↑(BitVec.ofInt IntKind.i64.bits 37 &&& BitVec.ofInt IntKind.i64.bits 4).toNat != 0)).bind fun val26 =>
                            bif !val26
                              then some (1)
                              else bif x5 != 0
                                then some (1)
                                else (command_from x8 (IntKind.i64.wrap ↑(BitVec.ofInt IntKind.i64.bits 37 &&& BitVec.ofInt IntKind.i64.bits 32).toNat != 0) 0 1099511627776).bind fun val32 =>
                                  bif !val32
                                    then some (2)
                                    else (command_from x9 (IntKind.i64.wrap ↑(BitVec.ofInt IntKind.i64.bits 37 &&& BitVec.ofInt IntKind.i64.bits 64).toNat != 0) 0 1099511627776).bind fun val36 =>
                                      bif !val36
                                        then some (2)
                                        else (command_from x10 (IntKind.i64.wrap ↑(BitVec.ofInt IntKind.i64.bits 37 &&& BitVec.ofInt IntKind.i64.bits 128).toNat != 0) 0 1099511627776).bind fun val40 =>
                                          bif !val40
                                            then some (2)
                                            else (command_from x11 (IntKind.i64.wrap ↑(BitVec.ofInt IntKind.i64.bits 37 &&& BitVec.ofInt IntKind.i64.bits 256).toNat != 0) 0 1099511627776).bind fun val44 =>
                                              bif !val44
                                                then some (2)
                                                else bif decide (ilen x12 > 0)
                                                  then some (1)
                                                  else bif decide (ilen x12 > 65536)
                                                    then some (6)
                                                    else (command_variables x6 x7 (IntKind.i64.wrap ↑(BitVec.ofInt IntKind.i64.bits 37 &&& BitVec.ofInt IntKind.i64.bits 16).toNat != 0)).bind fun val52 =>
                                                      some (val52)
              else bif x0 == 8
                then (command_from x1 (IntKind.i64.wrap ↑(BitVec.ofInt IntKind.i64.bits 113 &&& BitVec.ofInt IntKind.i64.bits 1).toNat != 0) 1 1099511627776).bind fun val16 =>
                  bif !val16
                    then some (1)
                    else (command_from x2 (IntKind.i64.wrap ↑(BitVec.ofInt IntKind.i64.bits 113 &&& BitVec.ofInt IntKind.i64.bits 1).toNat != 0) 1 1099511627776).bind fun val20 =>
                      bif !val20
                        then some (1)
                        else (command_text x3 (IntKind.i64.wrap ↑(BitVec.ofInt IntKind.i64.bits 113 &&& BitVec.ofInt IntKind.i64.bits 2).toNat != 0)).bind fun val24 =>
                          bif !val24
                            then some (1)
                            else (command_text x4 (IntKind.i64.wrap ↑(BitVec.ofInt IntKind.i64.bits 113 &&& BitVec.ofInt IntKind.i64.bits 4).toNat != 0)).bind fun val28 =>
                              bif !val28
                                then some (1)
                                else bif x5 != 0
                                  then some (1)
                                  else (command_from x8 (IntKind.i64.wrap ↑(BitVec.ofInt IntKind.i64.bits 113 &&& BitVec.ofInt IntKind.i64.bits 32).toNat != 0) 0 1099511627776).bind fun val34 =>
                                    bif !val34
                                      then some (2)
                                      else (command_from x9 (IntKind.i64.wrap ↑(BitVec.ofInt IntKind.i64.bits 113 &&& BitVec.ofInt IntKind.i64.bits 64).toNat != 0) 0 1099511627776).bind fun val38 =>
                                        bif !val38
                                          then some (2)
                                          else (command_from x10 (IntKind.i64.wrap ↑(BitVec.ofInt IntKind.i64.bits 113 &&& BitVec.ofInt IntKind.i64.bits 128).toNat != 0) 0 1099511627776).bind fun val42 =>
                                            bif !val42
                                              then some (2)
                                              else (command_from x11 (IntKind.i64.wrap ↑(BitVec.ofInt IntKind.i64.bits 113 &&& BitVec.ofInt IntKind.i64.bits 256).toNat != 0) 0 1099511627776).bind fun val46 =>
                                                bif !val46
                                                  then some (2)
                                                  else bif decide (ilen x12 > 0)
                                                    then some (1)
                                                    else bif decide (ilen x12 > 65536)
                                                      then some (6)
                                                      else (command_variables x6 x7 (IntKind.i64.wrap ↑(BitVec.ofInt IntKind.i64.bits 113 &&& BitVec.ofInt IntKind.i64.bits 16).toNat != 0)).bind fun val54 =>
                                                        some (val54)
                else bif x0 == 9
                  then (command_from x1 (IntKind.i64.wrap ↑(BitVec.ofInt IntKind.i64.bits 161 &&& BitVec.ofInt IntKind.i64.bits 1).toNat != 0) 1 1099511627776).bind fun val18 =>
                    bif !val18
                      then some (1)
                      else (command_from x2 (IntKind.i64.wrap ↑(BitVec.ofInt IntKind.i64.bits 161 &&& BitVec.ofInt IntKind.i64.bits 1).toNat != 0) 1 1099511627776).bind fun val22 =>
                        bif !val22
                          then some (1)
                          else (command_text x3 (IntKind.i64.wrap ↑(BitVec.ofInt IntKind.i64.bits 161 &&& BitVec.ofInt IntKind.i64.bits 2).toNat != 0)).bind fun val26 =>
                            bif !val26
                              then some (1)
                              else (command_text x4 (IntKind.i64.wrap ↑(BitVec.ofInt IntKind.i64.bits 161 &&& BitVec.ofInt IntKind.i64.bits 4).toNat != 0)).bind fun val30 =>
                                bif !val30
                                  then some (1)
                                  else bif x5 != 0
                                    then some (1)
                                    else (command_from x8 (IntKind.i64.wrap ↑(BitVec.ofInt IntKind.i64.bits 161 &&& BitVec.ofInt IntKind.i64.bits 32).toNat != 0) 0 1099511627776).bind fun val36 =>
                                      bif !val36
                                        then some (2)
                                        else (command_from x9 (IntKind.i64.wrap ↑(BitVec.ofInt IntKind.i64.bits 161 &&& BitVec.ofInt IntKind.i64.bits 64).toNat != 0) 0 1099511627776).bind fun val40 =>
                                          bif !val40
                                            then some (2)
                                            else (command_from x10 (IntKind.i64.wrap ↑(BitVec.ofInt IntKind.i64.bits 161 &&& BitVec.ofInt IntKind.i64.bits 128).toNat != 0) 0 1099511627776).bind fun val44 =>
                                              bif !val44
                                                then some (2)
                                                else (command_from x11 (IntKind.i64.wrap ↑(BitVec.ofInt IntKind.i64.bits 161 &&& BitVec.ofInt IntKind.i64.bits 256).toNat != 0) 0 1099511627776).bind fun val48 =>
                                                  bif !val48
                                                    then some (2)
                                                    else bif decide (ilen x12 > 0)
                                                      then some (1)
                                                      else bif decide (ilen x12 > 65536)
                                                        then some (6)
                                                        else (command_variables x6 x7 (IntKind.i64.wrap ↑(BitVec.ofInt IntKind.i64.bits 161 &&& BitVec.ofInt IntKind.i64.bits 16).toNat != 0)).bind fun val56 =>
                                                          some (val56)
                  else bif x0 == 10
                    then (command_from x1 (IntKind.i64.wrap ↑(BitVec.ofInt IntKind.i64.bits 33 &&& BitVec.ofInt IntKind.i64.bits 1).toNat != 0) 1 1099511627776).bind fun val20 =>
                      bif !val20
                        then some (1)
                        else (command_from x2 (IntKind.i64.wrap ↑(BitVec.ofInt IntKind.i64.bits 33 &&& BitVec.ofInt IntKind.i64.bits 1).toNat != 0) 1 1099511627776).bind fun val24 =>
                          bif !val24
                            then some (1)
                            else (command_text x3 (IntKind.i64.wrap ↑(BitVec.ofInt IntKind.i64.bits 33 &&& BitVec.ofInt IntKind.i64.bits 2).toNat != 0)).bind fun val28 =>
                              bif !val28
                                then some (1)
                                else (command_text x4 (IntKind.i64.wrap ↑(BitVec.ofInt IntKind.i64.bits 33 &&& BitVec.ofInt IntKind.i64.bits 4).toNat != 0)).bind fun val32 =>
                                  bif !val32
                                    then some (1)
                                    else bif x5 != 0
                                      then some (1)
                                      else (command_from x8 (IntKind.i64.wrap ↑(BitVec.ofInt IntKind.i64.bits 33 &&& BitVec.ofInt IntKind.i64.bits 32).toNat != 0) 0 1099511627776).bind fun val38 =>
                                        bif !val38
                                          then some (2)
                                          else (command_from x9 (IntKind.i64.wrap ↑(BitVec.ofInt IntKind.i64.bits 33 &&& BitVec.ofInt IntKind.i64.bits 64).toNat != 0) 0 1099511627776).bind fun val42 =>
                                            bif !val42
                                              then some (2)
                                              else (command_from x10 (IntKind.i64.wrap ↑(BitVec.ofInt IntKind.i64.bits 33 &&& BitVec.ofInt IntKind.i64.bits 128).toNat != 0) 0 1099511627776).bind fun val46 =>
                                                bif !val46
                                                  then some (2)
                                                  else (command_from x11 (IntKind.i64.wrap ↑(BitVec.ofInt IntKind.i64.bits 33 &&& BitVec.ofInt IntKind.i64.bits 256).toNat != 0) 0 1099511627776).bind fun val50 =>
                                                    bif !val50
                                                      then some (2)
                                                      else bif decide (ilen x12 > 0)
                                                        then some (1)
                                                        else bif decide (ilen x12 > 65536)
                                                          then some (6)
                                                          else (command_variables x6 x7 (IntKind.i64.wrap ↑(BitVec.ofInt IntKind.i64.bits 33 &&& BitVec.ofInt IntKind.i64.bits 16).toNat != 0)).bind fun val58 =>
                                                            some (val58)
                    else bif x0 == 11
                      then (command_from x1 (IntKind.i64.wrap ↑(BitVec.ofInt IntKind.i64.bits 672 &&& BitVec.ofInt IntKind.i64.bits 1).toNat != 0) 1 1099511627776).bind fun val22 =>
                        bif !val22
                          then some (1)
                          else (command_from x2 (IntKind.i64.wrap ↑(BitVec.ofInt IntKind.i64.bits 672 &&& BitVec.ofInt IntKind.i64.bits 1).toNat != 0) 1 1099511627776).bind fun val26 =>
                            bif !val26
                              then some (1)
                              else (command_text x3 (IntKind.i64.wrap ↑(BitVec.ofInt IntKind.i64.bits 672 &&& BitVec.ofInt IntKind.i64.bits 2).toNat != 0)).bind fun val30 =>
                                bif !val30
                                  then some (1)
                                  else (command_text x4 (IntKind.i64.wrap ↑(BitVec.ofInt IntKind.i64.bits 672 &&& BitVec.ofInt IntKind.i64.bits 4).toNat != 0)).bind fun val34 =>
                                    bif !val34
                                      then some (1)
                                      else bif x5 != 0
                                        then some (1)
                                        else (command_from x8 (IntKind.i64.wrap ↑(BitVec.ofInt IntKind.i64.bits 672 &&& BitVec.ofInt IntKind.i64.bits 32).toNat != 0) 0 1099511627776).bind fun val40 =>
                                          bif !val40
                                            then some (2)
                                            else (command_from x9 (IntKind.i64.wrap ↑(BitVec.ofInt IntKind.i64.bits 672 &&& BitVec.ofInt IntKind.i64.bits 64).toNat != 0) 0 1099511627776).bind fun val44 =>
                                              bif !val44
                                                then some (2)
                                                else (command_from x10 (IntKind.i64.wrap ↑(BitVec.ofInt IntKind.i64.bits 672 &&& BitVec.ofInt IntKind.i64.bits 128).toNat != 0) 0 1099511627776).bind fun val48 =>
                                                  bif !val48
                                                    then some (2)
                                                    else (command_from x11 (IntKind.i64.wrap ↑(BitVec.ofInt IntKind.i64.bits 672 &&& BitVec.ofInt IntKind.i64.bits 256).toNat != 0) 0 1099511627776).bind fun val52 =>
                                                      bif !val52
                                                        then some (2)
                                                        else bif decide (ilen x12 > 65536)
                                                          then some (6)
                                                          else (command_variables x6 x7 (IntKind.i64.wrap ↑(BitVec.ofInt IntKind.i64.bits 672 &&& BitVec.ofInt IntKind.i64.bits 16).toNat != 0)).bind fun val58 =>
                                                            some (val58)
                      else bif x0 == 12
                        then (command_from x1 (IntKind.i64.wrap ↑(BitVec.ofInt IntKind.i64.bits 160 &&& BitVec.ofInt IntKind.i64.bits 1).toNat != 0) 1 1099511627776).bind fun val24 =>
                          bif !val24
                            then some (1)
                            else (command_from x2 (IntKind.i64.wrap ↑(BitVec.ofInt IntKind.i64.bits 160 &&& BitVec.ofInt IntKind.i64.bits 1).toNat != 0) 1 1099511627776).bind fun val28 =>
                              bif !val28
                                then some (1)
                                else (command_text x3 (IntKind.i64.wrap ↑(BitVec.ofInt IntKind.i64.bits 160 &&& BitVec.ofInt IntKind.i64.bits 2).toNat != 0)).bind fun val32 =>
                                  bif !val32
                                    then some (1)
                                    else (command_text x4 (IntKind.i64.wrap ↑(BitVec.ofInt IntKind.i64.bits 160 &&& BitVec.ofInt IntKind.i64.bits 4).toNat != 0)).bind fun val36 =>
                                      bif !val36
                                        then some (1)
                                        else bif x5 != 0
                                          then some (1)
                                          else (command_from x8 (IntKind.i64.wrap ↑(BitVec.ofInt IntKind.i64.bits 160 &&& BitVec.ofInt IntKind.i64.bits 32).toNat != 0) 0 1099511627776).bind fun val42 =>
                                            bif !val42
                                              then some (2)
                                              else (command_from x9 (IntKind.i64.wrap ↑(BitVec.ofInt IntKind.i64.bits 160 &&& BitVec.ofInt IntKind.i64.bits 64).toNat != 0) 0 1099511627776).bind fun val46 =>
                                                bif !val46
                                                  then some (2)
                                                  else (command_from x10 (IntKind.i64.wrap ↑(BitVec.ofInt IntKind.i64.bits 160 &&& BitVec.ofInt IntKind.i64.bits 128).toNat != 0) 0 1099511627776).bind fun val50 =>
                                                    bif !val50
                                                      then some (2)
                                                      else (command_from x11 (IntKind.i64.wrap ↑(BitVec.ofInt IntKind.i64.bits 160 &&& BitVec.ofInt IntKind.i64.bits 256).toNat != 0) 0 1099511627776).bind fun val54 =>
                                                        bif !val54
                                                          then some (2)
                                                          else bif decide (ilen x12 > 0)
                                                            then some (1)
                                                            else bif decide (ilen x12 > 65536)
                                                              then some (6)
                                                              else (command_variables x6 x7 (IntKind.i64.wrap ↑(BitVec.ofInt IntKind.i64.bits 160 &&& BitVec.ofInt IntKind.i64.bits 16).toNat != 0)).bind fun val62 =>
                                                                some (val62)
                        else some (1) := (cmd_Check_raw x0 x1 x2 x3 x4 x5 x6 x7 x8 x9 x10 x11 x12).trans (by kernel_rfl)
noncomputable def cmd_Check_sig : Sig := { pm := [(true, [(false, .int .i64), (false, .int .i64), (false, .int .i64), (false, .str), (false, .str), (false, .int .i64), (false, .slice (.str)), (false, .slice (.int .i64)), (false, .int .i64), (false, .int .i64), (false, .int .i64), (false, .int .i64), (false, .slice (.int .u8))])], rm := [(false, [(false, .int .i64)])], f := fun | [⟨.int .i64, x0⟩, ⟨.int .i64, x1⟩, ⟨.int .i64, x2⟩, ⟨.str, x3⟩, ⟨.str, x4⟩, ⟨.int .i64, x5⟩, ⟨.slice (.str), x6⟩, ⟨.slice (.int .i64), x7⟩, ⟨.int .i64, x8⟩, ⟨.int .i64, x9⟩, ⟨.int .i64, x10⟩, ⟨.int .i64, x11⟩, ⟨.slice (.int .u8), x12⟩] => .yes _ (cmd_Check x0 x1 x2 x3 x4 x5 x6 x7 x8 x9 x10 x11 x12) cmd_Check_mk | _ => .no }
theorem cmd_Check_ok : SigOk Tryd.prog 45 cmd_Check_sig := by
  refine contract_of (C := cmd_Check_C) (d := 3) ⟨S26_ok, noPs⟩ (callable_ex (by kernel_rfl)) ?_
  intro dvs
  unfold cmd_Check_sig
  dsimp only
  split
  · refine .inr ⟨_, cmd_Check_un, cmd_Check_mk, congrArg (fun o => Cl.yes _ o _) (cmd_Check_raw _ _ _ _ _ _ _ _ _ _ _ _ _), ?_⟩
    intro ds x h
    unfold cmd_Check_un at h
    split at h
    · cases h; rfl
    · cases h
  · exact .inl rfl
noncomputable def S27 : List (Nat × Sig) := (45, cmd_Check_sig) :: S26
theorem S27_ok : ListOk Tryd.prog S27 := ListOk.cons S26_ok cmd_Check_ok
noncomputable def cmd_Put_C : Cfg := { P := Tryd.prog, sig := lookSig S27, hb := fun _ _ => none, hr := fun _ _ => none }
noncomputable def cmd_Put_un : List DV → Option ((List Int) × Int) := fun | [⟨.slice (.int .u8), r0⟩, ⟨.int .i64, r1⟩] => some (r0, r1) | _ => none
noncomputable def cmd_Put_mk : ((List Int) × Int) → List DV := fun ⟨r0, r1⟩ => [⟨.slice (.int .u8), r0⟩, ⟨.int .i64, r1⟩]
theorem cmd_Put_ex : ∃ f : (Int) → (Int) → (Int) → (ByteArray) → (ByteArray) → (Int) → (List ByteArray) → (List Int) → (Int) → (Int) → (Int) → (Int) → (List Int) → Option ((List Int) × Int), f = fun (x0 : Int) (x1 : Int) (x2 : Int) (x3 : ByteArray) (x4 : ByteArray) (x5 : Int) (x6 : List ByteArray) (x7 : List Int) (x8 : Int) (x9 : Int) (x10 : Int) (x11 : Int) (x12 : List Int) => funRun cmd_Put_C 3 26 [(true, [(false, .int .i64), (false, .int .i64), (false, .int .i64), (false, .str), (false, .str), (false, .int .i64), (false, .slice (.str)), (false, .slice (.int .i64)), (false, .int .i64), (false, .int .i64), (false, .int .i64), (false, .int .i64), (false, .slice (.int .u8))])] [(false, [(true, .slice (.int .u8))]), (false, [(false, .int .i64)])] cmd_Put_un [⟨.int .i64, x0⟩, ⟨.int .i64, x1⟩, ⟨.int .i64, x2⟩, ⟨.str, x3⟩, ⟨.str, x4⟩, ⟨.int .i64, x5⟩, ⟨.slice (.str), x6⟩, ⟨.slice (.int .i64), x7⟩, ⟨.int .i64, x8⟩, ⟨.int .i64, x9⟩, ⟨.int .i64, x10⟩, ⟨.int .i64, x11⟩, ⟨.slice (.int .u8), x12⟩] := ⟨_, rfl⟩
noncomputable def cmd_Put : (Int) → (Int) → (Int) → (ByteArray) → (ByteArray) → (Int) → (List ByteArray) → (List Int) → (Int) → (Int) → (Int) → (Int) → (List Int) → Option ((List Int) × Int) := cmd_Put_ex.choose
theorem cmd_Put_raw (x0 : Int) (x1 : Int) (x2 : Int) (x3 : ByteArray) (x4 : ByteArray) (x5 : Int) (x6 : List ByteArray) (x7 : List Int) (x8 : Int) (x9 : Int) (x10 : Int) (x11 : Int) (x12 : List Int) : cmd_Put x0 x1 x2 x3 x4 x5 x6 x7 x8 x9 x10 x11 x12 = funRun cmd_Put_C 3 26 [(true, [(false, .int .i64), (false, .int .i64), (false, .int .i64), (false, .str), (false, .str), (false, .int .i64), (false, .slice (.str)), (false, .slice (.int .i64)), (false, .int .i64), (false, .int .i64), (false, .int .i64), (false, .int .i64), (false, .slice (.int .u8))])] [(false, [(true, .slice (.int .u8))]), (false, [(false, .int .i64)])] cmd_Put_un [⟨.int .i64, x0⟩, ⟨.int .i64, x1⟩, ⟨.int .i64, x2⟩, ⟨.str, x3⟩, ⟨.str, x4⟩, ⟨.int .i64, x5⟩, ⟨.slice (.str), x6⟩, ⟨.slice (.int .i64), x7⟩, ⟨.int .i64, x8⟩, ⟨.int .i64, x9⟩, ⟨.int .i64, x10⟩, ⟨.int .i64, x11⟩, ⟨.slice (.int .u8), x12⟩] := congrFun (congrFun (congrFun (congrFun (congrFun (congrFun (congrFun (congrFun (congrFun (congrFun (congrFun (congrFun (congrFun (cmd_Put_ex.choose_spec) x0) x1) x2) x3) x4) x5) x6) x7) x8) x9) x10) x11) x12
theorem cmd_Put_eq (x0 : Int) (x1 : Int) (x2 : Int) (x3 : ByteArray) (x4 : ByteArray) (x5 : Int) (x6 : List ByteArray) (x7 : List Int) (x8 : Int) (x9 : Int) (x10 : Int) (x11 : Int) (x12 : List Int) : cmd_Put x0 x1 x2 x3 x4 x5 x6 x7 x8 x9 x10 x11 x12 =
  (cmd_Check x0 x1 x2 x3 x4 x5 x6 x7 x8 x9 x10 x11 x12).bind fun val0 =>
  bif val0 != 0
    then some (([]), (val0))
    else bif x0 == 1
      then (pack_Uint [IntKind.u8.wrap x0] (IntKind.u64.wrap x11)).bind fun val6 =>
        some ((val6), (0))
      else bif x0 == 2
        then (pack_Uint [IntKind.u8.wrap x0] (IntKind.u64.wrap x1)).bind fun val8 =>
          (pack_Uint val8 (IntKind.u64.wrap x2)).bind fun val10 =>
            (pack_Bytes val10 x12).bind fun val12 =>
              some ((val12), (0))
        else bif x0 == 3
          then (pack_Uint [IntKind.u8.wrap x0] (IntKind.u64.wrap x1)).bind fun val10 =>
            (pack_Uint val10 (IntKind.u64.wrap x2)).bind fun val12 =>
              (pack_Bytes val12 (bytesList x3)).bind fun val14 =>
                (vars_Put val14 x6 x7).bind fun val16 =>
                  some ((val16), (0))
          else bif x0 == 4
            then (pack_Uint [IntKind.u8.wrap x0] (IntKind.u64.wrap x1)).bind fun val12 =>
              (pack_Uint val12 (IntKind.u64.wrap x2)).bind fun val14 =>
                (pack_Uint val14 (IntKind.u64.wrap x10)).bind fun val16 =>
                  (pack_Bytes val16 (bytesList x3)).bind fun val18 =>
                    (pack_Int val18 x5).bind fun val20 =>
                      (vars_Put val20 x6 x7).bind fun val22 =>
                        some ((val22), (0))
            else bif x0 == 5
              then (pack_Uint [IntKind.u8.wrap x0] (IntKind.u64.wrap x1)).bind fun val14 =>
                (pack_Uint val14 (IntKind.u64.wrap x2)).bind fun val16 =>
                  (pack_Uint val16 (IntKind.u64.wrap x10)).bind fun val18 =>
                    (pack_Uint val18 (IntKind.u64.wrap x11)).bind fun val20 =>
                      (pack_Bytes val20 (bytesList x3)).bind fun val22 =>
                        (pack_Bytes val22 (bytesList x4)).bind fun val24 =>
                          some ((val24), (0))
              else bif x0 == 6
                then (pack_Uint [IntKind.u8.wrap x0] (IntKind.u64.wrap x1)).bind fun val16 =>
                  (pack_Uint val16 (IntKind.u64.wrap x2)).bind fun val18 =>
                    (pack_Uint val18 (IntKind.u64.wrap x8)).bind fun val20 =>
                      (pack_Bytes val20 (bytesList x4)).bind fun val22 =>
                        (vars_Put val22 x6 x7).bind fun val24 =>
                          some ((val24), (0))
                else bif x0 == 7
                  then (pack_Uint [IntKind.u8.wrap x0] (IntKind.u64.wrap x1)).bind fun val18 =>
                    (pack_Uint val18 (IntKind.u64.wrap x2)).bind fun val20 =>
                      (pack_Uint val20 (IntKind.u64.wrap x8)).bind fun val22 =>
                        (pack_Bytes val22 (bytesList x4)).bind fun val24 =>
                          some ((val24), (0))
                  else bif x0 == 8
                    then (pack_Uint [IntKind.u8.wrap x0] (IntKind.u64.wrap x1)).bind fun val20 =>
                      (pack_Uint val20 (IntKind.u64.wrap x2)).bind fun val22 =>
                        (pack_Uint val22 (IntKind.u64.wrap x8)).bind fun val24 =>
                          (pack_Uint val24 (IntKind.u64.wrap x9)).bind fun val26 =>
                            (vars_Put val26 x6 x7).bind fun val28 =>
                              some ((val28), (0))
                    else bif x0 == 9
                      then (pack_Uint [IntKind.u8.wrap x0] (IntKind.u64.wrap x1)).bind fun val22 =>
                        (pack_Uint val22 (IntKind.u64.wrap x2)).bind fun val24 =>
                          (pack_Uint val24 (IntKind.u64.wrap x8)).bind fun val26 =>
                            (pack_Uint val26 (IntKind.u64.wrap x10)).bind fun val28 =>
                              some ((val28), (0))
                      else bif x0 == 10
                        then (pack_Uint [IntKind.u8.wrap x0] (IntKind.u64.wrap x1)).bind fun val24 =>
                          (pack_Uint val24 (IntKind.u64.wrap x2)).bind fun val26 =>
                            (pack_Uint val26 (IntKind.u64.wrap x8)).bind fun val28 =>
                              some ((val28), (0))
                        else bif x0 == 11
                          then (pack_Uint [IntKind.u8.wrap x0] (IntKind.u64.wrap x8)).bind fun val26 =>
                            (pack_Uint val26 (IntKind.u64.wrap x10)).bind fun val28 =>
                              (pack_Bytes val28 x12).bind fun val30 =>
                                some ((val30), (0))
                          else bif x0 == 12
                            then (pack_Uint [IntKind.u8.wrap x0] (IntKind.u64.wrap x8)).bind fun val28 =>
                              (pack_Uint val28 (IntKind.u64.wrap x10)).bind fun val30 =>
                                some ((val30), (0))
                            else some (([IntKind.u8.wrap x0]), (0)) := (cmd_Put_raw x0 x1 x2 x3 x4 x5 x6 x7 x8 x9 x10 x11 x12).trans (by kernel_rfl)
noncomputable def cmd_Put_sig : Sig := { pm := [(true, [(false, .int .i64), (false, .int .i64), (false, .int .i64), (false, .str), (false, .str), (false, .int .i64), (false, .slice (.str)), (false, .slice (.int .i64)), (false, .int .i64), (false, .int .i64), (false, .int .i64), (false, .int .i64), (false, .slice (.int .u8))])], rm := [(false, [(true, .slice (.int .u8))]), (false, [(false, .int .i64)])], f := fun | [⟨.int .i64, x0⟩, ⟨.int .i64, x1⟩, ⟨.int .i64, x2⟩, ⟨.str, x3⟩, ⟨.str, x4⟩, ⟨.int .i64, x5⟩, ⟨.slice (.str), x6⟩, ⟨.slice (.int .i64), x7⟩, ⟨.int .i64, x8⟩, ⟨.int .i64, x9⟩, ⟨.int .i64, x10⟩, ⟨.int .i64, x11⟩, ⟨.slice (.int .u8), x12⟩] => .yes _ (cmd_Put x0 x1 x2 x3 x4 x5 x6 x7 x8 x9 x10 x11 x12) cmd_Put_mk | _ => .no }
theorem cmd_Put_ok : SigOk Tryd.prog 26 cmd_Put_sig := by
  refine contract_of (C := cmd_Put_C) (d := 3) ⟨S27_ok, noPs⟩ (callable_ex (by kernel_rfl)) ?_
  intro dvs
  unfold cmd_Put_sig
  dsimp only
  split
  · refine .inr ⟨_, cmd_Put_un, cmd_Put_mk, congrArg (fun o => Cl.yes _ o _) (cmd_Put_raw _ _ _ _ _ _ _ _ _ _ _ _ _), ?_⟩
    intro ds x h
    unfold cmd_Put_un at h
    split at h
    · cases h; rfl
    · cases h
  · exact .inl rfl
noncomputable def S28 : List (Nat × Sig) := (26, cmd_Put_sig) :: S27
theorem S28_ok : ListOk Tryd.prog S28 := ListOk.cons S27_ok cmd_Put_ok
noncomputable def ref24_has_C : Cfg := { P := Tryd.prog, sig := lookSig S28, hb := fun f b =>   bif Nat.beq f 35 && Nat.beq b 1 then some { tmps := [1, 5, 6], obs := [], nils := [], kl := [] } else none, hr := fun f b =>   bif Nat.beq f 35 && Nat.beq b 27 then some { tmps := [1, 5], obs := [], nils := [], kl := [] } else none }
noncomputable def ref24_has_un : List DV → Option (Bool) := fun | [⟨.bool, r0⟩] => some r0 | _ => none
noncomputable def ref24_has_mk : Bool → List DV := fun r0 => [⟨.bool, r0⟩]
theorem ref24_has_ex : ∃ f : (Int) → (Int) → Option (Bool), f = fun (x0 : Int) (x1 : Int) => funRun ref24_has_C 3 35 [(false, [(false, .int .i64)]), (false, [(false, .int .u8)])] [(false, [(false, .bool)])] ref24_has_un [⟨.int .i64, x0⟩, ⟨.int .u8, x1⟩] := ⟨_, rfl⟩
noncomputable def ref24_has : (Int) → (Int) → Option (Bool) := ref24_has_ex.choose
theorem ref24_has_raw (x0 : Int) (x1 : Int) : ref24_has x0 x1 = funRun ref24_has_C 3 35 [(false, [(false, .int .i64)]), (false, [(false, .int .u8)])] [(false, [(false, .bool)])] ref24_has_un [⟨.int .i64, x0⟩, ⟨.int .u8, x1⟩] := congrFun (congrFun (ref24_has_ex.choose_spec) x0) x1
noncomputable def ref24_has_r27 (y0 : Int) (y1 : ByteArray) : Option (Bool) := regAt ref24_has_C 3 35 [(false, [(false, .bool)])] ref24_has_un [true, true, true, false, false] (St.ofLists [(1, .int .u8 y0), (5, .str y1)] [] [])
noncomputable def ref24_has_l1 (y0 : Int) (y1 : ByteArray) (y2 : Int) : Option (Bool) := loopAt ref24_has_C 3 35 [(false, [(false, .bool)])] ref24_has_un [true, true, true, false, true, false] (St.ofLists [(1, .int .u8 y0), (5, .str y1), (6, .int .i64 y2)] [] [])
theorem ref24_has_eq (x0 : Int) (x1 : Int) : ref24_has x0 x1 =
  bif x0 == 1
  then ref24_has_r27 (x1) ((⟨#[116]⟩ : ByteArray))
  else bif x0 == 2
    then ref24_has_r27 (x1) ((⟨#[97, 100]⟩ : ByteArray))
    else bif x0 == 3
      then ref24_has_r27 (x1) ((⟨#[97, 110, 118]⟩ : ByteArray))
      else bif x0 == 4
        then ref24_has_r27 (x1) ((⟨#[97, 110, 107, 118, 99]⟩ : ByteArray))
        else bif x0 == 5
          then ref24_has_r27 (x1) ((⟨#[97, 110, 119, 99, 116]⟩ : ByteArray))
          else bif x0 == 6
            then ref24_has_r27 (x1) ((⟨#[97, 119, 118, 105]⟩ : ByteArray))
            else bif x0 == 7
              then ref24_has_r27 (x1) ((⟨#[97, 119, 105]⟩ : ByteArray))
              else bif x0 == 8
                then ref24_has_r27 (x1) ((⟨#[97, 118, 105, 111]⟩ : ByteArray))
                else bif x0 == 9
                  then ref24_has_r27 (x1) ((⟨#[97, 105, 99]⟩ : ByteArray))
                  else bif x0 == 10
                    then ref24_has_r27 (x1) ((⟨#[97, 105]⟩ : ByteArray))
                    else bif x0 == 11
                      then ref24_has_r27 (x1) ((⟨#[105, 99, 100]⟩ : ByteArray))
                      else bif x0 == 12
                        then ref24_has_r27 (x1) ((⟨#[105, 99]⟩ : ByteArray))
                        else ref24_has_r27 (x1) ((⟨#[]⟩ : ByteArray)) := (ref24_has_raw x0 x1).trans (by kernel_rfl)
theorem ref24_has_r27_eq (y0 : Int) (y1 : ByteArray) : ref24_has_r27 y0 y1 =
  ref24_has_l1 (y0) (y1) (0) := (regAt_step _ _ _ _ _ _ _).trans (by kernel_rfl)
theorem ref24_has_l1_eq (y0 : Int) (y1 : ByteArray) (y2 : Int) : ref24_has_l1 y0 y1 y2 =
  bif decide (y2 < isize y1)
  then bif decide (0 ≤ y2)
    then (y1.data[y2.toNat]?).bind fun val4 =>
      bif (val4.toNat : Int) == y0
        then some true
        else ref24_has_l1 (y0) (y1) (IntKind.i64.wrap (y2 + 1))
    else none
  else some false := (loopAt_step _ _ _ _ _ _ _).trans (by kernel_rfl)
noncomputable def ref24_has_sig : Sig := { pm := [(false, [(false, .int .i64)]), (false, [(false, .int .u8)])], rm := [(false, [(false, .bool)])], f := fun | [⟨.int .i64, x0⟩, ⟨.int .u8, x1⟩] => .yes _ (ref24_has x0 x1) ref24_has_mk | _ => .no }
theorem ref24_has_ok : SigOk Tryd.prog 35 ref24_has_sig := by
  refine contract_of (C := ref24_has_C) (d := 3) ⟨S28_ok, noPs⟩ (callable_ex (by kernel_rfl)) ?_
  intro dvs
  unfold ref24_has_sig
  dsimp only
  split
  · refine .inr ⟨_, ref24_has_un, ref24_has_mk, congrArg (fun o => Cl.yes _ o _) (ref24_has_raw _ _), ?_⟩
    intro ds x h
    unfold ref24_has_un at h
    split at h
    · cases h; rfl
    · cases h
  · exact .inl rfl
noncomputable def S29 : List (Nat × Sig) := (35, ref24_has_sig) :: S28
theorem S29_ok : ListOk Tryd.prog S29 := ListOk.cons S28_ok ref24_has_ok
noncomputable def ref24_in_C : Cfg := { P := Tryd.prog, sig := lookSig S29, hb := fun _ _ => none, hr := fun _ _ => none }
noncomputable def ref24_in_un : List DV → Option (Bool) := fun | [⟨.bool, r0⟩] => some r0 | _ => none
noncomputable def ref24_in_mk : Bool → List DV := fun r0 => [⟨.bool, r0⟩]
theorem ref24_in_ex : ∃ f : (Int) → (Bool) → (Int) → Option (Bool), f = fun (x0 : Int) (x1 : Bool) (x2 : Int) => funRun ref24_in_C 3 64 [(false, [(false, .int .i64)]), (false, [(false, .bool)]), (false, [(false, .int .i64)])] [(false, [(false, .bool)])] ref24_in_un [⟨.int .i64, x0⟩, ⟨.bool, x1⟩, ⟨.int .i64, x2⟩] := ⟨_, rfl⟩
noncomputable def ref24_in : (Int) → (Bool) → (Int) → Option (Bool) := ref24_in_ex.choose
theorem ref24_in_raw (x0 : Int) (x1 : Bool) (x2 : Int) : ref24_in x0 x1 x2 = funRun ref24_in_C 3 64 [(false, [(false, .int .i64)]), (false, [(false, .bool)]), (false, [(false, .int .i64)])] [(false, [(false, .bool)])] ref24_in_un [⟨.int .i64, x0⟩, ⟨.bool, x1⟩, ⟨.int .i64, x2⟩] := congrFun (congrFun (congrFun (ref24_in_ex.choose_spec) x0) x1) x2
theorem ref24_in_eq (x0 : Int) (x1 : Bool) (x2 : Int) : ref24_in x0 x1 x2 =
  bif x1
  then bif decide (x0 ≥ x2)
    then some (decide (x0 ≤ 1099511627776))
    else some false
  else some (x0 == 0) := (ref24_in_raw x0 x1 x2).trans (by kernel_rfl)
noncomputable def ref24_in_sig : Sig := { pm := [(false, [(false, .int .i64)]), (false, [(false, .bool)]), (false, [(false, .int .i64)])], rm := [(false, [(false, .bool)])], f := fun | [⟨.int .i64, x0⟩, ⟨.bool, x1⟩, ⟨.int .i64, x2⟩] => .yes _ (ref24_in x0 x1 x2) ref24_in_mk | _ => .no }
theorem ref24_in_ok : SigOk Tryd.prog 64 ref24_in_sig := by
  refine contract_of (C := ref24_in_C) (d := 3) ⟨S29_ok, noPs⟩ (callable_ex (by kernel_rfl)) ?_
  intro dvs
  unfold ref24_in_sig
  dsimp only
  split
  · refine .inr ⟨_, ref24_in_un, ref24_in_mk, congrArg (fun o => Cl.yes _ o _) (ref24_in_raw _ _ _), ?_⟩
    intro ds x h
    unfold ref24_in_un at h
    split at h
    · cases h; rfl
    · cases h
  · exact .inl rfl
noncomputable def S30 : List (Nat × Sig) := (64, ref24_in_sig) :: S29
theorem S30_ok : ListOk Tryd.prog S30 := ListOk.cons S29_ok ref24_in_ok
noncomputable def ref24_text_C : Cfg := { P := Tryd.prog, sig := lookSig S30, hb := fun _ _ => none, hr := fun _ _ => none }
noncomputable def ref24_text_un : List DV → Option (Bool) := fun | [⟨.bool, r0⟩] => some r0 | _ => none
noncomputable def ref24_text_mk : Bool → List DV := fun r0 => [⟨.bool, r0⟩]
theorem ref24_text_ex : ∃ f : (ByteArray) → (Bool) → Option (Bool), f = fun (x0 : ByteArray) (x1 : Bool) => funRun ref24_text_C 3 65 [(false, [(false, .str)]), (false, [(false, .bool)])] [(false, [(false, .bool)])] ref24_text_un [⟨.str, x0⟩, ⟨.bool, x1⟩] := ⟨_, rfl⟩
noncomputable def ref24_text : (ByteArray) → (Bool) → Option (Bool) := ref24_text_ex.choose
theorem ref24_text_raw (x0 : ByteArray) (x1 : Bool) : ref24_text x0 x1 = funRun ref24_text_C 3 65 [(false, [(false, .str)]), (false, [(false, .bool)])] [(false, [(false, .bool)])] ref24_text_un [⟨.str, x0⟩, ⟨.bool, x1⟩] := congrFun (congrFun (ref24_text_ex.choose_spec) x0) x1
theorem ref24_text_eq (x0 : ByteArray) (x1 : Bool) : ref24_text x0 x1 =
  bif x1
  then (ref02_Name x0).bind fun val2 =>
    some (val2)
  else some (x0.toList == (⟨#[]⟩ : ByteArray).toList) := (ref24_text_raw x0 x1).trans (by kernel_rfl)
noncomputable def ref24_text_sig : Sig := { pm := [(false, [(false, .str)]), (false, [(false, .bool)])], rm := [(false, [(false, .bool)])], f := fun | [⟨.str, x0⟩, ⟨.bool, x1⟩] => .yes _ (ref24_text x0 x1) ref24_text_mk | _ => .no }
theorem ref24_text_ok : SigOk Tryd.prog 65 ref24_text_sig := by
  refine contract_of (C := ref24_text_C) (d := 3) ⟨S30_ok, noPs⟩ (callable_ex (by kernel_rfl)) ?_
  intro dvs
  unfold ref24_text_sig
  dsimp only
  split
  · refine .inr ⟨_, ref24_text_un, ref24_text_mk, congrArg (fun o => Cl.yes _ o _) (ref24_text_raw _ _), ?_⟩
    intro ds x h
    unfold ref24_text_un at h
    split at h
    · cases h; rfl
    · cases h
  · exact .inl rfl
noncomputable def S31 : List (Nat × Sig) := (65, ref24_text_sig) :: S30
theorem S31_ok : ListOk Tryd.prog S31 := ListOk.cons S30_ok ref24_text_ok
noncomputable def ref24_some_C : Cfg := { P := Tryd.prog, sig := lookSig S31, hb := fun _ _ => none, hr := fun _ _ => none }
noncomputable def ref24_some_un : List DV → Option (Int) := fun | [⟨.int .i64, r0⟩] => some r0 | _ => none
noncomputable def ref24_some_mk : Int → List DV := fun r0 => [⟨.int .i64, r0⟩]
theorem ref24_some_ex : ∃ f : (List ByteArray) → (List Int) → (Bool) → Option (Int), f = fun (x0 : List ByteArray) (x1 : List Int) (x2 : Bool) => funRun ref24_some_C 3 66 [(true, [(false, .slice (.str)), (false, .slice (.int .i64))]), (false, [(false, .bool)])] [(false, [(false, .int .i64)])] ref24_some_un [⟨.slice (.str), x0⟩, ⟨.slice (.int .i64), x1⟩, ⟨.bool, x2⟩] := ⟨_, rfl⟩
noncomputable def ref24_some : (List ByteArray) → (List Int) → (Bool) → Option (Int) := ref24_some_ex.choose
theorem ref24_some_raw (x0 : List ByteArray) (x1 : List Int) (x2 : Bool) : ref24_some x0 x1 x2 = funRun ref24_some_C 3 66 [(true, [(false, .slice (.str)), (false, .slice (.int .i64))]), (false, [(false, .bool)])] [(false, [(false, .int .i64)])] ref24_some_un [⟨.slice (.str), x0⟩, ⟨.slice (.int .i64), x1⟩, ⟨.bool, x2⟩] := congrFun (congrFun (congrFun (ref24_some_ex.choose_spec) x0) x1) x2
theorem ref24_some_eq (x0 : List ByteArray) (x1 : List Int) (x2 : Bool) : ref24_some x0 x1 x2 =
  bif !x2
  then bif decide (IntKind.i64.wrap (ilen x0 + ilen x1) > 0)
    then some (1)
    else (ref09_Check x0 x1).bind fun val4 =>
      some (val4)
  else (ref09_Check x0 x1).bind fun val2 =>
    some (val2) := (ref24_some_raw x0 x1 x2).trans (by kernel_rfl)
noncomputable def ref24_some_sig : Sig := { pm := [(true, [(false, .slice (.str)), (false, .slice (.int .i64))]), (false, [(false, .bool)])], rm := [(false, [(false, .int .i64)])], f := fun | [⟨.slice (.str), x0⟩, ⟨.slice (.int .i64), x1⟩, ⟨.bool, x2⟩] => .yes _ (ref24_some x0 x1 x2) ref24_some_mk | _ => .no }
theorem ref24_some_ok : SigOk Tryd.prog 66 ref24_some_sig := by
  refine contract_of (C := ref24_some_C) (d := 3) ⟨S31_ok, noPs⟩ (callable_ex (by kernel_rfl)) ?_
  intro dvs
  unfold ref24_some_sig
  dsimp only
  split
  · refine .inr ⟨_, ref24_some_un, ref24_some_mk, congrArg (fun o => Cl.yes _ o _) (ref24_some_raw _ _ _), ?_⟩
    intro ds x h
    unfold ref24_some_un at h
    split at h
    · cases h; rfl
    · cases h
  · exact .inl rfl
noncomputable def S32 : List (Nat × Sig) := (66, ref24_some_sig) :: S31
theorem S32_ok : ListOk Tryd.prog S32 := ListOk.cons S31_ok ref24_some_ok
noncomputable def ref24_Check_C : Cfg := { P := Tryd.prog, sig := lookSig S32, hb := fun _ _ => none, hr := fun _ _ => none }
noncomputable def ref24_Check_un : List DV → Option (Int) := fun | [⟨.int .i64, r0⟩] => some r0 | _ => none
noncomputable def ref24_Check_mk : Int → List DV := fun r0 => [⟨.int .i64, r0⟩]
theorem ref24_Check_ex : ∃ f : (Int) → (Int) → (Int) → (ByteArray) → (ByteArray) → (Int) → (List ByteArray) → (List Int) → (Int) → (Int) → (Int) → (Int) → (List Int) → Option (Int), f = fun (x0 : Int) (x1 : Int) (x2 : Int) (x3 : ByteArray) (x4 : ByteArray) (x5 : Int) (x6 : List ByteArray) (x7 : List Int) (x8 : Int) (x9 : Int) (x10 : Int) (x11 : Int) (x12 : List Int) => funRun ref24_Check_C 3 40 [(true, [(false, .int .i64), (false, .int .i64), (false, .int .i64), (false, .str), (false, .str), (false, .int .i64), (false, .slice (.str)), (false, .slice (.int .i64)), (false, .int .i64), (false, .int .i64), (false, .int .i64), (false, .int .i64), (false, .slice (.int .u8))])] [(false, [(false, .int .i64)])] ref24_Check_un [⟨.int .i64, x0⟩, ⟨.int .i64, x1⟩, ⟨.int .i64, x2⟩, ⟨.str, x3⟩, ⟨.str, x4⟩, ⟨.int .i64, x5⟩, ⟨.slice (.str), x6⟩, ⟨.slice (.int .i64), x7⟩, ⟨.int .i64, x8⟩, ⟨.int .i64, x9⟩, ⟨.int .i64, x10⟩, ⟨.int .i64, x11⟩, ⟨.slice (.int .u8), x12⟩] := ⟨_, rfl⟩
noncomputable def ref24_Check : (Int) → (Int) → (Int) → (ByteArray) → (ByteArray) → (Int) → (List ByteArray) → (List Int) → (Int) → (Int) → (Int) → (Int) → (List Int) → Option (Int) := ref24_Check_ex.choose
theorem ref24_Check_raw (x0 : Int) (x1 : Int) (x2 : Int) (x3 : ByteArray) (x4 : ByteArray) (x5 : Int) (x6 : List ByteArray) (x7 : List Int) (x8 : Int) (x9 : Int) (x10 : Int) (x11 : Int) (x12 : List Int) : ref24_Check x0 x1 x2 x3 x4 x5 x6 x7 x8 x9 x10 x11 x12 = funRun ref24_Check_C 3 40 [(true, [(false, .int .i64), (false, .int .i64), (false, .int .i64), (false, .str), (false, .str), (false, .int .i64), (false, .slice (.str)), (false, .slice (.int .i64)), (false, .int .i64), (false, .int .i64), (false, .int .i64), (false, .int .i64), (false, .slice (.int .u8))])] [(false, [(false, .int .i64)])] ref24_Check_un [⟨.int .i64, x0⟩, ⟨.int .i64, x1⟩, ⟨.int .i64, x2⟩, ⟨.str, x3⟩, ⟨.str, x4⟩, ⟨.int .i64, x5⟩, ⟨.slice (.str), x6⟩, ⟨.slice (.int .i64), x7⟩, ⟨.int .i64, x8⟩, ⟨.int .i64, x9⟩, ⟨.int .i64, x10⟩, ⟨.int .i64, x11⟩, ⟨.slice (.int .u8), x12⟩] := congrFun (congrFun (congrFun (congrFun (congrFun (congrFun (congrFun (congrFun (congrFun (congrFun (congrFun (congrFun (congrFun (ref24_Check_ex.choose_spec) x0) x1) x2) x3) x4) x5) x6) x7) x8) x9) x10) x11) x12
theorem ref24_Check_eq (x0 : Int) (x1 : Int) (x2 : Int) (x3 : ByteArray) (x4 : ByteArray) (x5 : Int) (x6 : List ByteArray) (x7 : List Int) (x8 : Int) (x9 : Int) (x10 : Int) (x11 : Int) (x12 : List Int) : ref24_Check x0 x1 x2 x3 x4 x5 x6 x7 x8 x9 x10 x11 x12 =
  bif decide (x0 < 1)
  then some (1)
  else bif decide (x0 > 12)
    then some (1)
    else (ref24_has x0 97).bind fun val4 =>
      (ref24_in x1 val4 1).bind fun val6 =>
        bif !val6
          then some (1)
          else (ref24_has x0 97).bind fun val10 =>
            (ref24_in x2 val10 1).bind fun val12 =>
              bif !val12
                then some (1)
                else (ref24_has x0 110).bind fun val16 =>
                  (ref24_text x3 val16).bind fun val18 =>
                    bif !val18
                      then some (1)
                      else (ref24_has x0 119).bind fun val22 =>
                        (ref24_text x4 val22).bind fun val24 =>
                          bif !val24
                            then some (1)
                            else bif x5 != 0
                              then (ref24_has x0 107).bind fun val30 =>
                                bif !val30
                                  then some (1)
                                  else (ref24_has x0 105).bind fun val34 =>
                                    (ref24_in x8 val34 0).bind fun val36 =>
                                      bif !val36
                                        then some (2)
                                        else (ref24_has x0 111).bind fun val40 =>
                                          (ref24_in x9 val40 0).bind fun val42 =>
                                            bif !val42
                                              then some (2)
                                              else (ref24_has x0 99).bind fun val46 =>
                                                (ref24_in x10 val46 0).bind fun val48 =>
                                                  bif !val48
                                                    then some (2)
                                                    else (ref24_has x0 116).bind fun val52 =>
                                                      (ref24_in x11 val52 0).bind fun val54 =>
                                                        bif !val54
                                                          then some (2)
                                                          else bif decide (ilen x12 > 0)
                                                            then (ref24_has x0 100).bind fun val60 =>
                                                              bif !val60
                                                                then some (1)
                                                                else bif decide (ilen x12 > 65536)
                                                                  then some (6)
                                                                  else (ref24_has x0 118).bind fun val66 =>
                                                                    (ref24_some x6 x7 val66).bind fun val68 =>
                                                                      some (val68)
                                                            else bif decide (ilen x12 > 65536)
                                                              then some (6)
                                                              else (ref24_has x0 118).bind fun val62 =>
                                                                (ref24_some x6 x7 val62).bind fun val64 =>
                                                                  some (val64)
                              else (ref24_has x0 105).bind fun val30 =>
                                (ref24_in x8 val30 0).bind fun val32 =>
                                  bif !val32
                                    then some (2)
                                    else (ref24_has x0 111).bind fun val36 =>
                                      (ref24_in x9 val36 0).bind fun val38 =>
                                        bif !val38
                                          then some (2)
                                          else (ref24_has x0 99).bind fun val42 =>
                                            (ref24_in x10 val42 0).bind fun val44 =>
                                              bif !val44
                                                then some (2)
                                                else (ref24_has x0 116).bind fun val48 =>
                                                  (ref24_in x11 val48 0).bind fun val50 =>
                                                    bif !val50
                                                      then some (2)
                                                      else bif decide (ilen x12 > 0)
                                                        then (ref24_has x0 100).bind fun val56 =>
                                                          bif !val56
                                                            then some (1)
                                                            else bif decide (ilen x12 > 65536)
                                                              then some (6)
                                                              else (ref24_has x0 118).bind fun val62 =>
                                                                (ref24_some x6 x7 val62).bind fun val64 =>
                                                                  some (val64)
                                                        else bif decide (ilen x12 > 65536)
                                                          then some (6)
                                                          else (ref24_has x0 118).bind fun val58 =>
                                                            (ref24_some x6 x7 val58).bind fun val60 =>
                                                              some (val60) := (ref24_Check_raw x0 x1 x2 x3 x4 x5 x6 x7 x8 x9 x10 x11 x12).trans (by kernel_rfl)
noncomputable def ref24_Check_sig : Sig := { pm := [(true, [(false, .int .i64), (false, .int .i64), (false, .int .i64), (false, .str), (false, .str), (false, .int .i64), (false, .slice (.str)), (false, .slice (.int .i64)), (false, .int .i64), (false, .int .i64), (false, .int .i64), (false, .int .i64), (false, .slice (.int .u8))])], rm := [(false, [(false, .int .i64)])], f := fun | [⟨.int .i64, x0⟩, ⟨.int .i64, x1⟩, ⟨.int .i64, x2⟩, ⟨.str, x3⟩, ⟨.str, x4⟩, ⟨.int .i64, x5⟩, ⟨.slice (.str), x6⟩, ⟨.slice (.int .i64), x7⟩, ⟨.int .i64, x8⟩, ⟨.int .i64, x9⟩, ⟨.int .i64, x10⟩, ⟨.int .i64, x11⟩, ⟨.slice (.int .u8), x12⟩] => .yes _ (ref24_Check x0 x1 x2 x3 x4 x5 x6 x7 x8 x9 x10 x11 x12) ref24_Check_mk | _ => .no }
theorem ref24_Check_ok : SigOk Tryd.prog 40 ref24_Check_sig := by
  refine contract_of (C := ref24_Check_C) (d := 3) ⟨S32_ok, noPs⟩ (callable_ex (by kernel_rfl)) ?_
  intro dvs
  unfold ref24_Check_sig
  dsimp only
  split
  · refine .inr ⟨_, ref24_Check_un, ref24_Check_mk, congrArg (fun o => Cl.yes _ o _) (ref24_Check_raw _ _ _ _ _ _ _ _ _ _ _ _ _), ?_⟩
    intro ds x h
    unfold ref24_Check_un at h
    split at h
    · cases h; rfl
    · cases h
  · exact .inl rfl
noncomputable def S33 : List (Nat × Sig) := (40, ref24_Check_sig) :: S32
theorem S33_ok : ListOk Tryd.prog S33 := ListOk.cons S32_ok ref24_Check_ok
noncomputable def ref02_Uint_C : Cfg := { P := Tryd.prog, sig := lookSig S33, hb := fun f b =>   bif Nat.beq f 76 && Nat.beq b 0 then some { tmps := [3, 4], obs := [60], nils := [(3, 60, (.int .u8))], kl := [212, 204, 60] } else none, hr := fun _ _ => none }
noncomputable def ref02_Uint_un : List DV → Option ((List Int)) := fun | [⟨.slice (.int .u8), r0⟩] => some r0 | _ => none
noncomputable def ref02_Uint_mk : (List Int) → List DV := fun r0 => [⟨.slice (.int .u8), r0⟩]
theorem ref02_Uint_ex : ∃ f : (Int) → Option ((List Int)), f = fun (x0 : Int) => funRun ref02_Uint_C 3 76 [(false, [(false, .int .u64)])] [(false, [(true, .slice (.int .u8))])] ref02_Uint_un [⟨.int .u64, x0⟩] := ⟨_, rfl⟩
noncomputable def ref02_Uint : (Int) → Option ((List Int)) := ref02_Uint_ex.choose
theorem ref02_Uint_raw (x0 : Int) : ref02_Uint x0 = funRun ref02_Uint_C 3 76 [(false, [(false, .int .u64)])] [(false, [(true, .slice (.int .u8))])] ref02_Uint_un [⟨.int .u64, x0⟩] := congrFun (ref02_Uint_ex.choose_spec) x0
noncomputable def ref02_Uint_l0 (y0 : Int) (y1 : List (Int)) : Option ((List Int)) := loopAt ref02_Uint_C 3 76 [(false, [(true, .slice (.int .u8))])] ref02_Uint_un [true, true, true, false, false] (St.ofLists [(3, .ow 60), (4, .int .u64 y0)] [(60, some (.row (Ty.int IntKind.u8) y1 0 false))] [212, 204, 60])
theorem ref02_Uint_eq (x0 : Int) : ref02_Uint x0 =
  ref02_Uint_l0 (x0) ([]) := (ref02_Uint_raw x0).trans (by kernel_rfl)
theorem ref02_Uint_l0_eq (y0 : Int) (y1 : List (Int)) : ref02_Uint_l0 y0 y1 =
  bif decide (y0 > 127)
  then bif decide ((ilen y1 + ilen [IntKind.u8.wrap (IntKind.u64.wrap (128 + y0.tmod 128))]) * 1 ≤ room)
    then ref02_Uint_l0 (IntKind.u64.wrap (y0.tdiv 128)) (y1 ++ [IntKind.u8.wrap (IntKind.u64.wrap (128 + y0.tmod 128))])
    else none
  else bif decide ((ilen y1 + ilen [IntKind.u8.wrap y0]) * 1 ≤ room)
    then some (y1 ++ [IntKind.u8.wrap y0])
    else none := (loopAt_step _ _ _ _ _ _ _).trans (by kernel_rfl)
noncomputable def ref02_Uint_sig : Sig := { pm := [(false, [(false, .int .u64)])], rm := [(false, [(true, .slice (.int .u8))])], f := fun | [⟨.int .u64, x0⟩] => .yes _ (ref02_Uint x0) ref02_Uint_mk | _ => .no }
theorem ref02_Uint_ok : SigOk Tryd.prog 76 ref02_Uint_sig := by
  refine contract_of (C := ref02_Uint_C) (d := 3) ⟨S33_ok, noPs⟩ (callable_ex (by kernel_rfl)) ?_
  intro dvs
  unfold ref02_Uint_sig
  dsimp only
  split
  · refine .inr ⟨_, ref02_Uint_un, ref02_Uint_mk, congrArg (fun o => Cl.yes _ o _) (ref02_Uint_raw _), ?_⟩
    intro ds x h
    unfold ref02_Uint_un at h
    split at h
    · cases h; rfl
    · cases h
  · exact .inl rfl
noncomputable def S34 : List (Nat × Sig) := (76, ref02_Uint_sig) :: S33
theorem S34_ok : ListOk Tryd.prog S34 := ListOk.cons S33_ok ref02_Uint_ok
noncomputable def ref24_num_C : Cfg := { P := Tryd.prog, sig := lookSig S34, hb := fun _ _ => none, hr := fun _ _ => none }
noncomputable def ref24_num_un : List DV → Option ((List Int)) := fun | [⟨.slice (.int .u8), r0⟩] => some r0 | _ => none
noncomputable def ref24_num_mk : (List Int) → List DV := fun r0 => [⟨.slice (.int .u8), r0⟩]
theorem ref24_num_ex : ∃ f : (Int) → (Bool) → Option ((List Int)), f = fun (x0 : Int) (x1 : Bool) => funRun ref24_num_C 3 53 [(false, [(false, .int .i64)]), (false, [(false, .bool)])] [(false, [(true, .slice (.int .u8))])] ref24_num_un [⟨.int .i64, x0⟩, ⟨.bool, x1⟩] := ⟨_, rfl⟩
noncomputable def ref24_num : (Int) → (Bool) → Option ((List Int)) := ref24_num_ex.choose
theorem ref24_num_raw (x0 : Int) (x1 : Bool) : ref24_num x0 x1 = funRun ref24_num_C 3 53 [(false, [(false, .int .i64)]), (false, [(false, .bool)])] [(false, [(true, .slice (.int .u8))])] ref24_num_un [⟨.int .i64, x0⟩, ⟨.bool, x1⟩] := congrFun (congrFun (ref24_num_ex.choose_spec) x0) x1
theorem ref24_num_eq (x0 : Int) (x1 : Bool) : ref24_num x0 x1 =
  bif !x1
  then some ([])
  else (ref02_Uint (IntKind.u64.wrap x0)).bind fun val2 =>
    some (val2) := (ref24_num_raw x0 x1).trans (by kernel_rfl)
noncomputable def ref24_num_sig : Sig := { pm := [(false, [(false, .int .i64)]), (false, [(false, .bool)])], rm := [(false, [(true, .slice (.int .u8))])], f := fun | [⟨.int .i64, x0⟩, ⟨.bool, x1⟩] => .yes _ (ref24_num x0 x1) ref24_num_mk | _ => .no }
theorem ref24_num_ok : SigOk Tryd.prog 53 ref24_num_sig := by
  refine contract_of (C := ref24_num_C) (d := 3) ⟨S34_ok, noPs⟩ (callable_ex (by kernel_rfl)) ?_
  intro dvs
  unfold ref24_num_sig
  dsimp only
  split
  · refine .inr ⟨_, ref24_num_un, ref24_num_mk, congrArg (fun o => Cl.yes _ o _) (ref24_num_raw _ _), ?_⟩
    intro ds x h
    unfold ref24_num_un at h
    split at h
    · cases h; rfl
    · cases h
  · exact .inl rfl
noncomputable def S35 : List (Nat × Sig) := (53, ref24_num_sig) :: S34
theorem S35_ok : ListOk Tryd.prog S35 := ListOk.cons S34_ok ref24_num_ok
noncomputable def ref02_Bytes_C : Cfg := { P := Tryd.prog, sig := lookSig S35, hb := fun _ _ => none, hr := fun _ _ => none }
noncomputable def ref02_Bytes_un : List DV → Option ((List Int)) := fun | [⟨.slice (.int .u8), r0⟩] => some r0 | _ => none
noncomputable def ref02_Bytes_mk : (List Int) → List DV := fun r0 => [⟨.slice (.int .u8), r0⟩]
theorem ref02_Bytes_ex : ∃ f : (List Int) → Option ((List Int)), f = fun (x0 : List Int) => funRun ref02_Bytes_C 3 77 [(false, [(false, .slice (.int .u8))])] [(false, [(true, .slice (.int .u8))])] ref02_Bytes_un [⟨.slice (.int .u8), x0⟩] := ⟨_, rfl⟩
noncomputable def ref02_Bytes : (List Int) → Option ((List Int)) := ref02_Bytes_ex.choose
theorem ref02_Bytes_raw (x0 : List Int) : ref02_Bytes x0 = funRun ref02_Bytes_C 3 77 [(false, [(false, .slice (.int .u8))])] [(false, [(true, .slice (.int .u8))])] ref02_Bytes_un [⟨.slice (.int .u8), x0⟩] := congrFun (ref02_Bytes_ex.choose_spec) x0
theorem ref02_Bytes_eq (x0 : List Int) : ref02_Bytes x0 =
  (ref02_Uint (IntKind.u64.wrap (ilen x0))).bind fun val0 =>
  bif decide ((ilen val0 + ilen x0) * 1 ≤ room)
    then some (val0 ++ x0)
    else none := (ref02_Bytes_raw x0).trans (by kernel_rfl)
noncomputable def ref02_Bytes_sig : Sig := { pm := [(false, [(false, .slice (.int .u8))])], rm := [(false, [(true, .slice (.int .u8))])], f := fun | [⟨.slice (.int .u8), x0⟩] => .yes _ (ref02_Bytes x0) ref02_Bytes_mk | _ => .no }
theorem ref02_Bytes_ok : SigOk Tryd.prog 77 ref02_Bytes_sig := by
  refine contract_of (C := ref02_Bytes_C) (d := 3) ⟨S35_ok, noPs⟩ (callable_ex (by kernel_rfl)) ?_
  intro dvs
  unfold ref02_Bytes_sig
  dsimp only
  split
  · refine .inr ⟨_, ref02_Bytes_un, ref02_Bytes_mk, congrArg (fun o => Cl.yes _ o _) (ref02_Bytes_raw _), ?_⟩
    intro ds x h
    unfold ref02_Bytes_un at h
    split at h
    · cases h; rfl
    · cases h
  · exact .inl rfl
noncomputable def S36 : List (Nat × Sig) := (77, ref02_Bytes_sig) :: S35
theorem S36_ok : ListOk Tryd.prog S36 := ListOk.cons S35_ok ref02_Bytes_ok
noncomputable def ref24_word_C : Cfg := { P := Tryd.prog, sig := lookSig S36, hb := fun _ _ => none, hr := fun _ _ => none }
noncomputable def ref24_word_un : List DV → Option ((List Int)) := fun | [⟨.slice (.int .u8), r0⟩] => some r0 | _ => none
noncomputable def ref24_word_mk : (List Int) → List DV := fun r0 => [⟨.slice (.int .u8), r0⟩]
theorem ref24_word_ex : ∃ f : (ByteArray) → (Bool) → Option ((List Int)), f = fun (x0 : ByteArray) (x1 : Bool) => funRun ref24_word_C 3 54 [(false, [(false, .str)]), (false, [(false, .bool)])] [(false, [(true, .slice (.int .u8))])] ref24_word_un [⟨.str, x0⟩, ⟨.bool, x1⟩] := ⟨_, rfl⟩
noncomputable def ref24_word : (ByteArray) → (Bool) → Option ((List Int)) := ref24_word_ex.choose
theorem ref24_word_raw (x0 : ByteArray) (x1 : Bool) : ref24_word x0 x1 = funRun ref24_word_C 3 54 [(false, [(false, .str)]), (false, [(false, .bool)])] [(false, [(true, .slice (.int .u8))])] ref24_word_un [⟨.str, x0⟩, ⟨.bool, x1⟩] := congrFun (congrFun (ref24_word_ex.choose_spec) x0) x1
theorem ref24_word_eq (x0 : ByteArray) (x1 : Bool) : ref24_word x0 x1 =
  bif !x1
  then some ([])
  else (ref02_Bytes (bytesList x0)).bind fun val2 =>
    some (val2) := (ref24_word_raw x0 x1).trans (by kernel_rfl)
noncomputable def ref24_word_sig : Sig := { pm := [(false, [(false, .str)]), (false, [(false, .bool)])], rm := [(false, [(true, .slice (.int .u8))])], f := fun | [⟨.str, x0⟩, ⟨.bool, x1⟩] => .yes _ (ref24_word x0 x1) ref24_word_mk | _ => .no }
theorem ref24_word_ok : SigOk Tryd.prog 54 ref24_word_sig := by
  refine contract_of (C := ref24_word_C) (d := 3) ⟨S36_ok, noPs⟩ (callable_ex (by kernel_rfl)) ?_
  intro dvs
  unfold ref24_word_sig
  dsimp only
  split
  · refine .inr ⟨_, ref24_word_un, ref24_word_mk, congrArg (fun o => Cl.yes _ o _) (ref24_word_raw _ _), ?_⟩
    intro ds x h
    unfold ref24_word_un at h
    split at h
    · cases h; rfl
    · cases h
  · exact .inl rfl
noncomputable def S37 : List (Nat × Sig) := (54, ref24_word_sig) :: S36
theorem S37_ok : ListOk Tryd.prog S37 := ListOk.cons S36_ok ref24_word_ok
noncomputable def ref02_Int_C : Cfg := { P := Tryd.prog, sig := lookSig S37, hb := fun _ _ => none, hr := fun _ _ => none }
noncomputable def ref02_Int_un : List DV → Option ((List Int)) := fun | [⟨.slice (.int .u8), r0⟩] => some r0 | _ => none
noncomputable def ref02_Int_mk : (List Int) → List DV := fun r0 => [⟨.slice (.int .u8), r0⟩]
theorem ref02_Int_ex : ∃ f : (Int) → Option ((List Int)), f = fun (x0 : Int) => funRun ref02_Int_C 3 55 [(false, [(false, .int .i64)])] [(false, [(true, .slice (.int .u8))])] ref02_Int_un [⟨.int .i64, x0⟩] := ⟨_, rfl⟩
noncomputable def ref02_Int : (Int) → Option ((List Int)) := ref02_Int_ex.choose
theorem ref02_Int_raw (x0 : Int) : ref02_Int x0 = funRun ref02_Int_C 3 55 [(false, [(false, .int .i64)])] [(false, [(true, .slice (.int .u8))])] ref02_Int_un [⟨.int .i64, x0⟩] := congrFun (ref02_Int_ex.choose_spec) x0
theorem ref02_Int_eq (x0 : Int) : ref02_Int x0 =
  bif decide (x0 ≥ 0)
  then (ref02_Uint (IntKind.u64.wrap (IntKind.u64.wrap x0 * 2))).bind fun val2 =>
    some (val2)
  else (ref02_Uint (IntKind.u64.wrap (IntKind.u64.wrap (IntKind.u64.wrap (IntKind.i64.wrap (0 - IntKind.i64.wrap (x0 + 1))) * 2) + 1))).bind fun val2 =>
    some (val2) := (ref02_Int_raw x0).trans (by kernel_rfl)
noncomputable def ref02_Int_sig : Sig := { pm := [(false, [(false, .int .i64)])], rm := [(false, [(true, .slice (.int .u8))])], f := fun | [⟨.int .i64, x0⟩] => .yes _ (ref02_Int x0) ref02_Int_mk | _ => .no }
theorem ref02_Int_ok : SigOk Tryd.prog 55 ref02_Int_sig := by
  refine contract_of (C := ref02_Int_C) (d := 3) ⟨S37_ok, noPs⟩ (callable_ex (by kernel_rfl)) ?_
  intro dvs
  unfold ref02_Int_sig
  dsimp only
  split
  · refine .inr ⟨_, ref02_Int_un, ref02_Int_mk, congrArg (fun o => Cl.yes _ o _) (ref02_Int_raw _), ?_⟩
    intro ds x h
    unfold ref02_Int_un at h
    split at h
    · cases h; rfl
    · cases h
  · exact .inl rfl
noncomputable def S38 : List (Nat × Sig) := (55, ref02_Int_sig) :: S37
theorem S38_ok : ListOk Tryd.prog S38 := ListOk.cons S37_ok ref02_Int_ok
noncomputable def ref09_Bytes_C : Cfg := { P := Tryd.prog, sig := lookSig S38, hb := fun f b =>   bif Nat.beq f 56 && Nat.beq b 0 then some { tmps := [1, 3, 4], obs := [108, 172], nils := [], kl := [172, 108, 356, 292, 284] } else none, hr := fun _ _ => none }
noncomputable def ref09_Bytes_un : List DV → Option ((List Int)) := fun | [⟨.slice (.int .u8), r0⟩] => some r0 | _ => none
noncomputable def ref09_Bytes_mk : (List Int) → List DV := fun r0 => [⟨.slice (.int .u8), r0⟩]
theorem ref09_Bytes_ex : ∃ f : (List ByteArray) → (List Int) → Option ((List Int)), f = fun (x0 : List ByteArray) (x1 : List Int) => funRun ref09_Bytes_C 3 56 [(true, [(false, .slice (.str)), (false, .slice (.int .i64))])] [(false, [(true, .slice (.int .u8))])] ref09_Bytes_un [⟨.slice (.str), x0⟩, ⟨.slice (.int .i64), x1⟩] := ⟨_, rfl⟩
noncomputable def ref09_Bytes : (List ByteArray) → (List Int) → Option ((List Int)) := ref09_Bytes_ex.choose
theorem ref09_Bytes_raw (x0 : List ByteArray) (x1 : List Int) : ref09_Bytes x0 x1 = funRun ref09_Bytes_C 3 56 [(true, [(false, .slice (.str)), (false, .slice (.int .i64))])] [(false, [(true, .slice (.int .u8))])] ref09_Bytes_un [⟨.slice (.str), x0⟩, ⟨.slice (.int .i64), x1⟩] := congrFun (congrFun (ref09_Bytes_ex.choose_spec) x0) x1
noncomputable def ref09_Bytes_l0 (y0 : Int) (y1 : List (ByteArray)) (y2 : List (Int)) (y3 : List (Int)) : Option ((List Int)) := loopAt ref09_Bytes_C 3 56 [(false, [(true, .slice (.int .u8))])] ref09_Bytes_un [true, true, false, true, false] (St.ofLists [(1, .ptr 108 0), (3, .ow 172), (4, .int .i64 y0)] [(108, some (.cells [.fz (Ty.str) y1 false false, .fz (Ty.int IntKind.i64) y2 false false])), (172, some (.row (Ty.int IntKind.u8) y3 0 false))] [172, 108, 356, 292, 284])
theorem ref09_Bytes_eq (x0 : List ByteArray) (x1 : List Int) : ref09_Bytes x0 x1 =
  (ref02_Uint (IntKind.u64.wrap (ilen x0))).bind fun val0 =>
  ref09_Bytes_l0 (0) (x0) (x1) (val0) := (ref09_Bytes_raw x0 x1).trans (by kernel_rfl)
theorem ref09_Bytes_l0_eq (y0 : Int) (y1 : List (ByteArray)) (y2 : List (Int)) (y3 : List (Int)) : ref09_Bytes_l0 y0 y1 y2 y3 =
  bif decide (y0 < ilen y1)
  then bif decide (0 ≤ y0)
    then (y1[y0.toNat]?).bind fun val4 =>
      (ref02_Bytes (bytesList val4)).bind fun val6 =>
        bif decide ((ilen y3 + ilen val6) * 1 ≤ room)
          then bif decide (0 ≤ y0)
            then (y2[y0.toNat]?).bind fun val12 =>
              (ref02_Int val12).bind fun val14 =>
                bif decide ((ilen (y3 ++ val6) + ilen val14) * 1 ≤ room)
                  then ref09_Bytes_l0 (IntKind.i64.wrap (y0 + 1)) (y1) (y2) (y3 ++ val6 ++ val14)
                  else none
            else none
          else none
    else none
  else some (y3) := (loopAt_step _ _ _ _ _ _ _).trans (by kernel_rfl)
noncomputable def ref09_Bytes_sig : Sig := { pm := [(true, [(false, .slice (.str)), (false, .slice (.int .i64))])], rm := [(false, [(true, .slice (.int .u8))])], f := fun | [⟨.slice (.str), x0⟩, ⟨.slice (.int .i64), x1⟩] => .yes _ (ref09_Bytes x0 x1) ref09_Bytes_mk | _ => .no }
theorem ref09_Bytes_ok : SigOk Tryd.prog 56 ref09_Bytes_sig := by
  refine contract_of (C := ref09_Bytes_C) (d := 3) ⟨S38_ok, noPs⟩ (callable_ex (by kernel_rfl)) ?_
  intro dvs
  unfold ref09_Bytes_sig
  dsimp only
  split
  · refine .inr ⟨_, ref09_Bytes_un, ref09_Bytes_mk, congrArg (fun o => Cl.yes _ o _) (ref09_Bytes_raw _ _), ?_⟩
    intro ds x h
    unfold ref09_Bytes_un at h
    split at h
    · cases h; rfl
    · cases h
  · exact .inl rfl
noncomputable def S39 : List (Nat × Sig) := (56, ref09_Bytes_sig) :: S38
theorem S39_ok : ListOk Tryd.prog S39 := ListOk.cons S38_ok ref09_Bytes_ok
noncomputable def ref24_Put_C : Cfg := { P := Tryd.prog, sig := lookSig S39, hb := fun _ _ => none, hr := fun _ _ => none }
noncomputable def ref24_Put_un : List DV → Option ((List Int) × Int) := fun | [⟨.slice (.int .u8), r0⟩, ⟨.int .i64, r1⟩] => some (r0, r1) | _ => none
noncomputable def ref24_Put_mk : ((List Int) × Int) → List DV := fun ⟨r0, r1⟩ => [⟨.slice (.int .u8), r0⟩, ⟨.int .i64, r1⟩]
theorem ref24_Put_ex : ∃ f : (Int) → (Int) → (Int) → (ByteArray) → (ByteArray) → (Int) → (List ByteArray) → (List Int) → (Int) → (Int) → (Int) → (Int) → (List Int) → Option ((List Int) × Int), f = fun (x0 : Int) (x1 : Int) (x2 : Int) (x3 : ByteArray) (x4 : ByteArray) (x5 : Int) (x6 : List ByteArray) (x7 : List Int) (x8 : Int) (x9 : Int) (x10 : Int) (x11 : Int) (x12 : List Int) => funRun ref24_Put_C 3 28 [(true, [(false, .int .i64), (false, .int .i64), (false, .int .i64), (false, .str), (false, .str), (false, .int .i64), (false, .slice (.str)), (false, .slice (.int .i64)), (false, .int .i64), (false, .int .i64), (false, .int .i64), (false, .int .i64), (false, .slice (.int .u8))])] [(false, [(true, .slice (.int .u8))]), (false, [(false, .int .i64)])] ref24_Put_un [⟨.int .i64, x0⟩, ⟨.int .i64, x1⟩, ⟨.int .i64, x2⟩, ⟨.str, x3⟩, ⟨.str, x4⟩, ⟨.int .i64, x5⟩, ⟨.slice (.str), x6⟩, ⟨.slice (.int .i64), x7⟩, ⟨.int .i64, x8⟩, ⟨.int .i64, x9⟩, ⟨.int .i64, x10⟩, ⟨.int .i64, x11⟩, ⟨.slice (.int .u8), x12⟩] := ⟨_, rfl⟩
noncomputable def ref24_Put : (Int) → (Int) → (Int) → (ByteArray) → (ByteArray) → (Int) → (List ByteArray) → (List Int) → (Int) → (Int) → (Int) → (Int) → (List Int) → Option ((List Int) × Int) := ref24_Put_ex.choose
theorem ref24_Put_raw (x0 : Int) (x1 : Int) (x2 : Int) (x3 : ByteArray) (x4 : ByteArray) (x5 : Int) (x6 : List ByteArray) (x7 : List Int) (x8 : Int) (x9 : Int) (x10 : Int) (x11 : Int) (x12 : List Int) : ref24_Put x0 x1 x2 x3 x4 x5 x6 x7 x8 x9 x10 x11 x12 = funRun ref24_Put_C 3 28 [(true, [(false, .int .i64), (false, .int .i64), (false, .int .i64), (false, .str), (false, .str), (false, .int .i64), (false, .slice (.str)), (false, .slice (.int .i64)), (false, .int .i64), (false, .int .i64), (false, .int .i64), (false, .int .i64), (false, .slice (.int .u8))])] [(false, [(true, .slice (.int .u8))]), (false, [(false, .int .i64)])] ref24_Put_un [⟨.int .i64, x0⟩, ⟨.int .i64, x1⟩, ⟨.int .i64, x2⟩, ⟨.str, x3⟩, ⟨.str, x4⟩, ⟨.int .i64, x5⟩, ⟨.slice (.str), x6⟩, ⟨.slice (.int .i64), x7⟩, ⟨.int .i64, x8⟩, ⟨.int .i64, x9⟩, ⟨.int .i64, x10⟩, ⟨.int .i64, x11⟩, ⟨.slice (.int .u8), x12⟩] := congrFun (congrFun (congrFun (congrFun (congrFun (congrFun (congrFun (congrFun (congrFun (congrFun (congrFun (congrFun (congrFun (ref24_Put_ex.choose_spec) x0) x1) x2) x3) x4) x5) x6) x7) x8) x9) x10) x11) x12
theorem ref24_Put_eq (x0 : Int) (x1 : Int) (x2 : Int) (x3 : ByteArray) (x4 : ByteArray) (x5 : Int) (x6 : List ByteArray) (x7 : List Int) (x8 : Int) (x9 : Int) (x10 : Int) (x11 : Int) (x12 : List Int) : ref24_Put x0 x1 x2 x3 x4 x5 x6 x7 x8 x9 x10 x11 x12 =
  (ref24_Check x0 x1 x2 x3 x4 x5 x6 x7 x8 x9 x10 x11 x12).bind fun val0 =>
  bif val0 != 0
    then some (([]), (val0))
    else (ref24_has x0 97).bind fun val4 =>
      (ref24_num x1 val4).bind fun val6 =>
        bif decide ((ilen [IntKind.u8.wrap x0] + ilen val6) * 1 ≤ room)
          then (ref24_has x0 97).bind fun val10 =>
            (ref24_num x2 val10).bind fun val12 =>
              bif decide ((ilen ([IntKind.u8.wrap x0] ++ val6) + ilen val12) * 1 ≤ room)
                then (ref24_has x0 105).bind fun val16 =>
                  (ref24_num x8 val16).bind fun val18 =>
                    bif decide ((ilen ([IntKind.u8.wrap x0] ++ val6 ++ val12) + ilen val18) * 1 ≤ room)
                      then (ref24_has x0 111).bind fun val22 =>
                        (ref24_num x9 val22).bind fun val24 =>
                          bif decide ((ilen ([IntKind.u8.wrap x0] ++ val6 ++ val12 ++ val18) + ilen val24) * 1 ≤ room)
                            then (ref24_has x0 99).bind fun val28 =>
                              (ref24_num x10 val28).bind fun val30 =>
                                bif decide ((ilen ([IntKind.u8.wrap x0] ++ val6 ++ val12 ++ val18 ++ val24) + ilen val30) * 1 ≤ room)
                                  then (ref24_has x0 116).bind fun val34 =>
                                    (ref24_num x11 val34).bind fun val36 =>
                                      bif decide ((ilen ([IntKind.u8.wrap x0] ++ val6 ++ val12 ++ val18 ++ val24 ++ val30) + ilen val36) * 1 ≤ room)
                                        then (ref24_has x0 110).bind fun val40 =>
                                          (ref24_word x3 val40).bind fun val42 =>
                                            bif decide ((ilen ([IntKind.u8.wrap x0] ++ val6 ++ val12 ++ val18 ++ val24 ++ val30 ++ val36) + ilen val42) * 1 ≤ room)
                                              then (ref24_has x0 119).bind fun val46 =>
                                                (ref24_word x4 val46).bind fun val48 =>
                                                  bif decide ((ilen ([IntKind.u8.wrap x0] ++ val6 ++ val12 ++ val18 ++ val24 ++ val30 ++ val36 ++ val42) + ilen val48) * 1 ≤ room)
                                                    then (ref24_has x0 107).bind fun val52 =>
                                                      bif val52
                                                        then (ref02_Int x5).bind fun val56 =>
                                                          bif decide ((ilen ([IntKind.u8.wrap x0] ++ val6 ++ val12 ++ val18 ++ val24 ++ val30 ++ val36 ++ val42 ++ val48) + ilen val56) * 1 ≤ room)
                                                            then (ref24_has x0 118).bind fun val60 =>
                                                              bif val60
                                                                then (ref09_Bytes x6 x7).bind fun val64 =>
                                                                  bif decide ((ilen ([IntKind.u8.wrap x0] ++ val6 ++ val12 ++ val18 ++ val24 ++ val30 ++ val36 ++ val42 ++ val48 ++ val56) + ilen val64) * 1 ≤ room)
                                                                    then (ref24_has x0 100).bind fun val68 =>
                                                                      (ref24_word (strOf x12) val68).bind fun val70 =>
                                                                        bif decide ((ilen ([IntKind.u8.wrap x0] ++ val6 ++ val12 ++ val18 ++ val24 ++ val30 ++ val36 ++ val42 ++ val48 ++ val56 ++ val64) + ilen val70) * 1 ≤ room)
                                                                          then some (([IntKind.u8.wrap x0] ++ val6 ++ val12 ++ val18 ++ val24 ++ val30 ++ val36 ++ val42 ++ val48 ++ val56 ++ val64 ++ val70), (0))
                                                                          else none
                                                                    else none
                                                                else (ref24_has x0 100).bind fun val64 =>
                                                                  (ref24_word (strOf x12) val64).bind fun val66 =>
                                                                    bif decide ((ilen ([IntKind.u8.wrap x0] ++ val6 ++ val12 ++ val18 ++ val24 ++ val30 ++ val36 ++ val42 ++ val48 ++ val56) + ilen val66) * 1 ≤ room)
                                                                      then some (([IntKind.u8.wrap x0] ++ val6 ++ val12 ++ val18 ++ val24 ++ val30 ++ val36 ++ val42 ++ val48 ++ val56 ++ val66), (0))
                                                                      else none
                                                            else none
                                                        else (ref24_has x0 118).bind fun val56 =>
                                                          bif val56
                                                            then (ref09_Bytes x6 x7).bind fun val60 =>
                                                              bif decide ((ilen ([IntKind.u8.wrap x0] ++ val6 ++ val12 ++ val18 ++ val24 ++ val30 ++ val36 ++ val42 ++ val48) + ilen val60) * 1 ≤ room)
                                                                then (ref24_has x0 100).bind fun val64 =>
                                                                  (ref24_word (strOf x12) val64).bind fun val66 =>
                                                                    bif decide ((ilen ([IntKind.u8.wrap x0] ++ val6 ++ val12 ++ val18 ++ val24 ++ val30 ++ val36 ++ val42 ++ val48 ++ val60) + ilen val66) * 1 ≤ room)
                                                                      then some (([IntKind.u8.wrap x0] ++ val6 ++ val12 ++ val18 ++ val24 ++ val30 ++ val36 ++ val42 ++ val48 ++ val60 ++ val66), (0))
                                                                      else none
                                                                else none
                                                            else (ref24_has x0 100).bind fun val60 =>
                                                              (ref24_word (strOf x12) val60).bind fun val62 =>
                                                                bif decide ((ilen ([IntKind.u8.wrap x0] ++ val6 ++ val12 ++ val18 ++ val24 ++ val30 ++ val36 ++ val42 ++ val48) + ilen val62) * 1 ≤ room)
                                                                  then some (([IntKind.u8.wrap x0] ++ val6 ++ val12 ++ val18 ++ val24 ++ val30 ++ val36 ++ val42 ++ val48 ++ val62), (0))
                                                                  else none
                                                    else none
                                              else none
                                        else none
                                  else none
                            else none
                      else none
                else none
          else none := (ref24_Put_raw x0 x1 x2 x3 x4 x5 x6 x7 x8 x9 x10 x11 x12).trans (by kernel_rfl)
noncomputable def ref24_Put_sig : Sig := { pm := [(true, [(false, .int .i64), (false, .int .i64), (false, .int .i64), (false, .str), (false, .str), (false, .int .i64), (false, .slice (.str)), (false, .slice (.int .i64)), (false, .int .i64), (false, .int .i64), (false, .int .i64), (false, .int .i64), (false, .slice (.int .u8))])], rm := [(false, [(true, .slice (.int .u8))]), (false, [(false, .int .i64)])], f := fun | [⟨.int .i64, x0⟩, ⟨.int .i64, x1⟩, ⟨.int .i64, x2⟩, ⟨.str, x3⟩, ⟨.str, x4⟩, ⟨.int .i64, x5⟩, ⟨.slice (.str), x6⟩, ⟨.slice (.int .i64), x7⟩, ⟨.int .i64, x8⟩, ⟨.int .i64, x9⟩, ⟨.int .i64, x10⟩, ⟨.int .i64, x11⟩, ⟨.slice (.int .u8), x12⟩] => .yes _ (ref24_Put x0 x1 x2 x3 x4 x5 x6 x7 x8 x9 x10 x11 x12) ref24_Put_mk | _ => .no }
theorem ref24_Put_ok : SigOk Tryd.prog 28 ref24_Put_sig := by
  refine contract_of (C := ref24_Put_C) (d := 3) ⟨S39_ok, noPs⟩ (callable_ex (by kernel_rfl)) ?_
  intro dvs
  unfold ref24_Put_sig
  dsimp only
  split
  · refine .inr ⟨_, ref24_Put_un, ref24_Put_mk, congrArg (fun o => Cl.yes _ o _) (ref24_Put_raw _ _ _ _ _ _ _ _ _ _ _ _ _), ?_⟩
    intro ds x h
    unfold ref24_Put_un at h
    split at h
    · cases h; rfl
    · cases h
  · exact .inl rfl
noncomputable def S40 : List (Nat × Sig) := (28, ref24_Put_sig) :: S39
theorem S40_ok : ListOk Tryd.prog S40 := ListOk.cons S39_ok ref24_Put_ok
noncomputable def compass_Point_C : Cfg := { P := Tryd.prog, sig := lookSig S40, hb := fun _ _ => none, hr := fun _ _ => none }
noncomputable def compass_Point_un : List DV → Option ((Int × Int)) := fun | [⟨.cpx, r0⟩] => some r0 | _ => none
noncomputable def compass_Point_mk : (Int × Int) → List DV := fun r0 => [⟨.cpx, r0⟩]
theorem compass_Point_ex : ∃ f : (Int) → Option ((Int × Int)), f = fun (x0 : Int) => funRun compass_Point_C 3 68 [(false, [(false, .int .u32)])] [(false, [(false, .cpx)])] compass_Point_un [⟨.int .u32, x0⟩] := ⟨_, rfl⟩
noncomputable def compass_Point : (Int) → Option ((Int × Int)) := compass_Point_ex.choose
theorem compass_Point_raw (x0 : Int) : compass_Point x0 = funRun compass_Point_C 3 68 [(false, [(false, .int .u32)])] [(false, [(false, .cpx)])] compass_Point_un [⟨.int .u32, x0⟩] := congrFun (compass_Point_ex.choose_spec) x0
theorem compass_Point_eq (x0 : Int) : compass_Point x0 =
  bif whole (IntKind.i16.wrap x0)
  then bif whole (IntKind.i16.wrap (x0.fdiv (2 ^ min (Int.toNat 16) IntKind.u32.bits)))
    then some ((IntKind.i16.wrap x0), (IntKind.i16.wrap (x0.fdiv (2 ^ min (Int.toNat 16) IntKind.u32.bits))))
    else none
  else none := (compass_Point_raw x0).trans (by kernel_rfl)
noncomputable def compass_Point_sig : Sig := { pm := [(false, [(false, .int .u32)])], rm := [(false, [(false, .cpx)])], f := fun | [⟨.int .u32, x0⟩] => .yes _ (compass_Point x0) compass_Point_mk | _ => .no }
theorem compass_Point_ok : SigOk Tryd.prog 68 compass_Point_sig := by
  refine contract_of (C := compass_Point_C) (d := 3) ⟨S40_ok, noPs⟩ (callable_ex (by kernel_rfl)) ?_
  intro dvs
  unfold compass_Point_sig
  dsimp only
  split
  · refine .inr ⟨_, compass_Point_un, compass_Point_mk, congrArg (fun o => Cl.yes _ o _) (compass_Point_raw _), ?_⟩
    intro ds x h
    unfold compass_Point_un at h
    split at h
    · cases h; rfl
    · cases h
  · exact .inl rfl
noncomputable def S41 : List (Nat × Sig) := (68, compass_Point_sig) :: S40
theorem S41_ok : ListOk Tryd.prog S41 := ListOk.cons S40_ok compass_Point_ok
noncomputable def compass_Turn_C : Cfg := { P := Tryd.prog, sig := lookSig S41, hb := fun f b =>   bif Nat.beq f 85 && Nat.beq b 0 then some { tmps := [0, 6, 7], obs := [], nils := [], kl := [] } else none, hr := fun _ _ => none }
noncomputable def compass_Turn_un : List DV → Option ((Int × Int)) := fun | [⟨.cpx, r0⟩] => some r0 | _ => none
noncomputable def compass_Turn_mk : (Int × Int) → List DV := fun r0 => [⟨.cpx, r0⟩]
theorem compass_Turn_ex : ∃ f : (Int × Int) → (Int) → Option ((Int × Int)), f = fun (x0 : Int × Int) (x1 : Int) => funRun compass_Turn_C 3 85 [(false, [(false, .cpx)]), (false, [(false, .int .i64)])] [(false, [(false, .cpx)])] compass_Turn_un [⟨.cpx, x0⟩, ⟨.int .i64, x1⟩] := ⟨_, rfl⟩
noncomputable def compass_Turn : (Int × Int) → (Int) → Option ((Int × Int)) := compass_Turn_ex.choose
theorem compass_Turn_raw (x0 : Int × Int) (x1 : Int) : compass_Turn x0 x1 = funRun compass_Turn_C 3 85 [(false, [(false, .cpx)]), (false, [(false, .int .i64)])] [(false, [(false, .cpx)])] compass_Turn_un [⟨.cpx, x0⟩, ⟨.int .i64, x1⟩] := congrFun (congrFun (compass_Turn_ex.choose_spec) x0) x1
noncomputable def compass_Turn_l0 (y0 : Int) (y1 : Int) (y2 : Int) (y3 : Int) : Option ((Int × Int)) := loopAt compass_Turn_C 3 85 [(false, [(false, .cpx)])] compass_Turn_un [true, false, true, false] (St.ofLists [(0, .cpx y0 y1), (6, .int .i64 y2), (7, .int .i64 y3)] [] [])
theorem compass_Turn_eq (x0 : Int × Int) (x1 : Int) : compass_Turn x0 x1 =
  compass_Turn_l0 (x0.fst) (x0.snd) (IntKind.i64.wrap ↑(BitVec.ofInt IntKind.i64.bits x1 &&& BitVec.ofInt IntKind.i64.bits 3).toNat) (0) := (compass_Turn_raw x0 x1).trans (by kernel_rfl)
theorem compass_Turn_l0_eq (y0 : Int) (y1 : Int) (y2 : Int) (y3 : Int) : compass_Turn_l0 y0 y1 y2 y3 =
  bif decide (y3 < y2)
  then bif whole (y0 * 0) && whole (y1 * 1) && whole (y0 * 0 - y1 * 1) && whole (y0 * 1) && whole (y1 * 0) && whole (y0 * 1 + y1 * 0)
    then compass_Turn_l0 (y0 * 0 - y1 * 1) (y0 * 1 + y1 * 0) (y2) (IntKind.i64.wrap (y3 + 1))
    else none
  else some ((y0), (y1)) := (loopAt_step _ _ _ _ _ _ _).trans (by kernel_rfl)
noncomputable def compass_Turn_sig : Sig := { pm := [(false, [(false, .cpx)]), (false, [(false, .int .i64)])], rm := [(false, [(false, .cpx)])], f := fun | [⟨.cpx, x0⟩, ⟨.int .i64, x1⟩] => .yes _ (compass_Turn x0 x1) compass_Turn_mk | _ => .no }
theorem compass_Turn_ok : SigOk Tryd.prog 85 compass_Turn_sig := by
  refine contract_of (C := compass_Turn_C) (d := 3) ⟨S41_ok, noPs⟩ (callable_ex (by kernel_rfl)) ?_
  intro dvs
  unfold compass_Turn_sig
  dsimp only
  split
  · refine .inr ⟨_, compass_Turn_un, compass_Turn_mk, congrArg (fun o => Cl.yes _ o _) (compass_Turn_raw _ _), ?_⟩
    intro ds x h
    unfold compass_Turn_un at h
    split at h
    · cases h; rfl
    · cases h
  · exact .inl rfl
noncomputable def S42 : List (Nat × Sig) := (85, compass_Turn_sig) :: S41
theorem S42_ok : ListOk Tryd.prog S42 := ListOk.cons S41_ok compass_Turn_ok
noncomputable def compass_Quarter_C : Cfg := { P := Tryd.prog, sig := lookSig S42, hb := fun _ _ => none, hr := fun _ _ => none, un := fun f b => bif Nat.beq f 84 && Nat.beq b 0 then 5 else 0 }
noncomputable def compass_Quarter_un : List DV → Option (Int) := fun | [⟨.int .i64, r0⟩] => some r0 | _ => none
noncomputable def compass_Quarter_mk : Int → List DV := fun r0 => [⟨.int .i64, r0⟩]
theorem compass_Quarter_ex : ∃ f : (Int × Int) → Option (Int), f = fun (x0 : Int × Int) => funRun compass_Quarter_C 3 84 [(false, [(false, .cpx)])] [(false, [(false, .int .i64)])] compass_Quarter_un [⟨.cpx, x0⟩] := ⟨_, rfl⟩
noncomputable def compass_Quarter : (Int × Int) → Option (Int) := compass_Quarter_ex.choose
theorem compass_Quarter_raw (x0 : Int × Int) : compass_Quarter x0 = funRun compass_Quarter_C 3 84 [(false, [(false, .cpx)])] [(false, [(false, .int .i64)])] compass_Quarter_un [⟨.cpx, x0⟩] := congrFun (compass_Quarter_ex.choose_spec) x0
theorem compass_Quarter_eq (x0 : Int × Int) : compass_Quarter x0 =
  (compass_Turn x0 (IntKind.i64.wrap (0 - 0))).bind fun val0 =>
  bif decide (0 < val0.fst)
    then bif decide (0 ≤ val0.snd)
      then some (0)
      else (compass_Turn x0 (IntKind.i64.wrap (0 - IntKind.i64.wrap (0 + 1)))).bind fun val6 =>
        bif decide (0 < val6.fst)
          then bif decide (0 ≤ val6.snd)
            then some (IntKind.i64.wrap (0 + 1))
            else (compass_Turn x0 (IntKind.i64.wrap (0 - IntKind.i64.wrap (IntKind.i64.wrap (0 + 1) + 1)))).bind fun val12 =>
              bif decide (0 < val12.fst)
                then bif decide (0 ≤ val12.snd)
                  then some (IntKind.i64.wrap (IntKind.i64.wrap (0 + 1) + 1))
                  else (compass_Turn x0 (IntKind.i64.wrap (0 - IntKind.i64.wrap (IntKind.i64.wrap (IntKind.i64.wrap (0 + 1) + 1) + 1)))).bind fun val18 =>
                    bif decide (0 < val18.fst)
                      then bif decide (0 ≤ val18.snd)
                        then some (IntKind.i64.wrap (IntKind.i64.wrap (IntKind.i64.wrap (0 + 1) + 1) + 1))
                        else some (0)
                      else some (0)
                else (compass_Turn x0 (IntKind.i64.wrap (0 - IntKind.i64.wrap (IntKind.i64.wrap (IntKind.i64.wrap (0 + 1) + 1) + 1)))).bind fun val16 =>
                  bif decide (0 < val16.fst)
                    then bif decide (0 ≤ val16.snd)
                      then some (IntKind.i64.wrap (IntKind.i64.wrap (IntKind.i64.wrap (0 + 1) + 1) + 1))
                      else some (0)
                    else some (0)
          else (compass_Turn x0 (IntKind.i64.wrap (0 - IntKind.i64.wrap (IntKind.i64.wrap (0 + 1) + 1)))).bind fun val10 =>
            bif decide (0 < val10.fst)
              then bif decide (0 ≤ val10.snd)
                then some (IntKind.i64.wrap (IntKind.i64.wrap (0 + 1) + 1))
                else (compass_Turn x0 (IntKind.i64.wrap (0 - IntKind.i64.wrap (IntKind.i64.wrap (IntKind.i64.wrap (0 + 1) + 1) + 1)))).bind fun val16 =>
                  bif decide (0 < val16.fst)
                    then bif decide (0 ≤ val16.snd)
                      then some (IntKind.i64.wrap (IntKind.i64.wrap (IntKind.i64.wrap (0 + 1) + 1) + 1))
                      else some (0)
                    else some (0)
              else (compass_Turn x0 (IntKind.i64.wrap (0 - IntKind.i64.wrap (IntKind.i64.wrap (IntKind.i64.wrap (0 + 1) + 1) + 1)))).bind fun val14 =>
                bif decide (0 < val14.fst)
                  then bif decide (0 ≤ val14.snd)
                    then some (IntKind.i64.wrap (IntKind.i64.wrap (IntKind.i64.wrap (0 + 1) + 1) + 1))
                    else some (0)
                  else some (0)
    else (compass_Turn x0 (IntKind.i64.wrap (0 - IntKind.i64.wrap (0 + 1)))).bind fun val4 =>
      bif decide (0 < val4.fst)
        then bif decide (0 ≤ val4.snd)
          then some (IntKind.i64.wrap (0 + 1))
          else (compass_Turn x0 (IntKind.i64.wrap (0 - IntKind.i64.wrap (IntKind.i64.wrap (0 + 1) + 1)))).bind fun val10 =>
            bif decide (0 < val10.fst)
              then bif decide (0 ≤ val10.snd)
                then some (IntKind.i64.wrap (IntKind.i64.wrap (0 + 1) + 1))
                else (compass_Turn x0 (IntKind.i64.wrap (0 - IntKind.i64.wrap (IntKind.i64.wrap (IntKind.i64.wrap (0 + 1) + 1) + 1)))).bind fun val16 =>
                  bif decide (0 < val16.fst)
                    then bif decide (0 ≤ val16.snd)
                      then some (IntKind.i64.wrap (IntKind.i64.wrap (IntKind.i64.wrap (0 + 1) + 1) + 1))
                      else some (0)
                    else some (0)
              else (compass_Turn x0 (IntKind.i64.wrap (0 - IntKind.i64.wrap (IntKind.i64.wrap (IntKind.i64.wrap (0 + 1) + 1) + 1)))).bind fun val14 =>
                bif decide (0 < val14.fst)
                  then bif decide (0 ≤ val14.snd)
                    then some (IntKind.i64.wrap (IntKind.i64.wrap (IntKind.i64.wrap (0 + 1) + 1) + 1))
                    else some (0)
                  else some (0)
        else (compass_Turn x0 (IntKind.i64.wrap (0 - IntKind.i64.wrap (IntKind.i64.wrap (0 + 1) + 1)))).bind fun val8 =>
          bif decide (0 < val8.fst)
            then bif decide (0 ≤ val8.snd)
              then some (IntKind.i64.wrap (IntKind.i64.wrap (0 + 1) + 1))
              else (compass_Turn x0 (IntKind.i64.wrap (0 - IntKind.i64.wrap (IntKind.i64.wrap (IntKind.i64.wrap (0 + 1) + 1) + 1)))).bind fun val14 =>
                bif decide (0 < val14.fst)
                  then bif decide (0 ≤ val14.snd)
                    then some (IntKind.i64.wrap (IntKind.i64.wrap (IntKind.i64.wrap (0 + 1) + 1) + 1))
                    else some (0)
                  else some (0)
            else (compass_Turn x0 (IntKind.i64.wrap (0 - IntKind.i64.wrap (IntKind.i64.wrap (IntKind.i64.wrap (0 + 1) + 1) + 1)))).bind fun val12 =>
              bif decide (0 < val12.fst)
                then bif decide (0 ≤ val12.snd)
                  then some (IntKind.i64.wrap (IntKind.i64.wrap (IntKind.i64.wrap (0 + 1) + 1) + 1))
                  else some (0)
                else some (0) := (compass_Quarter_raw x0).trans (by kernel_rfl)
noncomputable def compass_Quarter_sig : Sig := { pm := [(false, [(false, .cpx)])], rm := [(false, [(false, .int .i64)])], f := fun | [⟨.cpx, x0⟩] => .yes _ (compass_Quarter x0) compass_Quarter_mk | _ => .no }
theorem compass_Quarter_ok : SigOk Tryd.prog 84 compass_Quarter_sig := by
  refine contract_of (C := compass_Quarter_C) (d := 3) ⟨S42_ok, noPs⟩ (callable_ex (by kernel_rfl)) ?_
  intro dvs
  unfold compass_Quarter_sig
  dsimp only
  split
  · refine .inr ⟨_, compass_Quarter_un, compass_Quarter_mk, congrArg (fun o => Cl.yes _ o _) (compass_Quarter_raw _), ?_⟩
    intro ds x h
    unfold compass_Quarter_un at h
    split at h
    · cases h; rfl
    · cases h
  · exact .inl rfl
noncomputable def S43 : List (Nat × Sig) := (84, compass_Quarter_sig) :: S42
theorem S43_ok : ListOk Tryd.prog S43 := ListOk.cons S42_ok compass_Quarter_ok
noncomputable def compass_Part_C : Cfg := { P := Tryd.prog, sig := lookSig S43, hb := fun _ _ => none, hr := fun _ _ => none }
noncomputable def compass_Part_un : List DV → Option (Int × Int) := fun | [⟨.int .i64, r0⟩, ⟨.int .i64, r1⟩] => some (r0, r1) | _ => none
noncomputable def compass_Part_mk : (Int × Int) → List DV := fun ⟨r0, r1⟩ => [⟨.int .i64, r0⟩, ⟨.int .i64, r1⟩]
theorem compass_Part_ex : ∃ f : (Int × Int) → (Int) → Option (Int × Int), f = fun (x0 : Int × Int) (x1 : Int) => funRun compass_Part_C 3 67 [(false, [(false, .cpx)]), (false, [(false, .int .i64)])] [(false, [(false, .int .i64)]), (false, [(false, .int .i64)])] compass_Part_un [⟨.cpx, x0⟩, ⟨.int .i64, x1⟩] := ⟨_, rfl⟩
noncomputable def compass_Part : (Int × Int) → (Int) → Option (Int × Int) := compass_Part_ex.choose
theorem compass_Part_raw (x0 : Int × Int) (x1 : Int) : compass_Part x0 x1 = funRun compass_Part_C 3 67 [(false, [(false, .cpx)]), (false, [(false, .int .i64)])] [(false, [(false, .int .i64)]), (false, [(false, .int .i64)])] compass_Part_un [⟨.cpx, x0⟩, ⟨.int .i64, x1⟩] := congrFun (congrFun (compass_Part_ex.choose_spec) x0) x1
theorem compass_Part_eq (x0 : Int × Int) (x1 : Int) : compass_Part x0 x1 =
  bif decide (x1 < 1)
  then some ((0), (2))
  else bif decide (x1 > 64)
    then some ((0), (2))
    else (compass_Quarter x0).bind fun val4 =>
      (compass_Turn x0 (IntKind.i64.wrap (0 - val4))).bind fun val6 =>
        bif decide (IntKind.i64.min ≤ val6.fst) && decide (val6.fst ≤ IntKind.i64.max)
          then bif decide (IntKind.i64.min ≤ val6.snd) && decide (val6.snd ≤ IntKind.i64.max)
            then bif IntKind.i64.wrap (val6.fst + val6.snd) == 0
              then some ((0), (0))
              else bif decide (IntKind.i64.wrap (4 * IntKind.i64.wrap (val6.fst + val6.snd)) = 0)
                then none
                else some ((IntKind.i64.wrap ((IntKind.i64.wrap (IntKind.i64.wrap (IntKind.i64.wrap (val4 * IntKind.i64.wrap (val6.fst + val6.snd)) + val6.snd) * x1)).tdiv (IntKind.i64.wrap (4 * IntKind.i64.wrap (val6.fst + val6.snd))))), (0))
            else none
          else none := (compass_Part_raw x0 x1).trans (by kernel_rfl)
noncomputable def compass_Part_sig : Sig := { pm := [(false, [(false, .cpx)]), (false, [(false, .int .i64)])], rm := [(false, [(false, .int .i64)]), (false, [(false, .int .i64)])], f := fun | [⟨.cpx, x0⟩, ⟨.int .i64, x1⟩] => .yes _ (compass_Part x0 x1) compass_Part_mk | _ => .no }
theorem compass_Part_ok : SigOk Tryd.prog 67 compass_Part_sig := by
  refine contract_of (C := compass_Part_C) (d := 3) ⟨S43_ok, noPs⟩ (callable_ex (by kernel_rfl)) ?_
  intro dvs
  unfold compass_Part_sig
  dsimp only
  split
  · refine .inr ⟨_, compass_Part_un, compass_Part_mk, congrArg (fun o => Cl.yes _ o _) (compass_Part_raw _ _), ?_⟩
    intro ds x h
    unfold compass_Part_un at h
    split at h
    · cases h; rfl
    · cases h
  · exact .inl rfl
noncomputable def S44 : List (Nat × Sig) := (67, compass_Part_sig) :: S43
theorem S44_ok : ListOk Tryd.prog S44 := ListOk.cons S43_ok compass_Part_ok
noncomputable def compass_Key_C : Cfg := { P := Tryd.prog, sig := lookSig S44, hb := fun f b =>   bif Nat.beq f 69 && Nat.beq b 0 then some { tmps := [3, 7, 8, 9], obs := [156], nils := [], kl := [156] } else none, hr := fun _ _ => none }
noncomputable def compass_Key_un : List DV → Option (Int) := fun | [⟨.int .u32, r0⟩] => some r0 | _ => none
noncomputable def compass_Key_mk : Int → List DV := fun r0 => [⟨.int .u32, r0⟩]
theorem compass_Key_ex : ∃ f : (ByteArray) → Option (Int), f = fun (x0 : ByteArray) => funRun compass_Key_C 3 69 [(false, [(false, .str)])] [(false, [(false, .int .u32)])] compass_Key_un [⟨.str, x0⟩] := ⟨_, rfl⟩
noncomputable def compass_Key : (ByteArray) → Option (Int) := compass_Key_ex.choose
theorem compass_Key_raw (x0 : ByteArray) : compass_Key x0 = funRun compass_Key_C 3 69 [(false, [(false, .str)])] [(false, [(false, .int .u32)])] compass_Key_un [⟨.str, x0⟩] := congrFun (compass_Key_ex.choose_spec) x0
noncomputable def compass_Key_l0 (y0 : Int) (y1 : Int) (y2 : Int) (y3 : List (Int)) : Option (Int) := loopAt compass_Key_C 3 69 [(false, [(false, .int .u32)])] compass_Key_un [true, true, false, true, false] (St.ofLists [(3, .int .u32 y0), (7, .ow 156), (8, .int .i64 y1), (9, .int .i64 y2)] [(156, some (.row (Ty.int IntKind.u8) y3 0 false))] [156])
theorem compass_Key_eq (x0 : ByteArray) : compass_Key x0 =
  compass_Key_l0 (2166136261) (ilen (bytesList x0)) (0) (bytesList x0) := (compass_Key_raw x0).trans (by kernel_rfl)
theorem compass_Key_l0_eq (y0 : Int) (y1 : Int) (y2 : Int) (y3 : List (Int)) : compass_Key_l0 y0 y1 y2 y3 =
  bif decide (y2 < y1)
  then bif decide (0 ≤ y2)
    then bif decide (y2 < ilen y3)
      then (y3[y2.toNat]?).bind fun val6 =>
        compass_Key_l0 (IntKind.u32.wrap (IntKind.u32.wrap ↑(BitVec.ofInt IntKind.u32.bits y0 ^^^ BitVec.ofInt IntKind.u32.bits (IntKind.u32.wrap val6)).toNat * 16777619)) (y1) (IntKind.i64.wrap (y2 + 1)) (y3)
      else none
    else none
  else some (y0) := (loopAt_step _ _ _ _ _ _ _).trans (by kernel_rfl)
noncomputable def compass_Key_sig : Sig := { pm := [(false, [(false, .str)])], rm := [(false, [(false, .int .u32)])], f := fun | [⟨.str, x0⟩] => .yes _ (compass_Key x0) compass_Key_mk | _ => .no }
theorem compass_Key_ok : SigOk Tryd.prog 69 compass_Key_sig := by
  refine contract_of (C := compass_Key_C) (d := 3) ⟨S44_ok, noPs⟩ (callable_ex (by kernel_rfl)) ?_
  intro dvs
  unfold compass_Key_sig
  dsimp only
  split
  · refine .inr ⟨_, compass_Key_un, compass_Key_mk, congrArg (fun o => Cl.yes _ o _) (compass_Key_raw _), ?_⟩
    intro ds x h
    unfold compass_Key_un at h
    split at h
    · cases h; rfl
    · cases h
  · exact .inl rfl
noncomputable def S45 : List (Nat × Sig) := (69, compass_Key_sig) :: S44
theorem S45_ok : ListOk Tryd.prog S45 := ListOk.cons S44_ok compass_Key_ok
noncomputable def compass_Route_C : Cfg := { P := Tryd.prog, sig := lookSig S45, hb := fun _ _ => none, hr := fun _ _ => none }
noncomputable def compass_Route_un : List DV → Option (Int × Int) := fun | [⟨.int .i64, r0⟩, ⟨.int .i64, r1⟩] => some (r0, r1) | _ => none
noncomputable def compass_Route_mk : (Int × Int) → List DV := fun ⟨r0, r1⟩ => [⟨.int .i64, r0⟩, ⟨.int .i64, r1⟩]
theorem compass_Route_ex : ∃ f : (ByteArray) → (Int) → Option (Int × Int), f = fun (x0 : ByteArray) (x1 : Int) => funRun compass_Route_C 3 42 [(false, [(false, .str)]), (false, [(false, .int .i64)])] [(false, [(false, .int .i64)]), (false, [(false, .int .i64)])] compass_Route_un [⟨.str, x0⟩, ⟨.int .i64, x1⟩] := ⟨_, rfl⟩
noncomputable def compass_Route : (ByteArray) → (Int) → Option (Int × Int) := compass_Route_ex.choose
theorem compass_Route_raw (x0 : ByteArray) (x1 : Int) : compass_Route x0 x1 = funRun compass_Route_C 3 42 [(false, [(false, .str)]), (false, [(false, .int .i64)])] [(false, [(false, .int .i64)]), (false, [(false, .int .i64)])] compass_Route_un [⟨.str, x0⟩, ⟨.int .i64, x1⟩] := congrFun (congrFun (compass_Route_ex.choose_spec) x0) x1
theorem compass_Route_eq (x0 : ByteArray) (x1 : Int) : compass_Route x0 x1 =
  (compass_Key x0).bind fun val0 =>
  (compass_Point val0).bind fun val2 =>
    (compass_Part val2 x1).bind fun val4 =>
      some ((val4.1), (val4.2)) := (compass_Route_raw x0 x1).trans (by kernel_rfl)
noncomputable def compass_Route_sig : Sig := { pm := [(false, [(false, .str)]), (false, [(false, .int .i64)])], rm := [(false, [(false, .int .i64)]), (false, [(false, .int .i64)])], f := fun | [⟨.str, x0⟩, ⟨.int .i64, x1⟩] => .yes _ (compass_Route x0 x1) compass_Route_mk | _ => .no }
theorem compass_Route_ok : SigOk Tryd.prog 42 compass_Route_sig := by
  refine contract_of (C := compass_Route_C) (d := 3) ⟨S45_ok, noPs⟩ (callable_ex (by kernel_rfl)) ?_
  intro dvs
  unfold compass_Route_sig
  dsimp only
  split
  · refine .inr ⟨_, compass_Route_un, compass_Route_mk, congrArg (fun o => Cl.yes _ o _) (compass_Route_raw _ _), ?_⟩
    intro ds x h
    unfold compass_Route_un at h
    split at h
    · cases h; rfl
    · cases h
  · exact .inl rfl
noncomputable def S46 : List (Nat × Sig) := (42, compass_Route_sig) :: S45
theorem S46_ok : ListOk Tryd.prog S46 := ListOk.cons S45_ok compass_Route_ok
noncomputable def ref03_Parts_C : Cfg := { P := Tryd.prog, sig := lookSig S46, hb := fun _ _ => none, hr := fun _ _ => none }
noncomputable def ref03_Parts_un : List DV → Option (Int × Int) := fun | [⟨.int .i64, r0⟩, ⟨.int .i64, r1⟩] => some (r0, r1) | _ => none
noncomputable def ref03_Parts_mk : (Int × Int) → List DV := fun ⟨r0, r1⟩ => [⟨.int .i64, r0⟩, ⟨.int .i64, r1⟩]
theorem ref03_Parts_ex : ∃ f : (Int) → Option (Int × Int), f = fun (x0 : Int) => funRun ref03_Parts_C 3 57 [(false, [(false, .int .u32)])] [(false, [(false, .int .i64)]), (false, [(false, .int .i64)])] ref03_Parts_un [⟨.int .u32, x0⟩] := ⟨_, rfl⟩
noncomputable def ref03_Parts : (Int) → Option (Int × Int) := ref03_Parts_ex.choose
theorem ref03_Parts_raw (x0 : Int) : ref03_Parts x0 = funRun ref03_Parts_C 3 57 [(false, [(false, .int .u32)])] [(false, [(false, .int .i64)]), (false, [(false, .int .i64)])] ref03_Parts_un [⟨.int .u32, x0⟩] := congrFun (ref03_Parts_ex.choose_spec) x0
theorem ref03_Parts_eq (x0 : Int) : ref03_Parts x0 =
  bif decide (IntKind.i64.wrap (x0.tmod 65536) ≥ 32768)
  then bif decide (IntKind.i64.wrap (IntKind.u32.wrap (x0.tdiv 65536)) ≥ 32768)
    then some ((IntKind.i64.wrap (IntKind.i64.wrap (x0.tmod 65536) - 65536)), (IntKind.i64.wrap (IntKind.i64.wrap (IntKind.u32.wrap (x0.tdiv 65536)) - 65536)))
    else some ((IntKind.i64.wrap (IntKind.i64.wrap (x0.tmod 65536) - 65536)), (IntKind.i64.wrap (IntKind.u32.wrap (x0.tdiv 65536))))
  else bif decide (IntKind.i64.wrap (IntKind.u32.wrap (x0.tdiv 65536)) ≥ 32768)
    then some ((IntKind.i64.wrap (x0.tmod 65536)), (IntKind.i64.wrap (IntKind.i64.wrap (IntKind.u32.wrap (x0.tdiv 65536)) - 65536)))
    else some ((IntKind.i64.wrap (x0.tmod 65536)), (IntKind.i64.wrap (IntKind.u32.wrap (x0.tdiv 65536)))) := (ref03_Parts_raw x0).trans (by kernel_rfl)
noncomputable def ref03_Parts_sig : Sig := { pm := [(false, [(false, .int .u32)])], rm := [(false, [(false, .int .i64)]), (false, [(false, .int .i64)])], f := fun | [⟨.int .u32, x0⟩] => .yes _ (ref03_Parts x0) ref03_Parts_mk | _ => .no }
theorem ref03_Parts_ok : SigOk Tryd.prog 57 ref03_Parts_sig := by
  refine contract_of (C := ref03_Parts_C) (d := 3) ⟨S46_ok, noPs⟩ (callable_ex (by kernel_rfl)) ?_
  intro dvs
  unfold ref03_Parts_sig
  dsimp only
  split
  · refine .inr ⟨_, ref03_Parts_un, ref03_Parts_mk, congrArg (fun o => Cl.yes _ o _) (ref03_Parts_raw _), ?_⟩
    intro ds x h
    unfold ref03_Parts_un at h
    split at h
    · cases h; rfl
    · cases h
  · exact .inl rfl
noncomputable def S47 : List (Nat × Sig) := (57, ref03_Parts_sig) :: S46
theorem S47_ok : ListOk Tryd.prog S47 := ListOk.cons S46_ok ref03_Parts_ok
noncomputable def ref03_Turn_C : Cfg := { P := Tryd.prog, sig := lookSig S47, hb := fun _ _ => none, hr := fun _ _ => none }
noncomputable def ref03_Turn_un : List DV → Option (Int × Int) := fun | [⟨.int .i64, r0⟩, ⟨.int .i64, r1⟩] => some (r0, r1) | _ => none
noncomputable def ref03_Turn_mk : (Int × Int) → List DV := fun ⟨r0, r1⟩ => [⟨.int .i64, r0⟩, ⟨.int .i64, r1⟩]
theorem ref03_Turn_ex : ∃ f : (Int) → (Int) → (Int) → Option (Int × Int), f = fun (x0 : Int) (x1 : Int) (x2 : Int) => funRun ref03_Turn_C 3 79 [(false, [(false, .int .i64)]), (false, [(false, .int .i64)]), (false, [(false, .int .i64)])] [(false, [(false, .int .i64)]), (false, [(false, .int .i64)])] ref03_Turn_un [⟨.int .i64, x0⟩, ⟨.int .i64, x1⟩, ⟨.int .i64, x2⟩] := ⟨_, rfl⟩
noncomputable def ref03_Turn : (Int) → (Int) → (Int) → Option (Int × Int) := ref03_Turn_ex.choose
theorem ref03_Turn_raw (x0 : Int) (x1 : Int) (x2 : Int) : ref03_Turn x0 x1 x2 = funRun ref03_Turn_C 3 79 [(false, [(false, .int .i64)]), (false, [(false, .int .i64)]), (false, [(false, .int .i64)])] [(false, [(false, .int .i64)]), (false, [(false, .int .i64)])] ref03_Turn_un [⟨.int .i64, x0⟩, ⟨.int .i64, x1⟩, ⟨.int .i64, x2⟩] := congrFun (congrFun (congrFun (ref03_Turn_ex.choose_spec) x0) x1) x2
theorem ref03_Turn_eq (x0 : Int) (x1 : Int) (x2 : Int) : ref03_Turn x0 x1 x2 =
  bif (IntKind.i64.wrap (x2.tmod 4 + 4)).tmod 4 == 1
  then some ((IntKind.i64.wrap (0 - x1)), (x0))
  else bif (IntKind.i64.wrap (x2.tmod 4 + 4)).tmod 4 == 2
    then some ((IntKind.i64.wrap (0 - x0)), (IntKind.i64.wrap (0 - x1)))
    else bif (IntKind.i64.wrap (x2.tmod 4 + 4)).tmod 4 == 3
      then some ((x1), (IntKind.i64.wrap (0 - x0)))
      else some ((x0), (x1)) := (ref03_Turn_raw x0 x1 x2).trans (by kernel_rfl)
noncomputable def ref03_Turn_sig : Sig := { pm := [(false, [(false, .int .i64)]), (false, [(false, .int .i64)]), (false, [(false, .int .i64)])], rm := [(false, [(false, .int .i64)]), (false, [(false, .int .i64)])], f := fun | [⟨.int .i64, x0⟩, ⟨.int .i64, x1⟩, ⟨.int .i64, x2⟩] => .yes _ (ref03_Turn x0 x1 x2) ref03_Turn_mk | _ => .no }
theorem ref03_Turn_ok : SigOk Tryd.prog 79 ref03_Turn_sig := by
  refine contract_of (C := ref03_Turn_C) (d := 3) ⟨S47_ok, noPs⟩ (callable_ex (by kernel_rfl)) ?_
  intro dvs
  unfold ref03_Turn_sig
  dsimp only
  split
  · refine .inr ⟨_, ref03_Turn_un, ref03_Turn_mk, congrArg (fun o => Cl.yes _ o _) (ref03_Turn_raw _ _ _), ?_⟩
    intro ds x h
    unfold ref03_Turn_un at h
    split at h
    · cases h; rfl
    · cases h
  · exact .inl rfl
noncomputable def S48 : List (Nat × Sig) := (79, ref03_Turn_sig) :: S47
theorem S48_ok : ListOk Tryd.prog S48 := ListOk.cons S47_ok ref03_Turn_ok
noncomputable def ref03_Quarter_C : Cfg := { P := Tryd.prog, sig := lookSig S48, hb := fun _ _ => none, hr := fun _ _ => none }
noncomputable def ref03_Quarter_un : List DV → Option (Int) := fun | [⟨.int .i64, r0⟩] => some r0 | _ => none
noncomputable def ref03_Quarter_mk : Int → List DV := fun r0 => [⟨.int .i64, r0⟩]
theorem ref03_Quarter_ex : ∃ f : (Int) → (Int) → Option (Int), f = fun (x0 : Int) (x1 : Int) => funRun ref03_Quarter_C 3 78 [(false, [(false, .int .i64)]), (false, [(false, .int .i64)])] [(false, [(false, .int .i64)])] ref03_Quarter_un [⟨.int .i64, x0⟩, ⟨.int .i64, x1⟩] := ⟨_, rfl⟩
noncomputable def ref03_Quarter : (Int) → (Int) → Option (Int) := ref03_Quarter_ex.choose
theorem ref03_Quarter_raw (x0 : Int) (x1 : Int) : ref03_Quarter x0 x1 = funRun ref03_Quarter_C 3 78 [(false, [(false, .int .i64)]), (false, [(false, .int .i64)])] [(false, [(false, .int .i64)])] ref03_Quarter_un [⟨.int .i64, x0⟩, ⟨.int .i64, x1⟩] := congrFun (congrFun (ref03_Quarter_ex.choose_spec) x0) x1
theorem ref03_Quarter_eq (x0 : Int) (x1 : Int) : ref03_Quarter x0 x1 =
  bif decide (x0 > 0)
  then bif decide (x1 ≥ 0)
    then some (0)
    else bif decide (x1 > 0)
      then bif decide (x0 ≤ 0)
        then some (1)
        else bif decide (x0 < 0)
          then bif decide (x1 ≤ 0)
            then some (2)
            else bif decide (x1 < 0)
              then bif decide (x0 ≥ 0)
                then some (3)
                else some (0)
              else some (0)
          else bif decide (x1 < 0)
            then bif decide (x0 ≥ 0)
              then some (3)
              else some (0)
            else some (0)
      else bif decide (x0 < 0)
        then bif decide (x1 ≤ 0)
          then some (2)
          else bif decide (x1 < 0)
            then bif decide (x0 ≥ 0)
              then some (3)
              else some (0)
            else some (0)
        else bif decide (x1 < 0)
          then bif decide (x0 ≥ 0)
            then some (3)
            else some (0)
          else some (0)
  else bif decide (x1 > 0)
    then bif decide (x0 ≤ 0)
      then some (1)
      else bif decide (x0 < 0)
        then bif decide (x1 ≤ 0)
          then some (2)
          else bif decide (x1 < 0)
            then bif decide (x0 ≥ 0)
              then some (3)
              else some (0)
            else some (0)
        else bif decide (x1 < 0)
          then bif decide (x0 ≥ 0)
            then some (3)
            else some (0)
          else some (0)
    else bif decide (x0 < 0)
      then bif decide (x1 ≤ 0)
        then some (2)
        else bif decide (x1 < 0)
          then bif decide (x0 ≥ 0)
            then some (3)
            else some (0)
          else some (0)
      else bif decide (x1 < 0)
        then bif decide (x0 ≥ 0)
          then some (3)
          else some (0)
        else some (0) := (ref03_Quarter_raw x0 x1).trans (by kernel_rfl)
noncomputable def ref03_Quarter_sig : Sig := { pm := [(false, [(false, .int .i64)]), (false, [(false, .int .i64)])], rm := [(false, [(false, .int .i64)])], f := fun | [⟨.int .i64, x0⟩, ⟨.int .i64, x1⟩] => .yes _ (ref03_Quarter x0 x1) ref03_Quarter_mk | _ => .no }
theorem ref03_Quarter_ok : SigOk Tryd.prog 78 ref03_Quarter_sig := by
  refine contract_of (C := ref03_Quarter_C) (d := 3) ⟨S48_ok, noPs⟩ (callable_ex (by kernel_rfl)) ?_
  intro dvs
  unfold ref03_Quarter_sig
  dsimp only
  split
  · refine .inr ⟨_, ref03_Quarter_un, ref03_Quarter_mk, congrArg (fun o => Cl.yes _ o _) (ref03_Quarter_raw _ _), ?_⟩
    intro ds x h
    unfold ref03_Quarter_un at h
    split at h
    · cases h; rfl
    · cases h
  · exact .inl rfl
noncomputable def S49 : List (Nat × Sig) := (78, ref03_Quarter_sig) :: S48
theorem S49_ok : ListOk Tryd.prog S49 := ListOk.cons S48_ok ref03_Quarter_ok
noncomputable def ref03_Part_C : Cfg := { P := Tryd.prog, sig := lookSig S49, hb := fun f b =>   bif Nat.beq f 59 && Nat.beq b 0 then some { tmps := [2, 8, 9, 10, 11], obs := [], nils := [], kl := [] } else none, hr := fun _ _ => none }
noncomputable def ref03_Part_un : List DV → Option (Int × Int) := fun | [⟨.int .i64, r0⟩, ⟨.int .i64, r1⟩] => some (r0, r1) | _ => none
noncomputable def ref03_Part_mk : (Int × Int) → List DV := fun ⟨r0, r1⟩ => [⟨.int .i64, r0⟩, ⟨.int .i64, r1⟩]
theorem ref03_Part_ex : ∃ f : (Int) → (Int) → (Int) → Option (Int × Int), f = fun (x0 : Int) (x1 : Int) (x2 : Int) => funRun ref03_Part_C 3 59 [(false, [(false, .int .i64)]), (false, [(false, .int .i64)]), (false, [(false, .int .i64)])] [(false, [(false, .int .i64)]), (false, [(false, .int .i64)])] ref03_Part_un [⟨.int .i64, x0⟩, ⟨.int .i64, x1⟩, ⟨.int .i64, x2⟩] := ⟨_, rfl⟩
noncomputable def ref03_Part : (Int) → (Int) → (Int) → Option (Int × Int) := ref03_Part_ex.choose
theorem ref03_Part_raw (x0 : Int) (x1 : Int) (x2 : Int) : ref03_Part x0 x1 x2 = funRun ref03_Part_C 3 59 [(false, [(false, .int .i64)]), (false, [(false, .int .i64)]), (false, [(false, .int .i64)])] [(false, [(false, .int .i64)]), (false, [(false, .int .i64)])] ref03_Part_un [⟨.int .i64, x0⟩, ⟨.int .i64, x1⟩, ⟨.int .i64, x2⟩] := congrFun (congrFun (congrFun (ref03_Part_ex.choose_spec) x0) x1) x2
noncomputable def ref03_Part_l0 (y0 : Int) (y1 : Int) (y2 : Int) (y3 : Int) (y4 : Int) : Option (Int × Int) := loopAt ref03_Part_C 3 59 [(false, [(false, .int .i64)]), (false, [(false, .int .i64)])] ref03_Part_un [true, true, true, true, true, false, true, false] (St.ofLists [(2, .int .i64 y0), (8, .int .i64 y1), (9, .int .i64 y2), (10, .int .i64 y3), (11, .int .i64 y4)] [] [])
theorem ref03_Part_eq (x0 : Int) (x1 : Int) (x2 : Int) : ref03_Part x0 x1 x2 =
  bif decide (x2 < 1)
  then some ((0), (2))
  else bif decide (x2 > 64)
    then some ((0), (2))
    else bif x0 == 0
      then bif x1 == 0
        then some ((0), (0))
        else (ref03_Quarter x0 x1).bind fun val8 =>
          (ref03_Turn x0 x1 (IntKind.i64.wrap (0 - val8))).bind fun val10 =>
            ref03_Part_l0 (x2) (val8) (val10.1) (val10.2) (IntKind.i64.wrap (x2 - 1))
      else (ref03_Quarter x0 x1).bind fun val6 =>
        (ref03_Turn x0 x1 (IntKind.i64.wrap (0 - val6))).bind fun val8 =>
          ref03_Part_l0 (x2) (val6) (val8.1) (val8.2) (IntKind.i64.wrap (x2 - 1)) := (ref03_Part_raw x0 x1 x2).trans (by kernel_rfl)
theorem ref03_Part_l0_eq (y0 : Int) (y1 : Int) (y2 : Int) (y3 : Int) (y4 : Int) : ref03_Part_l0 y0 y1 y2 y3 y4 =
  bif decide (y4 > 0)
  then bif decide (IntKind.i64.wrap (IntKind.i64.wrap (4 * y4) * IntKind.i64.wrap (y2 + y3)) ≤ IntKind.i64.wrap (y0 * IntKind.i64.wrap (IntKind.i64.wrap (y1 * IntKind.i64.wrap (y2 + y3)) + y3)))
    then some ((y4), (0))
    else ref03_Part_l0 (y0) (y1) (y2) (y3) (IntKind.i64.wrap (y4 - 1))
  else some ((0), (0)) := (loopAt_step _ _ _ _ _ _ _).trans (by kernel_rfl)
noncomputable def ref03_Part_sig : Sig := { pm := [(false, [(false, .int .i64)]), (false, [(false, .int .i64)]), (false, [(false, .int .i64)])], rm := [(false, [(false, .int .i64)]), (false, [(false, .int .i64)])], f := fun | [⟨.int .i64, x0⟩, ⟨.int .i64, x1⟩, ⟨.int .i64, x2⟩] => .yes _ (ref03_Part x0 x1 x2) ref03_Part_mk | _ => .no }
theorem ref03_Part_ok : SigOk Tryd.prog 59 ref03_Part_sig := by
  refine contract_of (C := ref03_Part_C) (d := 3) ⟨S49_ok, noPs⟩ (callable_ex (by kernel_rfl)) ?_
  intro dvs
  unfold ref03_Part_sig
  dsimp only
  split
  · refine .inr ⟨_, ref03_Part_un, ref03_Part_mk, congrArg (fun o => Cl.yes _ o _) (ref03_Part_raw _ _ _), ?_⟩
    intro ds x h
    unfold ref03_Part_un at h
    split at h
    · cases h; rfl
    · cases h
  · exact .inl rfl
noncomputable def S50 : List (Nat × Sig) := (59, ref03_Part_sig) :: S49
theorem S50_ok : ListOk Tryd.prog S50 := ListOk.cons S49_ok ref03_Part_ok
noncomputable def ref03_Key_C : Cfg := { P := Tryd.prog, sig := lookSig S50, hb := fun f b =>   bif Nat.beq f 58 && Nat.beq b 0 then some { tmps := [0, 3, 4], obs := [], nils := [], kl := [] } else none, hr := fun _ _ => none }
noncomputable def ref03_Key_un : List DV → Option (Int) := fun | [⟨.int .u32, r0⟩] => some r0 | _ => none
noncomputable def ref03_Key_mk : Int → List DV := fun r0 => [⟨.int .u32, r0⟩]
theorem ref03_Key_ex : ∃ f : (ByteArray) → Option (Int), f = fun (x0 : ByteArray) => funRun ref03_Key_C 3 58 [(false, [(false, .str)])] [(false, [(false, .int .u32)])] ref03_Key_un [⟨.str, x0⟩] := ⟨_, rfl⟩
noncomputable def ref03_Key : (ByteArray) → Option (Int) := ref03_Key_ex.choose
theorem ref03_Key_raw (x0 : ByteArray) : ref03_Key x0 = funRun ref03_Key_C 3 58 [(false, [(false, .str)])] [(false, [(false, .int .u32)])] ref03_Key_un [⟨.str, x0⟩] := congrFun (ref03_Key_ex.choose_spec) x0
noncomputable def ref03_Key_l0 (y0 : ByteArray) (y1 : Int) (y2 : Int) : Option (Int) := loopAt ref03_Key_C 3 58 [(false, [(false, .int .u32)])] ref03_Key_un [true, true, false, true, false] (St.ofLists [(0, .str y0), (3, .int .u64 y1), (4, .int .i64 y2)] [] [])
theorem ref03_Key_eq (x0 : ByteArray) : ref03_Key x0 =
  ref03_Key_l0 (x0) (2166136261) (0) := (ref03_Key_raw x0).trans (by kernel_rfl)
theorem ref03_Key_l0_eq (y0 : ByteArray) (y1 : Int) (y2 : Int) : ref03_Key_l0 y0 y1 y2 =
  bif decide (y2 < isize y0)
  then bif decide (0 ≤ y2)
    then (y0.data[y2.toNat]?).bind fun val4 =>
      ref03_Key_l0 (y0) ((IntKind.u64.wrap (IntKind.u64.wrap (IntKind.u64.wrap (y1 - y1.tmod 256) + IntKind.u64.wrap ↑(BitVec.ofInt IntKind.u64.bits (y1.tmod 256) ^^^ BitVec.ofInt IntKind.u64.bits (IntKind.u64.wrap (val4.toNat : Int))).toNat) * 16777619)).tmod 4294967296) (IntKind.i64.wrap (y2 + 1))
    else none
  else some (IntKind.u32.wrap y1) := (loopAt_step _ _ _ _ _ _ _).trans (by kernel_rfl)
noncomputable def ref03_Key_sig : Sig := { pm := [(false, [(false, .str)])], rm := [(false, [(false, .int .u32)])], f := fun | [⟨.str, x0⟩] => .yes _ (ref03_Key x0) ref03_Key_mk | _ => .no }
theorem ref03_Key_ok : SigOk Tryd.prog 58 ref03_Key_sig := by
  refine contract_of (C := ref03_Key_C) (d := 3) ⟨S50_ok, noPs⟩ (callable_ex (by kernel_rfl)) ?_
  intro dvs
  unfold ref03_Key_sig
  dsimp only
  split
  · refine .inr ⟨_, ref03_Key_un, ref03_Key_mk, congrArg (fun o => Cl.yes _ o _) (ref03_Key_raw _), ?_⟩
    intro ds x h
    unfold ref03_Key_un at h
    split at h
    · cases h; rfl
    · cases h
  · exact .inl rfl
noncomputable def S51 : List (Nat × Sig) := (58, ref03_Key_sig) :: S50
theorem S51_ok : ListOk Tryd.prog S51 := ListOk.cons S50_ok ref03_Key_ok
noncomputable def ref03_Route_C : Cfg := { P := Tryd.prog, sig := lookSig S51, hb := fun _ _ => none, hr := fun _ _ => none }
noncomputable def ref03_Route_un : List DV → Option (Int × Int) := fun | [⟨.int .i64, r0⟩, ⟨.int .i64, r1⟩] => some (r0, r1) | _ => none
noncomputable def ref03_Route_mk : (Int × Int) → List DV := fun ⟨r0, r1⟩ => [⟨.int .i64, r0⟩, ⟨.int .i64, r1⟩]
theorem ref03_Route_ex : ∃ f : (ByteArray) → (Int) → Option (Int × Int), f = fun (x0 : ByteArray) (x1 : Int) => funRun ref03_Route_C 3 31 [(false, [(false, .str)]), (false, [(false, .int .i64)])] [(false, [(false, .int .i64)]), (false, [(false, .int .i64)])] ref03_Route_un [⟨.str, x0⟩, ⟨.int .i64, x1⟩] := ⟨_, rfl⟩
noncomputable def ref03_Route : (ByteArray) → (Int) → Option (Int × Int) := ref03_Route_ex.choose
theorem ref03_Route_raw (x0 : ByteArray) (x1 : Int) : ref03_Route x0 x1 = funRun ref03_Route_C 3 31 [(false, [(false, .str)]), (false, [(false, .int .i64)])] [(false, [(false, .int .i64)]), (false, [(false, .int .i64)])] ref03_Route_un [⟨.str, x0⟩, ⟨.int .i64, x1⟩] := congrFun (congrFun (ref03_Route_ex.choose_spec) x0) x1
theorem ref03_Route_eq (x0 : ByteArray) (x1 : Int) : ref03_Route x0 x1 =
  (ref03_Key x0).bind fun val0 =>
  (ref03_Parts val0).bind fun val2 =>
    (ref03_Part val2.1 val2.2 x1).bind fun val4 =>
      some ((val4.1), (val4.2)) := (ref03_Route_raw x0 x1).trans (by kernel_rfl)
noncomputable def ref03_Route_sig : Sig := { pm := [(false, [(false, .str)]), (false, [(false, .int .i64)])], rm := [(false, [(false, .int .i64)]), (false, [(false, .int .i64)])], f := fun | [⟨.str, x0⟩, ⟨.int .i64, x1⟩] => .yes _ (ref03_Route x0 x1) ref03_Route_mk | _ => .no }
theorem ref03_Route_ok : SigOk Tryd.prog 31 ref03_Route_sig := by
  refine contract_of (C := ref03_Route_C) (d := 3) ⟨S51_ok, noPs⟩ (callable_ex (by kernel_rfl)) ?_
  intro dvs
  unfold ref03_Route_sig
  dsimp only
  split
  · refine .inr ⟨_, ref03_Route_un, ref03_Route_mk, congrArg (fun o => Cl.yes _ o _) (ref03_Route_raw _ _), ?_⟩
    intro ds x h
    unfold ref03_Route_un at h
    split at h
    · cases h; rfl
    · cases h
  · exact .inl rfl
noncomputable def S52 : List (Nat × Sig) := (31, ref03_Route_sig) :: S51
theorem S52_ok : ListOk Tryd.prog S52 := ListOk.cons S51_ok ref03_Route_ok
end Go.Proofs.YtdbenenonfldkaaDoor.PE
