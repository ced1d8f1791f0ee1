import Derived.Test.YtdbenenonfldkaaDoorEFun
import Derived.KernelRfl
namespace Go.Proofs.YtdbenenonfldkaaDoor.PE
set_option linter.unusedVariables false
open Go.Proofs
noncomputable def S0 : List (Nat × Sig) := []
theorem S0_ok : ListOk Tryd.prog S0 := ListOk.nil
noncomputable def P0 : List (Nat × Sig) := []
theorem P0_ok : ListPOk Tryd.prog P0 := ListPOk.nil
noncomputable def ses_Global_C : Cfg := { P := Tryd.prog, sig := lookSig S0, hb := fun _ _ => none, hr := fun _ _ => none }
noncomputable def ses_Global_un : List DV → Option (Int × Int) := fun | [⟨.int .i64, r0⟩, ⟨.int .i64, r1⟩] => some (r0, r1) | _ => none
noncomputable def ses_Global_mk : (Int × Int) → List DV := fun ⟨r0, r1⟩ => [⟨.int .i64, r0⟩, ⟨.int .i64, r1⟩]
theorem ses_Global_ex : ∃ f : (Int) → (Int) → Option (Int × Int), f = fun (x0 : Int) (x1 : Int) => funRun ses_Global_C 3 7 [(false, [(false, .int .i64)]), (false, [(false, .int .i64)])] [(false, [(false, .int .i64)]), (false, [(false, .int .i64)])] ses_Global_un [⟨.int .i64, x0⟩, ⟨.int .i64, x1⟩] := ⟨_, rfl⟩
noncomputable def ses_Global : (Int) → (Int) → Option (Int × Int) := ses_Global_ex.choose
theorem ses_Global_raw (x0 : Int) (x1 : Int) : ses_Global x0 x1 = funRun ses_Global_C 3 7 [(false, [(false, .int .i64)]), (false, [(false, .int .i64)])] [(false, [(false, .int .i64)]), (false, [(false, .int .i64)])] ses_Global_un [⟨.int .i64, x0⟩, ⟨.int .i64, x1⟩] := congrFun (congrFun (ses_Global_ex.choose_spec) x0) x1
theorem ses_Global_eq (x0 : Int) (x1 : Int) : ses_Global x0 x1 =
  bif decide (x0 < 0)
  then some ((0), (2))
  else bif decide (x0 ≥ 64)
    then some ((0), (2))
    else bif decide (x1 < 0)
      then some ((0), (2))
      else bif decide (x1 > 1099511627776)
        then some ((0), (2))
        else some ((IntKind.i64.wrap (IntKind.i64.wrap (x1 * 64) + x0)), (0)) := (ses_Global_raw x0 x1).trans (by kernel_rfl)
noncomputable def ses_Global_sig : Sig := { pm := [(false, [(false, .int .i64)]), (false, [(false, .int .i64)])], rm := [(false, [(false, .int .i64)]), (false, [(false, .int .i64)])], f := fun | [⟨.int .i64, x0⟩, ⟨.int .i64, x1⟩] => .yes _ (ses_Global x0 x1) ses_Global_mk | _ => .no }
theorem ses_Global_ok : SigOk Tryd.prog 7 ses_Global_sig := by
  refine contract_of (C := ses_Global_C) (d := 3) ⟨S0_ok, noPs⟩ (callable_ex (by kernel_rfl)) ?_
  intro dvs
  unfold ses_Global_sig
  dsimp only
  split
  · refine .inr ⟨_, ses_Global_un, ses_Global_mk, congrArg (fun o => Cl.yes _ o _) (ses_Global_raw _ _), ?_⟩
    intro ds x h
    unfold ses_Global_un at h
    split at h
    · cases h; rfl
    · cases h
  · exact .inl rfl
noncomputable def S1 : List (Nat × Sig) := (7, ses_Global_sig) :: S0
theorem S1_ok : ListOk Tryd.prog S1 := ListOk.cons S0_ok ses_Global_ok
noncomputable def ref29_Global_C : Cfg := { P := Tryd.prog, sig := lookSig S1, hb := fun _ _ => none, hr := fun _ _ => none }
noncomputable def ref29_Global_un : List DV → Option (Int × Int) := fun | [⟨.int .i64, r0⟩, ⟨.int .i64, r1⟩] => some (r0, r1) | _ => none
noncomputable def ref29_Global_mk : (Int × Int) → List DV := fun ⟨r0, r1⟩ => [⟨.int .i64, r0⟩, ⟨.int .i64, r1⟩]
theorem ref29_Global_ex : ∃ f : (Int) → (Int) → Option (Int × Int), f = fun (x0 : Int) (x1 : Int) => funRun ref29_Global_C 3 8 [(false, [(false, .int .i64)]), (false, [(false, .int .i64)])] [(false, [(false, .int .i64)]), (false, [(false, .int .i64)])] ref29_Global_un [⟨.int .i64, x0⟩, ⟨.int .i64, x1⟩] := ⟨_, rfl⟩
noncomputable def ref29_Global : (Int) → (Int) → Option (Int × Int) := ref29_Global_ex.choose
theorem ref29_Global_raw (x0 : Int) (x1 : Int) : ref29_Global x0 x1 = funRun ref29_Global_C 3 8 [(false, [(false, .int .i64)]), (false, [(false, .int .i64)])] [(false, [(false, .int .i64)]), (false, [(false, .int .i64)])] ref29_Global_un [⟨.int .i64, x0⟩, ⟨.int .i64, x1⟩] := congrFun (congrFun (ref29_Global_ex.choose_spec) x0) x1
theorem ref29_Global_eq (x0 : Int) (x1 : Int) : ref29_Global x0 x1 =
  bif decide (x0 < 0)
  then some ((0), (2))
  else bif decide (x0 > 63)
    then some ((0), (2))
    else bif decide (x1 < 0)
      then some ((0), (2))
      else bif decide (x1 > 1099511627776)
        then some ((0), (2))
        else some ((IntKind.i64.wrap (IntKind.i64.wrap (64 * x1) + x0)), (0)) := (ref29_Global_raw x0 x1).trans (by kernel_rfl)
noncomputable def ref29_Global_sig : Sig := { pm := [(false, [(false, .int .i64)]), (false, [(false, .int .i64)])], rm := [(false, [(false, .int .i64)]), (false, [(false, .int .i64)])], f := fun | [⟨.int .i64, x0⟩, ⟨.int .i64, x1⟩] => .yes _ (ref29_Global x0 x1) ref29_Global_mk | _ => .no }
theorem ref29_Global_ok : SigOk Tryd.prog 8 ref29_Global_sig := by
  refine contract_of (C := ref29_Global_C) (d := 3) ⟨S1_ok, noPs⟩ (callable_ex (by kernel_rfl)) ?_
  intro dvs
  unfold ref29_Global_sig
  dsimp only
  split
  · refine .inr ⟨_, ref29_Global_un, ref29_Global_mk, congrArg (fun o => Cl.yes _ o _) (ref29_Global_raw _ _), ?_⟩
    intro ds x h
    unfold ref29_Global_un at h
    split at h
    · cases h; rfl
    · cases h
  · exact .inl rfl
noncomputable def S2 : List (Nat × Sig) := (8, ref29_Global_sig) :: S1
theorem S2_ok : ListOk Tryd.prog S2 := ListOk.cons S1_ok ref29_Global_ok
noncomputable def ses_Local_C : Cfg := { P := Tryd.prog, sig := lookSig S2, hb := fun _ _ => none, hr := fun _ _ => none }
noncomputable def ses_Local_un : List DV → Option (Int × Int × Int) := fun | [⟨.int .i64, r0⟩, ⟨.int .i64, r1⟩, ⟨.int .i64, r2⟩] => some (r0, r1, r2) | _ => none
noncomputable def ses_Local_mk : (Int × Int × Int) → List DV := fun ⟨r0, r1, r2⟩ => [⟨.int .i64, r0⟩, ⟨.int .i64, r1⟩, ⟨.int .i64, r2⟩]
theorem ses_Local_ex : ∃ f : (Int) → Option (Int × Int × Int), f = fun (x0 : Int) => funRun ses_Local_C 3 9 [(false, [(false, .int .i64)])] [(false, [(false, .int .i64)]), (false, [(false, .int .i64)]), (false, [(false, .int .i64)])] ses_Local_un [⟨.int .i64, x0⟩] := ⟨_, rfl⟩
noncomputable def ses_Local : (Int) → Option (Int × Int × Int) := ses_Local_ex.choose
theorem ses_Local_raw (x0 : Int) : ses_Local x0 = funRun ses_Local_C 3 9 [(false, [(false, .int .i64)])] [(false, [(false, .int .i64)]), (false, [(false, .int .i64)]), (false, [(false, .int .i64)])] ses_Local_un [⟨.int .i64, x0⟩] := congrFun (ses_Local_ex.choose_spec) x0
theorem ses_Local_eq (x0 : Int) : ses_Local x0 =
  bif decide (x0 < 0)
  then some ((0), ((0), (2)))
  else bif decide (IntKind.i64.wrap (x0.tdiv 64) > 1099511627776)
    then some ((0), ((0), (2)))
    else some ((x0.tmod 64), ((IntKind.i64.wrap (x0.tdiv 64)), (0))) := (ses_Local_raw x0).trans (by kernel_rfl)
noncomputable def ses_Local_sig : Sig := { pm := [(false, [(false, .int .i64)])], rm := [(false, [(false, .int .i64)]), (false, [(false, .int .i64)]), (false, [(false, .int .i64)])], f := fun | [⟨.int .i64, x0⟩] => .yes _ (ses_Local x0) ses_Local_mk | _ => .no }
theorem ses_Local_ok : SigOk Tryd.prog 9 ses_Local_sig := by
  refine contract_of (C := ses_Local_C) (d := 3) ⟨S2_ok, noPs⟩ (callable_ex (by kernel_rfl)) ?_
  intro dvs
  unfold ses_Local_sig
  dsimp only
  split
  · refine .inr ⟨_, ses_Local_un, ses_Local_mk, congrArg (fun o => Cl.yes _ o _) (ses_Local_raw _), ?_⟩
    intro ds x h
    unfold ses_Local_un at h
    split at h
    · cases h; rfl
    · cases h
  · exact .inl rfl
noncomputable def S3 : List (Nat × Sig) := (9, ses_Local_sig) :: S2
theorem S3_ok : ListOk Tryd.prog S3 := ListOk.cons S2_ok ses_Local_ok
noncomputable def ref29_Local_C : Cfg := { P := Tryd.prog, sig := lookSig S3, hb := fun _ _ => none, hr := fun _ _ => none }
noncomputable def ref29_Local_un : List DV → Option (Int × Int × Int) := fun | [⟨.int .i64, r0⟩, ⟨.int .i64, r1⟩, ⟨.int .i64, r2⟩] => some (r0, r1, r2) | _ => none
noncomputable def ref29_Local_mk : (Int × Int × Int) → List DV := fun ⟨r0, r1, r2⟩ => [⟨.int .i64, r0⟩, ⟨.int .i64, r1⟩, ⟨.int .i64, r2⟩]
theorem ref29_Local_ex : ∃ f : (Int) → Option (Int × Int × Int), f = fun (x0 : Int) => funRun ref29_Local_C 3 10 [(false, [(false, .int .i64)])] [(false, [(false, .int .i64)]), (false, [(false, .int .i64)]), (false, [(false, .int .i64)])] ref29_Local_un [⟨.int .i64, x0⟩] := ⟨_, rfl⟩
noncomputable def ref29_Local : (Int) → Option (Int × Int × Int) := ref29_Local_ex.choose
theorem ref29_Local_raw (x0 : Int) : ref29_Local x0 = funRun ref29_Local_C 3 10 [(false, [(false, .int .i64)])] [(false, [(false, .int .i64)]), (false, [(false, .int .i64)]), (false, [(false, .int .i64)])] ref29_Local_un [⟨.int .i64, x0⟩] := congrFun (ref29_Local_ex.choose_spec) x0
theorem ref29_Local_eq (x0 : Int) : ref29_Local x0 =
  bif decide (x0 < 0)
  then some ((0), ((0), (2)))
  else bif decide (IntKind.i64.wrap (x0.tdiv 64) > 1099511627776)
    then some ((0), ((0), (2)))
    else some ((IntKind.i64.wrap (x0 - IntKind.i64.wrap (IntKind.i64.wrap (x0.tdiv 64) * 64))), ((IntKind.i64.wrap (x0.tdiv 64)), (0))) := (ref29_Local_raw x0).trans (by kernel_rfl)
noncomputable def ref29_Local_sig : Sig := { pm := [(false, [(false, .int .i64)])], rm := [(false, [(false, .int .i64)]), (false, [(false, .int .i64)]), (false, [(false, .int .i64)])], f := fun | [⟨.int .i64, x0⟩] => .yes _ (ref29_Local x0) ref29_Local_mk | _ => .no }
theorem ref29_Local_ok : SigOk Tryd.prog 10 ref29_Local_sig := by
  refine contract_of (C := ref29_Local_C) (d := 3) ⟨S3_ok, noPs⟩ (callable_ex (by kernel_rfl)) ?_
  intro dvs
  unfold ref29_Local_sig
  dsimp only
  split
  · refine .inr ⟨_, ref29_Local_un, ref29_Local_mk, congrArg (fun o => Cl.yes _ o _) (ref29_Local_raw _), ?_⟩
    intro ds x h
    unfold ref29_Local_un at h
    split at h
    · cases h; rfl
    · cases h
  · exact .inl rfl
noncomputable def S4 : List (Nat × Sig) := (10, ref29_Local_sig) :: S3
theorem S4_ok : ListOk Tryd.prog S4 := ListOk.cons S3_ok ref29_Local_ok
noncomputable def ses_New_C : Cfg := { P := Tryd.prog, sig := lookSig S4, hb := fun _ _ => none, hr := fun _ _ => none }
noncomputable def ses_New_un : List DV → Option (Int × Int × Int × Int × Int × (List (Int × Int × (List Int))) × Int × Int) := fun | [⟨.int .i64, r0⟩, ⟨.int .i64, r1⟩, ⟨.int .i64, r2⟩, ⟨.int .i64, r3⟩, ⟨.int .i64, r4⟩, ⟨.slice (.pair (.int .i64) (.pair (.int .i64) (.slice (.int .u8)))), r5⟩, ⟨.int .i64, r6⟩, ⟨.int .i64, r7⟩] => some (r0, r1, r2, r3, r4, r5, r6, r7) | _ => none
noncomputable def ses_New_mk : (Int × Int × Int × Int × Int × (List (Int × Int × (List Int))) × Int × Int) → List DV := fun ⟨r0, r1, r2, r3, r4, r5, r6, r7⟩ => [⟨.int .i64, r0⟩, ⟨.int .i64, r1⟩, ⟨.int .i64, r2⟩, ⟨.int .i64, r3⟩, ⟨.int .i64, r4⟩, ⟨.slice (.pair (.int .i64) (.pair (.int .i64) (.slice (.int .u8)))), r5⟩, ⟨.int .i64, r6⟩, ⟨.int .i64, r7⟩]
theorem ses_New_ex : ∃ f : (Int) → (Int) → (Int) → Option (Int × Int × Int × Int × Int × (List (Int × Int × (List Int))) × Int × Int), f = fun (x0 : Int) (x1 : Int) (x2 : Int) => funRun ses_New_C 3 13 [(false, [(false, .int .i64)]), (false, [(false, .int .i64)]), (false, [(false, .int .i64)])] [(true, [(false, .int .i64), (false, .int .i64), (false, .int .i64), (false, .int .i64), (false, .int .i64), (true, .slice (.pair (.int .i64) (.pair (.int .i64) (.slice (.int .u8))))), (false, .int .i64)]), (false, [(false, .int .i64)])] ses_New_un [⟨.int .i64, x0⟩, ⟨.int .i64, x1⟩, ⟨.int .i64, x2⟩] := ⟨_, rfl⟩
noncomputable def ses_New : (Int) → (Int) → (Int) → Option (Int × Int × Int × Int × Int × (List (Int × Int × (List Int))) × Int × Int) := ses_New_ex.choose
theorem ses_New_raw (x0 : Int) (x1 : Int) (x2 : Int) : ses_New x0 x1 x2 = funRun ses_New_C 3 13 [(false, [(false, .int .i64)]), (false, [(false, .int .i64)]), (false, [(false, .int .i64)])] [(true, [(false, .int .i64), (false, .int .i64), (false, .int .i64), (false, .int .i64), (false, .int .i64), (true, .slice (.pair (.int .i64) (.pair (.int .i64) (.slice (.int .u8))))), (false, .int .i64)]), (false, [(false, .int .i64)])] ses_New_un [⟨.int .i64, x0⟩, ⟨.int .i64, x1⟩, ⟨.int .i64, x2⟩] := congrFun (congrFun (congrFun (ses_New_ex.choose_spec) x0) x1) x2
theorem ses_New_eq (x0 : Int) (x1 : Int) (x2 : Int) : ses_New x0 x1 x2 =
  bif decide (x0 < 1)
  then some ((0), ((0), ((0), ((0), ((0), (([]), ((0), (2))))))))
  else bif decide (x0 > 1099511627776)
    then some ((0), ((0), ((0), ((0), ((0), (([]), ((0), (2))))))))
    else bif decide (x1 < 1)
      then some ((0), ((0), ((0), ((0), ((0), (([]), ((0), (2))))))))
      else bif decide (x1 > 7)
        then some ((0), ((0), ((0), ((0), ((0), (([]), ((0), (2))))))))
        else bif decide (x2 < 1)
          then some ((0), ((0), ((0), ((0), ((0), (([]), ((0), (2))))))))
          else bif decide (x2 > 64)
            then some ((0), ((0), ((0), ((0), ((0), (([]), ((0), (2))))))))
            else some ((x0), ((0), ((x1), ((x2), ((1), (([]), ((0), (0)))))))) := (ses_New_raw x0 x1 x2).trans (by kernel_rfl)
noncomputable def ses_New_sig : Sig := { pm := [(false, [(false, .int .i64)]), (false, [(false, .int .i64)]), (false, [(false, .int .i64)])], rm := [(true, [(false, .int .i64), (false, .int .i64), (false, .int .i64), (false, .int .i64), (false, .int .i64), (true, .slice (.pair (.int .i64) (.pair (.int .i64) (.slice (.int .u8))))), (false, .int .i64)]), (false, [(false, .int .i64)])], f := fun | [⟨.int .i64, x0⟩, ⟨.int .i64, x1⟩, ⟨.int .i64, x2⟩] => .yes _ (ses_New x0 x1 x2) ses_New_mk | _ => .no }
theorem ses_New_ok : SigOk Tryd.prog 13 ses_New_sig := by
  refine contract_of (C := ses_New_C) (d := 3) ⟨S4_ok, noPs⟩ (callable_ex (by kernel_rfl)) ?_
  intro dvs
  unfold ses_New_sig
  dsimp only
  split
  · refine .inr ⟨_, ses_New_un, ses_New_mk, congrArg (fun o => Cl.yes _ o _) (ses_New_raw _ _ _), ?_⟩
    intro ds x h
    unfold ses_New_un at h
    split at h
    · cases h; rfl
    · cases h
  · exact .inl rfl
noncomputable def S5 : List (Nat × Sig) := (13, ses_New_sig) :: S4
theorem S5_ok : ListOk Tryd.prog S5 := ListOk.cons S4_ok ses_New_ok
noncomputable def ses_Open_C : Cfg := { P := Tryd.prog, sig := lookSig S0, hb := fun _ _ => none, hr := fun _ _ => none, un := fun f b => bif Nat.beq f 18 && Nat.beq b 0 then 2 else bif Nat.beq f 48 && Nat.beq b 0 then 3 else bif Nat.beq f 87 && Nat.beq b 0 then 2 else bif Nat.beq f 88 && Nat.beq b 1 then 2 else bif Nat.beq f 25 && Nat.beq b 1 then 2 else 0 }
noncomputable def ses_Open_un : List DV → Option (Int × Int × Int × Int × Int × (List (Int × Int × (List Int))) × Int × Int) := fun | [⟨.int .i64, r0⟩, ⟨.int .i64, r1⟩, ⟨.int .i64, r2⟩, ⟨.int .i64, r3⟩, ⟨.int .i64, r4⟩, ⟨.slice (.pair (.int .i64) (.pair (.int .i64) (.slice (.int .u8)))), r5⟩, ⟨.int .i64, r6⟩, ⟨.int .i64, r7⟩] => some (r0, r1, r2, r3, r4, r5, r6, r7) | _ => none
noncomputable def ses_Open_mk : (Int × Int × Int × Int × Int × (List (Int × Int × (List Int))) × Int × Int) → List DV := fun ⟨r0, r1, r2, r3, r4, r5, r6, r7⟩ => [⟨.int .i64, r0⟩, ⟨.int .i64, r1⟩, ⟨.int .i64, r2⟩, ⟨.int .i64, r3⟩, ⟨.int .i64, r4⟩, ⟨.slice (.pair (.int .i64) (.pair (.int .i64) (.slice (.int .u8)))), r5⟩, ⟨.int .i64, r6⟩, ⟨.int .i64, r7⟩]
theorem ses_Open_ex : ∃ f : (Int) → (Int) → (Int) → (Int) → (Int) → (List (Int × Int × (List Int))) → (Int) → (Int) → (Int) → (Int) → (ByteArray) → (ByteArray) → (Int) → (List ByteArray) → (List Int) → (Int) → (Int) → (Int) → (Int) → (List Int) → Option (Int × Int × Int × Int × Int × (List (Int × Int × (List Int))) × Int × Int), f = fun (x0 : Int) (x1 : Int) (x2 : Int) (x3 : Int) (x4 : Int) (x5 : List (Int × Int × (List Int))) (x6 : Int) (x7 : Int) (x8 : Int) (x9 : Int) (x10 : ByteArray) (x11 : ByteArray) (x12 : Int) (x13 : List ByteArray) (x14 : List Int) (x15 : Int) (x16 : Int) (x17 : Int) (x18 : Int) (x19 : List Int) => funRun ses_Open_C 8 18 [(true, [(false, .int .i64), (false, .int .i64), (false, .int .i64), (false, .int .i64), (false, .int .i64), (false, .slice (.pair (.int .i64) (.pair (.int .i64) (.slice (.int .u8))))), (false, .int .i64)]), (true, [(false, .int .i64), (false, .int .i64), (false, .int .i64), (false, .str), (false, .str), (false, .int .i64), (false, .slice (.str)), (false, .slice (.int .i64)), (false, .int .i64), (false, .int .i64), (false, .int .i64), (false, .int .i64), (false, .slice (.int .u8))])] [(true, [(false, .int .i64), (false, .int .i64), (false, .int .i64), (false, .int .i64), (false, .int .i64), (false, .slice (.pair (.int .i64) (.pair (.int .i64) (.slice (.int .u8))))), (false, .int .i64)]), (false, [(false, .int .i64)])] ses_Open_un [⟨.int .i64, x0⟩, ⟨.int .i64, x1⟩, ⟨.int .i64, x2⟩, ⟨.int .i64, x3⟩, ⟨.int .i64, x4⟩, ⟨.slice (.pair (.int .i64) (.pair (.int .i64) (.slice (.int .u8)))), x5⟩, ⟨.int .i64, x6⟩, ⟨.int .i64, x7⟩, ⟨.int .i64, x8⟩, ⟨.int .i64, x9⟩, ⟨.str, x10⟩, ⟨.str, x11⟩, ⟨.int .i64, x12⟩, ⟨.slice (.str), x13⟩, ⟨.slice (.int .i64), x14⟩, ⟨.int .i64, x15⟩, ⟨.int .i64, x16⟩, ⟨.int .i64, x17⟩, ⟨.int .i64, x18⟩, ⟨.slice (.int .u8), x19⟩] := ⟨_, rfl⟩
noncomputable def ses_Open : (Int) → (Int) → (Int) → (Int) → (Int) → (List (Int × Int × (List Int))) → (Int) → (Int) → (Int) → (Int) → (ByteArray) → (ByteArray) → (Int) → (List ByteArray) → (List Int) → (Int) → (Int) → (Int) → (Int) → (List Int) → Option (Int × Int × Int × Int × Int × (List (Int × Int × (List Int))) × Int × Int) := ses_Open_ex.choose
theorem ses_Open_raw (x0 : Int) (x1 : Int) (x2 : Int) (x3 : Int) (x4 : Int) (x5 : List (Int × Int × (List Int))) (x6 : Int) (x7 : Int) (x8 : Int) (x9 : Int) (x10 : ByteArray) (x11 : ByteArray) (x12 : Int) (x13 : List ByteArray) (x14 : List Int) (x15 : Int) (x16 : Int) (x17 : Int) (x18 : Int) (x19 : List Int) : ses_Open x0 x1 x2 x3 x4 x5 x6 x7 x8 x9 x10 x11 x12 x13 x14 x15 x16 x17 x18 x19 = funRun ses_Open_C 8 18 [(true, [(false, .int .i64), (false, .int .i64), (false, .int .i64), (false, .int .i64), (false, .int .i64), (false, .slice (.pair (.int .i64) (.pair (.int .i64) (.slice (.int .u8))))), (false, .int .i64)]), (true, [(false, .int .i64), (false, .int .i64), (false, .int .i64), (false, .str), (false, .str), (false, .int .i64), (false, .slice (.str)), (false, .slice (.int .i64)), (false, .int .i64), (false, .int .i64), (false, .int .i64), (false, .int .i64), (false, .slice (.int .u8))])] [(true, [(false, .int .i64), (false, .int .i64), (false, .int .i64), (false, .int .i64), (false, .int .i64), (false, .slice (.pair (.int .i64) (.pair (.int .i64) (.slice (.int .u8))))), (false, .int .i64)]), (false, [(false, .int .i64)])] ses_Open_un [⟨.int .i64, x0⟩, ⟨.int .i64, x1⟩, ⟨.int .i64, x2⟩, ⟨.int .i64, x3⟩, ⟨.int .i64, x4⟩, ⟨.slice (.pair (.int .i64) (.pair (.int .i64) (.slice (.int .u8)))), x5⟩, ⟨.int .i64, x6⟩, ⟨.int .i64, x7⟩, ⟨.int .i64, x8⟩, ⟨.int .i64, x9⟩, ⟨.str, x10⟩, ⟨.str, x11⟩, ⟨.int .i64, x12⟩, ⟨.slice (.str), x13⟩, ⟨.slice (.int .i64), x14⟩, ⟨.int .i64, x15⟩, ⟨.int .i64, x16⟩, ⟨.int .i64, x17⟩, ⟨.int .i64, x18⟩, ⟨.slice (.int .u8), x19⟩] := congrFun (congrFun (congrFun (congrFun (congrFun (congrFun (congrFun (congrFun (congrFun (congrFun (congrFun (congrFun (congrFun (congrFun (congrFun (congrFun (congrFun (congrFun (congrFun (congrFun (ses_Open_ex.choose_spec) x0) x1) x2) x3) x4) x5) x6) x7) x8) x9) x10) x11) x12) x13) x14) x15) x16) x17) x18) x19
noncomputable def ses_Open_sig : Sig := { pm := [(true, [(false, .int .i64), (false, .int .i64), (false, .int .i64), (false, .int .i64), (false, .int .i64), (false, .slice (.pair (.int .i64) (.pair (.int .i64) (.slice (.int .u8))))), (false, .int .i64)]), (true, [(false, .int .i64), (false, .int .i64), (false, .int .i64), (false, .str), (false, .str), (false, .int .i64), (false, .slice (.str)), (false, .slice (.int .i64)), (false, .int .i64), (false, .int .i64), (false, .int .i64), (false, .int .i64), (false, .slice (.int .u8))])], rm := [(true, [(false, .int .i64), (false, .int .i64), (false, .int .i64), (false, .int .i64), (false, .int .i64), (false, .slice (.pair (.int .i64) (.pair (.int .i64) (.slice (.int .u8))))), (false, .int .i64)]), (false, [(false, .int .i64)])], f := fun | [⟨.int .i64, x0⟩, ⟨.int .i64, x1⟩, ⟨.int .i64, x2⟩, ⟨.int .i64, x3⟩, ⟨.int .i64, x4⟩, ⟨.slice (.pair (.int .i64) (.pair (.int .i64) (.slice (.int .u8)))), x5⟩, ⟨.int .i64, x6⟩, ⟨.int .i64, x7⟩, ⟨.int .i64, x8⟩, ⟨.int .i64, x9⟩, ⟨.str, x10⟩, ⟨.str, x11⟩, ⟨.int .i64, x12⟩, ⟨.slice (.str), x13⟩, ⟨.slice (.int .i64), x14⟩, ⟨.int .i64, x15⟩, ⟨.int .i64, x16⟩, ⟨.int .i64, x17⟩, ⟨.int .i64, x18⟩, ⟨.slice (.int .u8), x19⟩] => .yes _ (ses_Open x0 x1 x2 x3 x4 x5 x6 x7 x8 x9 x10 x11 x12 x13 x14 x15 x16 x17 x18 x19) ses_Open_mk | _ => .no }
theorem ses_Open_ok : SigOk Tryd.prog 18 ses_Open_sig := by
  refine contract_of (C := ses_Open_C) (d := 8) ⟨S0_ok, noPs⟩ (callable_ex (by kernel_rfl)) ?_
  intro dvs
  unfold ses_Open_sig
  dsimp only
  split
  · refine .inr ⟨_, ses_Open_un, ses_Open_mk, congrArg (fun o => Cl.yes _ o _) (ses_Open_raw _ _ _ _ _ _ _ _ _ _ _ _ _ _ _ _ _ _ _ _), ?_⟩
    intro ds x h
    unfold ses_Open_un at h
    split at h
    · cases h; rfl
    · cases h
  · exact .inl rfl
noncomputable def S6 : List (Nat × Sig) := (18, ses_Open_sig) :: S5
theorem S6_ok : ListOk Tryd.prog S6 := ListOk.cons S5_ok ses_Open_ok
noncomputable def ses_CloneB_C : Cfg := { P := Tryd.prog, sig := lookSig S6, hb := fun _ _ => none, hr := fun _ _ => none }
noncomputable def ses_CloneB_un : List DV → Option ((List Int)) := fun | [⟨.slice (.int .u8), r0⟩] => some r0 | _ => none
noncomputable def ses_CloneB_mk : (List Int) → List DV := fun r0 => [⟨.slice (.int .u8), r0⟩]
theorem ses_CloneB_ex : ∃ f : (List Int) → Option ((List Int)), f = fun (x0 : List Int) => avRun ses_CloneB_C 3 30 [(false, [(true, .slice (.int .u8))])] ses_CloneB_un [.fz (.int .u8) x0 false true] := ⟨_, rfl⟩
noncomputable def ses_CloneB : (List Int) → Option ((List Int)) := ses_CloneB_ex.choose
theorem ses_CloneB_raw (x0 : List Int) : ses_CloneB x0 = avRun ses_CloneB_C 3 30 [(false, [(true, .slice (.int .u8))])] ses_CloneB_un [.fz (.int .u8) x0 false true] := congrFun (ses_CloneB_ex.choose_spec) x0
theorem ses_CloneB_eq (x0 : List Int) : ses_CloneB x0 =
  bif decide ((0 + ilen x0) * 1 ≤ room)
  then some ([] ++ x0)
  else none := (ses_CloneB_raw x0).trans (by kernel_rfl)
theorem ses_CloneB_nil : avRun ses_CloneB_C 3 30 [(false, [(true, .slice (.int .u8))])] ses_CloneB_un [.nils] = some ([]) := by kernel_rfl
noncomputable def ses_CloneB_sig : Sig := { pm := [(false, [(false, .slice (.int .u8))])], rm := [(false, [(true, .slice (.int .u8))])], f := fun | [⟨.slice (.int .u8), x0⟩] => .yes _ (ses_CloneB x0) ses_CloneB_mk | _ => .no }
theorem ses_CloneB_ok : SigOk Tryd.prog 30 ses_CloneB_sig := by
  refine contract_slice (C := ses_CloneB_C) (d := 3) ⟨S6_ok, noPs⟩ rfl (callable_ex (by kernel_rfl)) ?_
  intro dvs
  unfold ses_CloneB_sig
  dsimp only
  split
  · refine .inr ⟨_, ses_CloneB_un, ses_CloneB_mk, _, rfl, congrArg (fun o => Cl.yes _ o _) (ses_CloneB_raw _), ?_, ?_⟩
    · intro ds x h
      unfold ses_CloneB_un at h
      split at h
      · cases h; rfl
      · cases h
    · intro x hl ho
      subst hl
      rw [← ses_CloneB_raw, ses_CloneB_eq] at ho
      rw [ses_CloneB_nil]
      simpa [ilen, room] using ho
  · exact .inl rfl
noncomputable def S7 : List (Nat × Sig) := (30, ses_CloneB_sig) :: S6
theorem S7_ok : ListOk Tryd.prog S7 := ListOk.cons S6_ok ses_CloneB_ok
noncomputable def ses_Ask_C : Cfg := { P := Tryd.prog, sig := lookSig S7, hb := fun _ _ => none, hr := fun _ _ => none }
noncomputable def ses_Ask_un : List DV → Option (Int × Int × (List Int) × Bool) := fun | [⟨.int .i64, r0⟩, ⟨.int .i64, r1⟩, ⟨.slice (.int .u8), r2⟩, ⟨.bool, r3⟩] => some (r0, r1, r2, r3) | _ => none
noncomputable def ses_Ask_mk : (Int × Int × (List Int) × Bool) → List DV := fun ⟨r0, r1, r2, r3⟩ => [⟨.int .i64, r0⟩, ⟨.int .i64, r1⟩, ⟨.slice (.int .u8), r2⟩, ⟨.bool, r3⟩]
theorem ses_Ask_ex : ∃ f : (Int) → (Int) → (Int) → (Int) → (Int) → (List (Int × Int × (List Int))) → (Int) → Option (Int × Int × (List Int) × Bool), f = fun (x0 : Int) (x1 : Int) (x2 : Int) (x3 : Int) (x4 : Int) (x5 : List (Int × Int × (List Int))) (x6 : Int) => funRun ses_Ask_C 3 22 [(true, [(false, .int .i64), (false, .int .i64), (false, .int .i64), (false, .int .i64), (false, .int .i64), (false, .slice (.pair (.int .i64) (.pair (.int .i64) (.slice (.int .u8))))), (false, .int .i64)])] [(false, [(false, .int .i64)]), (false, [(false, .int .i64)]), (false, [(true, .slice (.int .u8))]), (false, [(false, .bool)])] ses_Ask_un [⟨.int .i64, x0⟩, ⟨.int .i64, x1⟩, ⟨.int .i64, x2⟩, ⟨.int .i64, x3⟩, ⟨.int .i64, x4⟩, ⟨.slice (.pair (.int .i64) (.pair (.int .i64) (.slice (.int .u8)))), x5⟩, ⟨.int .i64, x6⟩] := ⟨_, rfl⟩
noncomputable def ses_Ask : (Int) → (Int) → (Int) → (Int) → (Int) → (List (Int × Int × (List Int))) → (Int) → Option (Int × Int × (List Int) × Bool) := ses_Ask_ex.choose
theorem ses_Ask_raw (x0 : Int) (x1 : Int) (x2 : Int) (x3 : Int) (x4 : Int) (x5 : List (Int × Int × (List Int))) (x6 : Int) : ses_Ask x0 x1 x2 x3 x4 x5 x6 = funRun ses_Ask_C 3 22 [(true, [(false, .int .i64), (false, .int .i64), (false, .int .i64), (false, .int .i64), (false, .int .i64), (false, .slice (.pair (.int .i64) (.pair (.int .i64) (.slice (.int .u8))))), (false, .int .i64)])] [(false, [(false, .int .i64)]), (false, [(false, .int .i64)]), (false, [(true, .slice (.int .u8))]), (false, [(false, .bool)])] ses_Ask_un [⟨.int .i64, x0⟩, ⟨.int .i64, x1⟩, ⟨.int .i64, x2⟩, ⟨.int .i64, x3⟩, ⟨.int .i64, x4⟩, ⟨.slice (.pair (.int .i64) (.pair (.int .i64) (.slice (.int .u8)))), x5⟩, ⟨.int .i64, x6⟩] := congrFun (congrFun (congrFun (congrFun (congrFun (congrFun (congrFun (ses_Ask_ex.choose_spec) x0) x1) x2) x3) x4) x5) x6
theorem ses_Ask_eq (x0 : Int) (x1 : Int) (x2 : Int) (x3 : Int) (x4 : Int) (x5 : List (Int × Int × (List Int))) (x6 : Int) : ses_Ask x0 x1 x2 x3 x4 x5 x6 =
  bif ilen x5 == 0
  then some ((0), ((0), (([]), false)))
  else (x5[Int.toNat 0]?).bind fun val2 =>
    (ses_CloneB val2.snd.snd).bind fun val4 =>
      some ((x4), ((val2.fst), ((val4), true))) := (ses_Ask_raw x0 x1 x2 x3 x4 x5 x6).trans (by kernel_rfl)
noncomputable def ses_Ask_sig : Sig := { pm := [(true, [(false, .int .i64), (false, .int .i64), (false, .int .i64), (false, .int .i64), (false, .int .i64), (false, .slice (.pair (.int .i64) (.pair (.int .i64) (.slice (.int .u8))))), (false, .int .i64)])], rm := [(false, [(false, .int .i64)]), (false, [(false, .int .i64)]), (false, [(true, .slice (.int .u8))]), (false, [(false, .bool)])], f := fun | [⟨.int .i64, x0⟩, ⟨.int .i64, x1⟩, ⟨.int .i64, x2⟩, ⟨.int .i64, x3⟩, ⟨.int .i64, x4⟩, ⟨.slice (.pair (.int .i64) (.pair (.int .i64) (.slice (.int .u8)))), x5⟩, ⟨.int .i64, x6⟩] => .yes _ (ses_Ask x0 x1 x2 x3 x4 x5 x6) ses_Ask_mk | _ => .no }
theorem ses_Ask_ok : SigOk Tryd.prog 22 ses_Ask_sig := by
  refine contract_of (C := ses_Ask_C) (d := 3) ⟨S7_ok, noPs⟩ (callable_ex (by kernel_rfl)) ?_
  intro dvs
  unfold ses_Ask_sig
  dsimp only
  split
  · refine .inr ⟨_, ses_Ask_un, ses_Ask_mk, congrArg (fun o => Cl.yes _ o _) (ses_Ask_raw _ _ _ _ _ _ _), ?_⟩
    intro ds x h
    unfold ses_Ask_un at h
    split at h
    · cases h; rfl
    · cases h
  · exact .inl rfl
noncomputable def S8 : List (Nat × Sig) := (22, ses_Ask_sig) :: S7
theorem S8_ok : ListOk Tryd.prog S8 := ListOk.cons S7_ok ses_Ask_ok
noncomputable def ref24_Read_C : Cfg := { P := Tryd.prog, sig := lookSig S0, hb := fun _ _ => none, hr := fun _ _ => none, un := fun f b => bif Nat.beq f 35 && Nat.beq b 1 then 5 else bif Nat.beq f 80 && Nat.beq b 2 then 3 else bif Nat.beq f 80 && Nat.beq b 0 then 3 else bif Nat.beq f 83 && Nat.beq b 0 then 2 else bif Nat.beq f 82 && Nat.beq b 0 then 2 else 0 }
noncomputable def ref24_Read_un : List DV → Option (Int × Int × Int × ByteArray × ByteArray × Int × (List ByteArray) × (List Int) × Int × Int × Int × Int × (List Int) × Int) := fun | [⟨.int .i64, r0⟩, ⟨.int .i64, r1⟩, ⟨.int .i64, r2⟩, ⟨.str, r3⟩, ⟨.str, r4⟩, ⟨.int .i64, r5⟩, ⟨.slice (.str), r6⟩, ⟨.slice (.int .i64), r7⟩, ⟨.int .i64, r8⟩, ⟨.int .i64, r9⟩, ⟨.int .i64, r10⟩, ⟨.int .i64, r11⟩, ⟨.slice (.int .u8), r12⟩, ⟨.int .i64, r13⟩] => some (r0, r1, r2, r3, r4, r5, r6, r7, r8, r9, r10, r11, r12, r13) | _ => none
noncomputable def ref24_Read_mk : (Int × Int × Int × ByteArray × ByteArray × Int × (List ByteArray) × (List Int) × Int × Int × Int × Int × (List Int) × Int) → List DV := fun ⟨r0, r1, r2, r3, r4, r5, r6, r7, r8, r9, r10, r11, r12, r13⟩ => [⟨.int .i64, r0⟩, ⟨.int .i64, r1⟩, ⟨.int .i64, r2⟩, ⟨.str, r3⟩, ⟨.str, r4⟩, ⟨.int .i64, r5⟩, ⟨.slice (.str), r6⟩, ⟨.slice (.int .i64), r7⟩, ⟨.int .i64, r8⟩, ⟨.int .i64, r9⟩, ⟨.int .i64, r10⟩, ⟨.int .i64, r11⟩, ⟨.slice (.int .u8), r12⟩, ⟨.int .i64, r13⟩]
theorem ref24_Read_ex : ∃ f : (List Int) → Option (Int × Int × Int × ByteArray × ByteArray × Int × (List ByteArray) × (List Int) × Int × Int × Int × Int × (List Int) × Int), f = fun (x0 : List Int) => funRun ref24_Read_C 8 24 [(false, [(false, .slice (.int .u8))])] [(true, [(false, .int .i64), (false, .int .i64), (false, .int .i64), (false, .str), (false, .str), (false, .int .i64), (false, .slice (.str)), (false, .slice (.int .i64)), (false, .int .i64), (false, .int .i64), (false, .int .i64), (false, .int .i64), (false, .slice (.int .u8))]), (false, [(false, .int .i64)])] ref24_Read_un [⟨.slice (.int .u8), x0⟩] := ⟨_, rfl⟩
noncomputable def ref24_Read : (List Int) → Option (Int × Int × Int × ByteArray × ByteArray × Int × (List ByteArray) × (List Int) × Int × Int × Int × Int × (List Int) × Int) := ref24_Read_ex.choose
theorem ref24_Read_raw (x0 : List Int) : ref24_Read x0 = funRun ref24_Read_C 8 24 [(false, [(false, .slice (.int .u8))])] [(true, [(false, .int .i64), (false, .int .i64), (false, .int .i64), (false, .str), (false, .str), (false, .int .i64), (false, .slice (.str)), (false, .slice (.int .i64)), (false, .int .i64), (false, .int .i64), (false, .int .i64), (false, .int .i64), (false, .slice (.int .u8))]), (false, [(false, .int .i64)])] ref24_Read_un [⟨.slice (.int .u8), x0⟩] := congrFun (ref24_Read_ex.choose_spec) x0
noncomputable def ref24_Read_sig : Sig := { pm := [(false, [(false, .slice (.int .u8))])], rm := [(true, [(false, .int .i64), (false, .int .i64), (false, .int .i64), (false, .str), (false, .str), (false, .int .i64), (false, .slice (.str)), (false, .slice (.int .i64)), (false, .int .i64), (false, .int .i64), (false, .int .i64), (false, .int .i64), (false, .slice (.int .u8))]), (false, [(false, .int .i64)])], f := fun | [⟨.slice (.int .u8), x0⟩] => .yes _ (ref24_Read x0) ref24_Read_mk | _ => .no }
theorem ref24_Read_ok : SigOk Tryd.prog 24 ref24_Read_sig := by
  refine contract_of (C := ref24_Read_C) (d := 8) ⟨S0_ok, noPs⟩ (callable_ex (by kernel_rfl)) ?_
  intro dvs
  unfold ref24_Read_sig
  dsimp only
  split
  · refine .inr ⟨_, ref24_Read_un, ref24_Read_mk, congrArg (fun o => Cl.yes _ o _) (ref24_Read_raw _), ?_⟩
    intro ds x h
    unfold ref24_Read_un at h
    split at h
    · cases h; rfl
    · cases h
  · exact .inl rfl
noncomputable def S9 : List (Nat × Sig) := (24, ref24_Read_sig) :: S8
theorem S9_ok : ListOk Tryd.prog S9 := ListOk.cons S8_ok ref24_Read_ok
noncomputable def ses_Turn_C : Cfg := { P := Tryd.prog, sig := lookSig S9, hb := fun _ _ => none, hr := fun _ _ => none }
noncomputable def ses_Turn_un : List DV → Option (Int × Int × Int × Int × Int × (List (Int × Int × (List Int))) × Int) := fun | [⟨.int .i64, r0⟩, ⟨.int .i64, r1⟩, ⟨.int .i64, r2⟩, ⟨.int .i64, r3⟩, ⟨.int .i64, r4⟩, ⟨.slice (.pair (.int .i64) (.pair (.int .i64) (.slice (.int .u8)))), r5⟩, ⟨.int .i64, r6⟩] => some (r0, r1, r2, r3, r4, r5, r6) | _ => none
noncomputable def ses_Turn_mk : (Int × Int × Int × Int × Int × (List (Int × Int × (List Int))) × Int) → List DV := fun ⟨r0, r1, r2, r3, r4, r5, r6⟩ => [⟨.int .i64, r0⟩, ⟨.int .i64, r1⟩, ⟨.int .i64, r2⟩, ⟨.int .i64, r3⟩, ⟨.int .i64, r4⟩, ⟨.slice (.pair (.int .i64) (.pair (.int .i64) (.slice (.int .u8)))), r5⟩, ⟨.int .i64, r6⟩]
theorem ses_Turn_ex : ∃ f : (Int) → (Int) → (Int) → (Int) → (Int) → (List (Int × Int × (List Int))) → (Int) → (Int) → Option (Int × Int × Int × Int × Int × (List (Int × Int × (List Int))) × Int), f = fun (x0 : Int) (x1 : Int) (x2 : Int) (x3 : Int) (x4 : Int) (x5 : List (Int × Int × (List Int))) (x6 : Int) (x7 : Int) => funRun ses_Turn_C 3 20 [(true, [(false, .int .i64), (false, .int .i64), (false, .int .i64), (false, .int .i64), (false, .int .i64), (false, .slice (.pair (.int .i64) (.pair (.int .i64) (.slice (.int .u8))))), (false, .int .i64)]), (false, [(false, .int .i64)])] [(true, [(false, .int .i64), (false, .int .i64), (false, .int .i64), (false, .int .i64), (false, .int .i64), (false, .slice (.pair (.int .i64) (.pair (.int .i64) (.slice (.int .u8))))), (false, .int .i64)])] ses_Turn_un [⟨.int .i64, x0⟩, ⟨.int .i64, x1⟩, ⟨.int .i64, x2⟩, ⟨.int .i64, x3⟩, ⟨.int .i64, x4⟩, ⟨.slice (.pair (.int .i64) (.pair (.int .i64) (.slice (.int .u8)))), x5⟩, ⟨.int .i64, x6⟩, ⟨.int .i64, x7⟩] := ⟨_, rfl⟩
noncomputable def ses_Turn : (Int) → (Int) → (Int) → (Int) → (Int) → (List (Int × Int × (List Int))) → (Int) → (Int) → Option (Int × Int × Int × Int × Int × (List (Int × Int × (List Int))) × Int) := ses_Turn_ex.choose
theorem ses_Turn_raw (x0 : Int) (x1 : Int) (x2 : Int) (x3 : Int) (x4 : Int) (x5 : List (Int × Int × (List Int))) (x6 : Int) (x7 : Int) : ses_Turn x0 x1 x2 x3 x4 x5 x6 x7 = funRun ses_Turn_C 3 20 [(true, [(false, .int .i64), (false, .int .i64), (false, .int .i64), (false, .int .i64), (false, .int .i64), (false, .slice (.pair (.int .i64) (.pair (.int .i64) (.slice (.int .u8))))), (false, .int .i64)]), (false, [(false, .int .i64)])] [(true, [(false, .int .i64), (false, .int .i64), (false, .int .i64), (false, .int .i64), (false, .int .i64), (false, .slice (.pair (.int .i64) (.pair (.int .i64) (.slice (.int .u8))))), (false, .int .i64)])] ses_Turn_un [⟨.int .i64, x0⟩, ⟨.int .i64, x1⟩, ⟨.int .i64, x2⟩, ⟨.int .i64, x3⟩, ⟨.int .i64, x4⟩, ⟨.slice (.pair (.int .i64) (.pair (.int .i64) (.slice (.int .u8)))), x5⟩, ⟨.int .i64, x6⟩, ⟨.int .i64, x7⟩] := congrFun (congrFun (congrFun (congrFun (congrFun (congrFun (congrFun (congrFun (ses_Turn_ex.choose_spec) x0) x1) x2) x3) x4) x5) x6) x7
theorem ses_Turn_eq (x0 : Int) (x1 : Int) (x2 : Int) (x3 : Int) (x4 : Int) (x5 : List (Int × Int × (List Int))) (x6 : Int) (x7 : Int) : ses_Turn x0 x1 x2 x3 x4 x5 x6 x7 =
  bif decide (x7 ≥ 1)
  then bif decide (x7 ≤ x2)
    then some ((x0), ((x1), ((x2), ((x3), ((x7), ((x5), (x6)))))))
    else bif decide (x2 = 0)
      then none
      else some ((x0), ((x1), ((x2), ((x3), ((IntKind.i64.wrap (x4.tmod x2 + 1)), ((x5), (x6)))))))
  else bif decide (x2 = 0)
    then none
    else some ((x0), ((x1), ((x2), ((x3), ((IntKind.i64.wrap (x4.tmod x2 + 1)), ((x5), (x6))))))) := (ses_Turn_raw x0 x1 x2 x3 x4 x5 x6 x7).trans (by kernel_rfl)
noncomputable def ses_Turn_sig : Sig := { pm := [(true, [(false, .int .i64), (false, .int .i64), (false, .int .i64), (false, .int .i64), (false, .int .i64), (false, .slice (.pair (.int .i64) (.pair (.int .i64) (.slice (.int .u8))))), (false, .int .i64)]), (false, [(false, .int .i64)])], rm := [(true, [(false, .int .i64), (false, .int .i64), (false, .int .i64), (false, .int .i64), (false, .int .i64), (false, .slice (.pair (.int .i64) (.pair (.int .i64) (.slice (.int .u8))))), (false, .int .i64)])], f := fun | [⟨.int .i64, x0⟩, ⟨.int .i64, x1⟩, ⟨.int .i64, x2⟩, ⟨.int .i64, x3⟩, ⟨.int .i64, x4⟩, ⟨.slice (.pair (.int .i64) (.pair (.int .i64) (.slice (.int .u8)))), x5⟩, ⟨.int .i64, x6⟩, ⟨.int .i64, x7⟩] => .yes _ (ses_Turn x0 x1 x2 x3 x4 x5 x6 x7) ses_Turn_mk | _ => .no }
theorem ses_Turn_ok : SigOk Tryd.prog 20 ses_Turn_sig := by
  refine contract_of (C := ses_Turn_C) (d := 3) ⟨S9_ok, noPs⟩ (callable_ex (by kernel_rfl)) ?_
  intro dvs
  unfold ses_Turn_sig
  dsimp only
  split
  · refine .inr ⟨_, ses_Turn_un, ses_Turn_mk, congrArg (fun o => Cl.yes _ o _) (ses_Turn_raw _ _ _ _ _ _ _ _), ?_⟩
    intro ds x h
    unfold ses_Turn_un at h
    split at h
    · cases h; rfl
    · cases h
  · exact .inl rfl
noncomputable def S10 : List (Nat × Sig) := (20, ses_Turn_sig) :: S9
theorem S10_ok : ListOk Tryd.prog S10 := ListOk.cons S9_ok ses_Turn_ok
noncomputable def ses_CloneJ_C : Cfg := { P := Tryd.prog, sig := lookSig S10, hb := fun _ _ => none, hr := fun _ _ => none }
noncomputable def ses_CloneJ_un : List DV → Option ((List (Int × Int × Int × ByteArray × Int × ByteArray × Int))) := fun | [⟨.slice (.pair (.int .i64) (.pair (.int .i64) (.pair (.int .i64) (.pair (.str) (.pair (.int .i64) (.pair (.str) (.int .i64))))))), r0⟩] => some r0 | _ => none
noncomputable def ses_CloneJ_mk : (List (Int × Int × Int × ByteArray × Int × ByteArray × Int)) → List DV := fun r0 => [⟨.slice (.pair (.int .i64) (.pair (.int .i64) (.pair (.int .i64) (.pair (.str) (.pair (.int .i64) (.pair (.str) (.int .i64))))))), r0⟩]
theorem ses_CloneJ_ex : ∃ f : (List (Int × Int × Int × ByteArray × Int × ByteArray × Int)) → Option ((List (Int × Int × Int × ByteArray × Int × ByteArray × Int))), f = fun (x0 : List (Int × Int × Int × ByteArray × Int × ByteArray × Int)) => avRun ses_CloneJ_C 3 29 [(false, [(true, .slice (.pair (.int .i64) (.pair (.int .i64) (.pair (.int .i64) (.pair (.str) (.pair (.int .i64) (.pair (.str) (.int .i64))))))))])] ses_CloneJ_un [.fz (.pair (.int .i64) (.pair (.int .i64) (.pair (.int .i64) (.pair (.str) (.pair (.int .i64) (.pair (.str) (.int .i64))))))) x0 false true] := ⟨_, rfl⟩
noncomputable def ses_CloneJ : (List (Int × Int × Int × ByteArray × Int × ByteArray × Int)) → Option ((List (Int × Int × Int × ByteArray × Int × ByteArray × Int))) := ses_CloneJ_ex.choose
theorem ses_CloneJ_raw (x0 : List (Int × Int × Int × ByteArray × Int × ByteArray × Int)) : ses_CloneJ x0 = avRun ses_CloneJ_C 3 29 [(false, [(true, .slice (.pair (.int .i64) (.pair (.int .i64) (.pair (.int .i64) (.pair (.str) (.pair (.int .i64) (.pair (.str) (.int .i64))))))))])] ses_CloneJ_un [.fz (.pair (.int .i64) (.pair (.int .i64) (.pair (.int .i64) (.pair (.str) (.pair (.int .i64) (.pair (.str) (.int .i64))))))) x0 false true] := congrFun (ses_CloneJ_ex.choose_spec) x0
theorem ses_CloneJ_eq (x0 : List (Int × Int × Int × ByteArray × Int × ByteArray × Int)) : ses_CloneJ x0 =
  bif decide ((0 + ilen x0) * 72 ≤ room)
  then some ([] ++ x0)
  else none := (ses_CloneJ_raw x0).trans (by kernel_rfl)
theorem ses_CloneJ_nil : avRun ses_CloneJ_C 3 29 [(false, [(true, .slice (.pair (.int .i64) (.pair (.int .i64) (.pair (.int .i64) (.pair (.str) (.pair (.int .i64) (.pair (.str) (.int .i64))))))))])] ses_CloneJ_un [.nils] = some ([]) := by kernel_rfl
noncomputable def ses_CloneJ_sig : Sig := { pm := [(false, [(false, .slice (.pair (.int .i64) (.pair (.int .i64) (.pair (.int .i64) (.pair (.str) (.pair (.int .i64) (.pair (.str) (.int .i64))))))))])], rm := [(false, [(true, .slice (.pair (.int .i64) (.pair (.int .i64) (.pair (.int .i64) (.pair (.str) (.pair (.int .i64) (.pair (.str) (.int .i64))))))))])], f := fun | [⟨.slice (.pair (.int .i64) (.pair (.int .i64) (.pair (.int .i64) (.pair (.str) (.pair (.int .i64) (.pair (.str) (.int .i64))))))), x0⟩] => .yes _ (ses_CloneJ x0) ses_CloneJ_mk | _ => .no }
theorem ses_CloneJ_ok : SigOk Tryd.prog 29 ses_CloneJ_sig := by
  refine contract_slice (C := ses_CloneJ_C) (d := 3) ⟨S10_ok, noPs⟩ rfl (callable_ex (by kernel_rfl)) ?_
  intro dvs
  unfold ses_CloneJ_sig
  dsimp only
  split
  · refine .inr ⟨_, ses_CloneJ_un, ses_CloneJ_mk, _, rfl, congrArg (fun o => Cl.yes _ o _) (ses_CloneJ_raw _), ?_, ?_⟩
    · intro ds x h
      unfold ses_CloneJ_un at h
      split at h
      · cases h; rfl
      · cases h
    · intro x hl ho
      subst hl
      rw [← ses_CloneJ_raw, ses_CloneJ_eq] at ho
      rw [ses_CloneJ_nil]
      simpa [ilen, room] using ho
  · exact .inl rfl
noncomputable def S11 : List (Nat × Sig) := (29, ses_CloneJ_sig) :: S10
theorem S11_ok : ListOk Tryd.prog S11 := ListOk.cons S10_ok ses_CloneJ_ok
noncomputable def ses_Heard_C : Cfg := { P := Tryd.prog, sig := lookSig S11, hb := fun f b =>   bif Nat.beq f 21 && Nat.beq b 0 then some { tmps := [2, 3, 4, 5, 9, 89, 90], obs := [116, 124, 132, 140, 172, 556, 772], nils := [], kl := [772, 172, 556, 156, 140, 132, 124, 116] } else none, hr := fun f b =>   bif Nat.beq f 21 && Nat.beq b 6 then some { tmps := [2, 3, 4, 5, 7], obs := [116, 124, 132, 140, 156], nils := [], kl := [156, 140, 132, 124, 116] } else none }
noncomputable def ses_Heard_un : List DV → Option (Int × Int × Int × Int × Int × (List (Int × Int × (List Int))) × Int × Int × Int × Int × Int × (List (Int × Int × Int × ByteArray × Int × ByteArray × Int)) × Bool) := fun | [⟨.int .i64, r0⟩, ⟨.int .i64, r1⟩, ⟨.int .i64, r2⟩, ⟨.int .i64, r3⟩, ⟨.int .i64, r4⟩, ⟨.slice (.pair (.int .i64) (.pair (.int .i64) (.slice (.int .u8)))), r5⟩, ⟨.int .i64, r6⟩, ⟨.int .i64, r7⟩, ⟨.int .i64, r8⟩, ⟨.int .i64, r9⟩, ⟨.int .i64, r10⟩, ⟨.slice (.pair (.int .i64) (.pair (.int .i64) (.pair (.int .i64) (.pair (.str) (.pair (.int .i64) (.pair (.str) (.int .i64))))))), r11⟩, ⟨.bool, r12⟩] => some (r0, r1, r2, r3, r4, r5, r6, r7, r8, r9, r10, r11, r12) | _ => none
noncomputable def ses_Heard_mk : (Int × Int × Int × Int × Int × (List (Int × Int × (List Int))) × Int × Int × Int × Int × Int × (List (Int × Int × Int × ByteArray × Int × ByteArray × Int)) × Bool) → List DV := fun ⟨r0, r1, r2, r3, r4, r5, r6, r7, r8, r9, r10, r11, r12⟩ => [⟨.int .i64, r0⟩, ⟨.int .i64, r1⟩, ⟨.int .i64, r2⟩, ⟨.int .i64, r3⟩, ⟨.int .i64, r4⟩, ⟨.slice (.pair (.int .i64) (.pair (.int .i64) (.slice (.int .u8)))), r5⟩, ⟨.int .i64, r6⟩, ⟨.int .i64, r7⟩, ⟨.int .i64, r8⟩, ⟨.int .i64, r9⟩, ⟨.int .i64, r10⟩, ⟨.slice (.pair (.int .i64) (.pair (.int .i64) (.pair (.int .i64) (.pair (.str) (.pair (.int .i64) (.pair (.str) (.int .i64))))))), r11⟩, ⟨.bool, r12⟩]
theorem ses_Heard_ex : ∃ f : (Int) → (Int) → (Int) → (Int) → (Int) → (List (Int × Int × (List Int))) → (Int) → (Int) → (Int) → (Int) → (Int) → (Int) → (List (Int × Int × Int × ByteArray × Int × ByteArray × Int)) → Option (Int × Int × Int × Int × Int × (List (Int × Int × (List Int))) × Int × Int × Int × Int × Int × (List (Int × Int × Int × ByteArray × Int × ByteArray × Int)) × Bool), f = fun (x0 : Int) (x1 : Int) (x2 : Int) (x3 : Int) (x4 : Int) (x5 : List (Int × Int × (List Int))) (x6 : Int) (x7 : Int) (x8 : Int) (x9 : Int) (x10 : Int) (x11 : Int) (x12 : List (Int × Int × Int × ByteArray × Int × ByteArray × Int)) => funRun ses_Heard_C 3 21 [(true, [(false, .int .i64), (false, .int .i64), (false, .int .i64), (false, .int .i64), (false, .int .i64), (false, .slice (.pair (.int .i64) (.pair (.int .i64) (.slice (.int .u8))))), (false, .int .i64)]), (true, [(false, .int .i64), (false, .int .i64), (false, .int .i64), (false, .int .i64), (false, .int .i64), (false, .slice (.pair (.int .i64) (.pair (.int .i64) (.pair (.int .i64) (.pair (.str) (.pair (.int .i64) (.pair (.str) (.int .i64))))))))])] [(true, [(false, .int .i64), (false, .int .i64), (false, .int .i64), (false, .int .i64), (false, .int .i64), (false, .slice (.pair (.int .i64) (.pair (.int .i64) (.slice (.int .u8))))), (false, .int .i64)]), (true, [(false, .int .i64), (false, .int .i64), (false, .int .i64), (false, .int .i64), (false, .slice (.pair (.int .i64) (.pair (.int .i64) (.pair (.int .i64) (.pair (.str) (.pair (.int .i64) (.pair (.str) (.int .i64))))))))]), (false, [(false, .bool)])] ses_Heard_un [⟨.int .i64, x0⟩, ⟨.int .i64, x1⟩, ⟨.int .i64, x2⟩, ⟨.int .i64, x3⟩, ⟨.int .i64, x4⟩, ⟨.slice (.pair (.int .i64) (.pair (.int .i64) (.slice (.int .u8)))), x5⟩, ⟨.int .i64, x6⟩, ⟨.int .i64, x7⟩, ⟨.int .i64, x8⟩, ⟨.int .i64, x9⟩, ⟨.int .i64, x10⟩, ⟨.int .i64, x11⟩, ⟨.slice (.pair (.int .i64) (.pair (.int .i64) (.pair (.int .i64) (.pair (.str) (.pair (.int .i64) (.pair (.str) (.int .i64))))))), x12⟩] := ⟨_, rfl⟩
noncomputable def ses_Heard : (Int) → (Int) → (Int) → (Int) → (Int) → (List (Int × Int × (List Int))) → (Int) → (Int) → (Int) → (Int) → (Int) → (Int) → (List (Int × Int × Int × ByteArray × Int × ByteArray × Int)) → Option (Int × Int × Int × Int × Int × (List (Int × Int × (List Int))) × Int × Int × Int × Int × Int × (List (Int × Int × Int × ByteArray × Int × ByteArray × Int)) × Bool) := ses_Heard_ex.choose
theorem ses_Heard_raw (x0 : Int) (x1 : Int) (x2 : Int) (x3 : Int) (x4 : Int) (x5 : List (Int × Int × (List Int))) (x6 : Int) (x7 : Int) (x8 : Int) (x9 : Int) (x10 : Int) (x11 : Int) (x12 : List (Int × Int × Int × ByteArray × Int × ByteArray × Int)) : ses_Heard x0 x1 x2 x3 x4 x5 x6 x7 x8 x9 x10 x11 x12 = funRun ses_Heard_C 3 21 [(true, [(false, .int .i64), (false, .int .i64), (false, .int .i64), (false, .int .i64), (false, .int .i64), (false, .slice (.pair (.int .i64) (.pair (.int .i64) (.slice (.int .u8))))), (false, .int .i64)]), (true, [(false, .int .i64), (false, .int .i64), (false, .int .i64), (false, .int .i64), (false, .int .i64), (false, .slice (.pair (.int .i64) (.pair (.int .i64) (.pair (.int .i64) (.pair (.str) (.pair (.int .i64) (.pair (.str) (.int .i64))))))))])] [(true, [(false, .int .i64), (false, .int .i64), (false, .int .i64), (false, .int .i64), (false, .int .i64), (false, .slice (.pair (.int .i64) (.pair (.int .i64) (.slice (.int .u8))))), (false, .int .i64)]), (true, [(false, .int .i64), (false, .int .i64), (false, .int .i64), (false, .int .i64), (false, .slice (.pair (.int .i64) (.pair (.int .i64) (.pair (.int .i64) (.pair (.str) (.pair (.int .i64) (.pair (.str) (.int .i64))))))))]), (false, [(false, .bool)])] ses_Heard_un [⟨.int .i64, x0⟩, ⟨.int .i64, x1⟩, ⟨.int .i64, x2⟩, ⟨.int .i64, x3⟩, ⟨.int .i64, x4⟩, ⟨.slice (.pair (.int .i64) (.pair (.int .i64) (.slice (.int .u8)))), x5⟩, ⟨.int .i64, x6⟩, ⟨.int .i64, x7⟩, ⟨.int .i64, x8⟩, ⟨.int .i64, x9⟩, ⟨.int .i64, x10⟩, ⟨.int .i64, x11⟩, ⟨.slice (.pair (.int .i64) (.pair (.int .i64) (.pair (.int .i64) (.pair (.str) (.pair (.int .i64) (.pair (.str) (.int .i64))))))), x12⟩] := congrFun (congrFun (congrFun (congrFun (congrFun (congrFun (congrFun (congrFun (congrFun (congrFun (congrFun (congrFun (congrFun (ses_Heard_ex.choose_spec) x0) x1) x2) x3) x4) x5) x6) x7) x8) x9) x10) x11) x12
noncomputable def ses_Heard_r6 (y0 : Int) (y1 : Int) (y2 : Int) (y3 : Int) (y4 : Int) (y5 : List ((Int) × ((Int) × (List (Int))))) (y6 : Int) (y7 : Int) (y8 : Int) (y9 : Int) (y10 : Int) (y11 : Int) (y12 : List ((Int) × ((Int) × ((Int) × ((ByteArray) × ((Int) × ((ByteArray) × (Int)))))))) (y13 : Int) (y14 : Int) (y15 : Int) (y16 : Int) (y17 : Int) (y18 : Int) (y19 : Int) (y20 : Int) (y21 : Int) (y22 : Int) (y23 : Int) (y24 : Int) (y25 : Int) (y26 : Int) (y27 : List ((Int) × ((Int) × ((Int) × ((ByteArray) × ((Int) × ((ByteArray) × (Int)))))))) : Option (Int × Int × Int × Int × Int × (List (Int × Int × (List Int))) × Int × Int × Int × Int × Int × (List (Int × Int × Int × ByteArray × Int × ByteArray × Int)) × Bool) := regAt ses_Heard_C 3 21 [(true, [(false, .int .i64), (false, .int .i64), (false, .int .i64), (false, .int .i64), (false, .int .i64), (false, .slice (.pair (.int .i64) (.pair (.int .i64) (.slice (.int .u8))))), (false, .int .i64)]), (true, [(false, .int .i64), (false, .int .i64), (false, .int .i64), (false, .int .i64), (false, .slice (.pair (.int .i64) (.pair (.int .i64) (.pair (.int .i64) (.pair (.str) (.pair (.int .i64) (.pair (.str) (.int .i64))))))))]), (false, [(false, .bool)])] ses_Heard_un [true, true, true, true, false] (St.ofLists [(2, .ptr 116 0), (3, .ptr 124 0), (4, .ptr 132 0), (5, .ptr 140 0), (7, .ptr 156 0)] [(116, some (.cells [.int .i64 y0, .int .i64 y1, .int .i64 y2, .int .i64 y3, .int .i64 y4, .fz ((Ty.int IntKind.i64).pair ((Ty.int IntKind.i64).pair (Ty.int IntKind.u8).slice)) y5 false false, .int .i64 y6])), (124, some (.cells [.int .i64 y7, .int .i64 y8, .int .i64 y9, .int .i64 y10, .int .i64 y11, .fz ((Ty.int IntKind.i64).pair ((Ty.int IntKind.i64).pair ((Ty.int IntKind.i64).pair (Ty.str.pair ((Ty.int IntKind.i64).pair (Ty.str.pair (Ty.int IntKind.i64))))))) y12 false false])), (132, some (.cells [.int .i64 y13, .int .i64 y14, .int .i64 y15, .int .i64 y16, .int .i64 y17, .nils, .int .i64 y18])), (140, some (.cells [.int .i64 y19, .int .i64 y20, .int .i64 y21, .int .i64 y22, .nils])), (156, some (.cells [.int .i64 y23, .int .i64 y24, .int .i64 y25, .int .i64 y26, .fz ((Ty.int IntKind.i64).pair ((Ty.int IntKind.i64).pair ((Ty.int IntKind.i64).pair (Ty.str.pair ((Ty.int IntKind.i64).pair (Ty.str.pair (Ty.int IntKind.i64))))))) y27 false false]))] [156, 140, 132, 124, 116])
noncomputable def ses_Heard_l0 (y0 : Int) (y1 : Int) (y2 : Int) (y3 : Int) (y4 : Int) (y5 : Int) (y6 : Int) (y7 : Int) (y8 : Int) (y9 : Int) (y10 : Int) (y11 : Int) (y12 : Int) (y13 : List ((Int) × ((Int) × ((Int) × ((ByteArray) × ((Int) × ((ByteArray) × (Int)))))))) (y14 : Int) (y15 : Int) (y16 : Int) (y17 : Int) (y18 : Int) (y19 : Int) (y20 : Int) (y21 : Int) (y22 : Int) (y23 : Int) (y24 : Int) (y25 : Int) (y26 : Int) (y27 : Int) (y28 : List ((Int) × ((Int) × (List (Int))))) (y29 : List ((Int) × ((Int) × ((Int) × ((ByteArray) × ((Int) × ((ByteArray) × (Int)))))))) : Option (Int × Int × Int × Int × Int × (List (Int × Int × (List Int))) × Int × Int × Int × Int × Int × (List (Int × Int × Int × ByteArray × Int × ByteArray × Int)) × Bool) := loopAt ses_Heard_C 3 21 [(true, [(false, .int .i64), (false, .int .i64), (false, .int .i64), (false, .int .i64), (false, .int .i64), (false, .slice (.pair (.int .i64) (.pair (.int .i64) (.slice (.int .u8))))), (false, .int .i64)]), (true, [(false, .int .i64), (false, .int .i64), (false, .int .i64), (false, .int .i64), (false, .slice (.pair (.int .i64) (.pair (.int .i64) (.pair (.int .i64) (.pair (.str) (.pair (.int .i64) (.pair (.str) (.int .i64))))))))]), (false, [(false, .bool)])] ses_Heard_un [true, true, true, true, true, true, true, true, true, false, true, false, true, true, false] (St.ofLists [(2, .ptr 116 0), (3, .ptr 124 0), (4, .ptr 132 0), (5, .ptr 140 0), (9, .ptr 172 0), (89, .int .i64 y0), (90, .int .i64 y1)] [(116, some (.cells [.int .i64 y2, .int .i64 y3, .int .i64 y4, .int .i64 y5, .int .i64 y6, .ow 556, .int .i64 y7])), (124, some (.cells [.int .i64 y8, .int .i64 y9, .int .i64 y10, .int .i64 y11, .int .i64 y12, .fz ((Ty.int IntKind.i64).pair ((Ty.int IntKind.i64).pair ((Ty.int IntKind.i64).pair (Ty.str.pair ((Ty.int IntKind.i64).pair (Ty.str.pair (Ty.int IntKind.i64))))))) y13 false false])), (132, some (.cells [.int .i64 y14, .int .i64 y15, .int .i64 y16, .int .i64 y17, .int .i64 y18, .nils, .int .i64 y19])), (140, some (.cells [.int .i64 y20, .int .i64 y21, .int .i64 y22, .int .i64 y23, .nils])), (172, some (.cells [.int .i64 y24, .int .i64 y25, .int .i64 y26, .int .i64 y27, .ow 772])), (556, some (.row ((Ty.int IntKind.i64).pair ((Ty.int IntKind.i64).pair (Ty.int IntKind.u8).slice)) y28 0 false)), (772, some (.row ((Ty.int IntKind.i64).pair ((Ty.int IntKind.i64).pair ((Ty.int IntKind.i64).pair (Ty.str.pair ((Ty.int IntKind.i64).pair (Ty.str.pair (Ty.int IntKind.i64))))))) y29 0 false))] [772, 172, 556, 156, 140, 132, 124, 116])
theorem ses_Heard_eq (x0 : Int) (x1 : Int) (x2 : Int) (x3 : Int) (x4 : Int) (x5 : List (Int × Int × (List Int))) (x6 : Int) (x7 : Int) (x8 : Int) (x9 : Int) (x10 : Int) (x11 : Int) (x12 : List (Int × Int × Int × ByteArray × Int × ByteArray × Int)) : ses_Heard x0 x1 x2 x3 x4 x5 x6 x7 x8 x9 x10 x11 x12 =
  bif ilen x5 == 0
  then some ((x0), ((x1), ((x2), ((x3), ((x4), ((x5), ((x6), ((0), ((0), ((0), ((0), (([]), false))))))))))))
  else (x5[Int.toNat 0]?).bind fun val2 =>
    bif val2.fst != x7
      then some ((x0), ((x1), ((x2), ((x3), ((x4), ((x5), ((x6), ((0), ((0), ((0), ((0), (([]), false))))))))))))
      else bif x8 != x0
        then some ((x0), ((x1), ((x2), ((x3), ((x4), ((x5), ((x6), ((0), ((0), ((0), ((0), (([]), false))))))))))))
        else (x5[Int.toNat 0]?).bind fun val8 =>
          bif x9 != val8.snd.fst
            then some ((x0), ((x1), ((x2), ((x3), ((x4), ((x5), ((x6), ((0), ((0), ((0), ((0), (([]), false))))))))))))
            else bif x6 == 0
              then ses_Heard_r6 (x0) (x1) (x2) (x3) (x4) (x5) (x10) (x7) (x8) (x9) (x10) (x11) (x12) (0) (0) (0) (0) (0) (0) (0) (0) (0) (0) (x8) (x9) (x10) (x11) (x12)
              else ses_Heard_r6 (x0) (x1) (x2) (x3) (x4) (x5) (x6) (x7) (x8) (x9) (x10) (x11) (x12) (0) (0) (0) (0) (0) (0) (0) (0) (0) (0) (x8) (x9) (x10) (x11) (x12) := (ses_Heard_raw x0 x1 x2 x3 x4 x5 x6 x7 x8 x9 x10 x11 x12).trans (by kernel_rfl)
theorem ses_Heard_r6_eq (y0 : Int) (y1 : Int) (y2 : Int) (y3 : Int) (y4 : Int) (y5 : List ((Int) × ((Int) × (List (Int))))) (y6 : Int) (y7 : Int) (y8 : Int) (y9 : Int) (y10 : Int) (y11 : Int) (y12 : List ((Int) × ((Int) × ((Int) × ((ByteArray) × ((Int) × ((ByteArray) × (Int)))))))) (y13 : Int) (y14 : Int) (y15 : Int) (y16 : Int) (y17 : Int) (y18 : Int) (y19 : Int) (y20 : Int) (y21 : Int) (y22 : Int) (y23 : Int) (y24 : Int) (y25 : Int) (y26 : Int) (y27 : List ((Int) × ((Int) × ((Int) × ((ByteArray) × ((Int) × ((ByteArray) × (Int)))))))) : ses_Heard_r6 y0 y1 y2 y3 y4 y5 y6 y7 y8 y9 y10 y11 y12 y13 y14 y15 y16 y17 y18 y19 y20 y21 y22 y23 y24 y25 y26 y27 =
  bif decide (IntKind.i64.wrap (ilen y5 - 1) = IntKind.i64.wrap (ilen y5 - 1))
  then bif decide (0 ≤ IntKind.i64.wrap (ilen y5 - 1))
    then bif decide (IntKind.i64.wrap (ilen y5 - 1) * 40 ≤ room ∧ IntKind.i64.wrap (ilen y5 - 1) ≤ room)
      then bif decide (1 ≤ ilen y5)
        then bif decide (ilen y5 ≤ ilen y5)
          then bif decide (ilen (List.take (List.replicate (IntKind.i64.wrap (ilen y5 - 1)).toNat (zeroOf ((Ty.int IntKind.i64).pair ((Ty.int IntKind.i64).pair (Ty.int IntKind.u8).slice)))).length (List.drop (Int.toNat 1) (List.take (ilen y5).toNat y5)) ++ List.drop (List.drop (Int.toNat 1) (List.take (ilen y5).toNat y5)).length (List.replicate (IntKind.i64.wrap (ilen y5 - 1)).toNat (zeroOf ((Ty.int IntKind.i64).pair ((Ty.int IntKind.i64).pair (Ty.int IntKind.u8).slice))))) > 0)
            then some ((y0), ((y1), ((y2), ((y3), ((y4), ((List.take (List.replicate (IntKind.i64.wrap (ilen y5 - 1)).toNat (zeroOf ((Ty.int IntKind.i64).pair ((Ty.int IntKind.i64).pair (Ty.int IntKind.u8).slice)))).length (List.drop (Int.toNat 1) (List.take (ilen y5).toNat y5)) ++ List.drop (List.drop (Int.toNat 1) (List.take (ilen y5).toNat y5)).length (List.replicate (IntKind.i64.wrap (ilen y5 - 1)).toNat (zeroOf ((Ty.int IntKind.i64).pair ((Ty.int IntKind.i64).pair (Ty.int IntKind.u8).slice))))), ((y6), ((0), ((0), ((0), ((0), (([]), false))))))))))))
            else bif y6 == 0
              then (ses_CloneJ y27).bind fun val14 =>
                ses_Heard_l0 (ilen val14) (0) (y0) (y1) (y2) (y3) (y4) (y6) (y7) (y8) (y9) (y10) (y11) (y12) (y13) (y14) (y15) (y16) (y17) (y18) (y19) (y20) (y21) (y22) (y23) (y24) (y6) (y26) (List.take (List.replicate (IntKind.i64.wrap (ilen y5 - 1)).toNat (zeroOf ((Ty.int IntKind.i64).pair ((Ty.int IntKind.i64).pair (Ty.int IntKind.u8).slice)))).length (List.drop (Int.toNat 1) (List.take (ilen y5).toNat y5)) ++ List.drop (List.drop (Int.toNat 1) (List.take (ilen y5).toNat y5)).length (List.replicate (IntKind.i64.wrap (ilen y5 - 1)).toNat (zeroOf ((Ty.int IntKind.i64).pair ((Ty.int IntKind.i64).pair (Ty.int IntKind.u8).slice))))) (val14)
              else some ((y0), ((y1), ((y2), ((y3), ((y4), ((List.take (List.replicate (IntKind.i64.wrap (ilen y5 - 1)).toNat (zeroOf ((Ty.int IntKind.i64).pair ((Ty.int IntKind.i64).pair (Ty.int IntKind.u8).slice)))).length (List.drop (Int.toNat 1) (List.take (ilen y5).toNat y5)) ++ List.drop (List.drop (Int.toNat 1) (List.take (ilen y5).toNat y5)).length (List.replicate (IntKind.i64.wrap (ilen y5 - 1)).toNat (zeroOf ((Ty.int IntKind.i64).pair ((Ty.int IntKind.i64).pair (Ty.int IntKind.u8).slice))))), ((0), ((y23), ((y24), ((y6), ((0), (([]), true))))))))))))
          else none
        else none
      else none
    else none
  else none := (regAt_step _ _ _ _ _ _ _).trans (by kernel_rfl)
theorem ses_Heard_l0_eq (y0 : Int) (y1 : Int) (y2 : Int) (y3 : Int) (y4 : Int) (y5 : Int) (y6 : Int) (y7 : Int) (y8 : Int) (y9 : Int) (y10 : Int) (y11 : Int) (y12 : Int) (y13 : List ((Int) × ((Int) × ((Int) × ((ByteArray) × ((Int) × ((ByteArray) × (Int)))))))) (y14 : Int) (y15 : Int) (y16 : Int) (y17 : Int) (y18 : Int) (y19 : Int) (y20 : Int) (y21 : Int) (y22 : Int) (y23 : Int) (y24 : Int) (y25 : Int) (y26 : Int) (y27 : Int) (y28 : List ((Int) × ((Int) × (List (Int))))) (y29 : List ((Int) × ((Int) × ((Int) × ((ByteArray) × ((Int) × ((ByteArray) × (Int)))))))) : ses_Heard_l0 y0 y1 y2 y3 y4 y5 y6 y7 y8 y9 y10 y11 y12 y13 y14 y15 y16 y17 y18 y19 y20 y21 y22 y23 y24 y25 y26 y27 y28 y29 =
  bif decide (y1 < y0)
  then bif decide (0 ≤ y1)
    then bif decide (y1 < ilen y29)
      then (y29[y1.toNat]?).bind fun val6 =>
        (ses_Global y8 val6.fst).bind fun val8 =>
          (y29[y1.toNat]?).bind fun val10 =>
            ((y29.set y1.toNat (val8.1, val10.snd))[y1.toNat]?).bind fun val12 =>
              (ses_Global y8 val12.snd.fst).bind fun val14 =>
                ((y29.set y1.toNat (val8.1, val10.snd))[y1.toNat]?).bind fun val16 =>
                  ses_Heard_l0 (y0) (IntKind.i64.wrap (y1 + 1)) (y2) (y3) (y4) (y5) (y6) (y7) (y8) (y9) (y10) (y11) (y12) (y13) (y14) (y15) (y16) (y17) (y18) (y19) (y20) (y21) (y22) (y23) (y24) (y25) (y26) (y27) (y28) ((y29.set y1.toNat (val8.1, val10.snd)).set y1.toNat (val16.fst, val14.1, val16.snd.snd))
      else none
    else none
  else some ((y2), ((y3), ((y4), ((y5), ((y6), ((y28), ((0), ((y24), ((y25), ((y26), ((y27), ((y29), true)))))))))))) := (loopAt_step _ _ _ _ _ _ _).trans (by kernel_rfl)
noncomputable def ses_Heard_sig : Sig := { pm := [(true, [(false, .int .i64), (false, .int .i64), (false, .int .i64), (false, .int .i64), (false, .int .i64), (false, .slice (.pair (.int .i64) (.pair (.int .i64) (.slice (.int .u8))))), (false, .int .i64)]), (true, [(false, .int .i64), (false, .int .i64), (false, .int .i64), (false, .int .i64), (false, .int .i64), (false, .slice (.pair (.int .i64) (.pair (.int .i64) (.pair (.int .i64) (.pair (.str) (.pair (.int .i64) (.pair (.str) (.int .i64))))))))])], rm := [(true, [(false, .int .i64), (false, .int .i64), (false, .int .i64), (false, .int .i64), (false, .int .i64), (false, .slice (.pair (.int .i64) (.pair (.int .i64) (.slice (.int .u8))))), (false, .int .i64)]), (true, [(false, .int .i64), (false, .int .i64), (false, .int .i64), (false, .int .i64), (false, .slice (.pair (.int .i64) (.pair (.int .i64) (.pair (.int .i64) (.pair (.str) (.pair (.int .i64) (.pair (.str) (.int .i64))))))))]), (false, [(false, .bool)])], f := fun | [⟨.int .i64, x0⟩, ⟨.int .i64, x1⟩, ⟨.int .i64, x2⟩, ⟨.int .i64, x3⟩, ⟨.int .i64, x4⟩, ⟨.slice (.pair (.int .i64) (.pair (.int .i64) (.slice (.int .u8)))), x5⟩, ⟨.int .i64, x6⟩, ⟨.int .i64, x7⟩, ⟨.int .i64, x8⟩, ⟨.int .i64, x9⟩, ⟨.int .i64, x10⟩, ⟨.int .i64, x11⟩, ⟨.slice (.pair (.int .i64) (.pair (.int .i64) (.pair (.int .i64) (.pair (.str) (.pair (.int .i64) (.pair (.str) (.int .i64))))))), x12⟩] => .yes _ (ses_Heard x0 x1 x2 x3 x4 x5 x6 x7 x8 x9 x10 x11 x12) ses_Heard_mk | _ => .no }
theorem ses_Heard_ok : SigOk Tryd.prog 21 ses_Heard_sig := by
  refine contract_of (C := ses_Heard_C) (d := 3) ⟨S11_ok, noPs⟩ (callable_ex (by kernel_rfl)) ?_
  intro dvs
  unfold ses_Heard_sig
  dsimp only
  split
  · refine .inr ⟨_, ses_Heard_un, ses_Heard_mk, congrArg (fun o => Cl.yes _ o _) (ses_Heard_raw _ _ _ _ _ _ _ _ _ _ _ _ _), ?_⟩
    intro ds x h
    unfold ses_Heard_un at h
    split at h
    · cases h; rfl
    · cases h
  · exact .inl rfl
noncomputable def S12 : List (Nat × Sig) := (21, ses_Heard_sig) :: S11
theorem S12_ok : ListOk Tryd.prog S12 := ListOk.cons S11_ok ses_Heard_ok
noncomputable def ses_Check_C : Cfg := { P := Tryd.prog, sig := lookSig S12, hb := fun f b =>   bif Nat.beq f 16 && Nat.beq b 0 then some { tmps := [1, 59, 60, 61], obs := [108], nils := [], kl := [124, 212, 108, 148] } else none, hr := fun _ _ => none }
noncomputable def ses_Check_un : List DV → Option (Int) := fun | [⟨.int .i64, r0⟩] => some r0 | _ => none
noncomputable def ses_Check_mk : Int → List DV := fun r0 => [⟨.int .i64, r0⟩]
theorem ses_Check_ex : ∃ f : (Int) → (Int) → (Int) → (Int) → (Int) → (List (Int × Int × (List Int))) → (Int) → Option (Int), f = fun (x0 : Int) (x1 : Int) (x2 : Int) (x3 : Int) (x4 : Int) (x5 : List (Int × Int × (List Int))) (x6 : Int) => funRun ses_Check_C 3 16 [(true, [(false, .int .i64), (false, .int .i64), (false, .int .i64), (false, .int .i64), (false, .int .i64), (false, .slice (.pair (.int .i64) (.pair (.int .i64) (.slice (.int .u8))))), (false, .int .i64)])] [(false, [(false, .int .i64)])] ses_Check_un [⟨.int .i64, x0⟩, ⟨.int .i64, x1⟩, ⟨.int .i64, x2⟩, ⟨.int .i64, x3⟩, ⟨.int .i64, x4⟩, ⟨.slice (.pair (.int .i64) (.pair (.int .i64) (.slice (.int .u8)))), x5⟩, ⟨.int .i64, x6⟩] := ⟨_, rfl⟩
noncomputable def ses_Check : (Int) → (Int) → (Int) → (Int) → (Int) → (List (Int × Int × (List Int))) → (Int) → Option (Int) := ses_Check_ex.choose
theorem ses_Check_raw (x0 : Int) (x1 : Int) (x2 : Int) (x3 : Int) (x4 : Int) (x5 : List (Int × Int × (List Int))) (x6 : Int) : ses_Check x0 x1 x2 x3 x4 x5 x6 = funRun ses_Check_C 3 16 [(true, [(false, .int .i64), (false, .int .i64), (false, .int .i64), (false, .int .i64), (false, .int .i64), (false, .slice (.pair (.int .i64) (.pair (.int .i64) (.slice (.int .u8))))), (false, .int .i64)])] [(false, [(false, .int .i64)])] ses_Check_un [⟨.int .i64, x0⟩, ⟨.int .i64, x1⟩, ⟨.int .i64, x2⟩, ⟨.int .i64, x3⟩, ⟨.int .i64, x4⟩, ⟨.slice (.pair (.int .i64) (.pair (.int .i64) (.slice (.int .u8)))), x5⟩, ⟨.int .i64, x6⟩] := congrFun (congrFun (congrFun (congrFun (congrFun (congrFun (congrFun (ses_Check_ex.choose_spec) x0) x1) x2) x3) x4) x5) x6
noncomputable def ses_Check_l0 (y0 : List ((Int) × ((Int) × (List (Int))))) (y1 : Int) (y2 : Int) (y3 : Int) (y4 : Int) (y5 : Int) (y6 : Int) (y7 : Int) (y8 : List ((Int) × ((Int) × (List (Int))))) (y9 : Int) : Option (Int) := loopAt ses_Check_C 3 16 [(false, [(false, .int .i64)])] ses_Check_un [true, true, true, false, true, false] (St.ofLists [(1, .ptr 108 0), (59, .fz ((Ty.int IntKind.i64).pair ((Ty.int IntKind.i64).pair (Ty.int IntKind.u8).slice)) y0 false false), (60, .int .i64 y1), (61, .int .i64 y2)] [(108, some (.cells [.int .i64 y3, .int .i64 y4, .int .i64 y5, .int .i64 y6, .int .i64 y7, .fz ((Ty.int IntKind.i64).pair ((Ty.int IntKind.i64).pair (Ty.int IntKind.u8).slice)) y8 false false, .int .i64 y9]))] [124, 212, 108, 148])
theorem ses_Check_eq (x0 : Int) (x1 : Int) (x2 : Int) (x3 : Int) (x4 : Int) (x5 : List (Int × Int × (List Int))) (x6 : Int) : ses_Check x0 x1 x2 x3 x4 x5 x6 =
  (ses_New x0 x2 x3).bind fun val0 =>
  bif val0.2.2.2.2.2.2.2 != 0
    then some (val0.2.2.2.2.2.2.2)
    else bif decide (x1 < 0)
      then some (1)
      else bif decide (x1 > 1099511627776)
        then some (1)
        else bif decide (x4 < 1)
          then some (1)
          else bif decide (x4 > x2)
            then some (1)
            else bif decide (ilen x5 > x3)
              then some (1)
              else bif decide (x6 < 0)
                then some (1)
                else bif decide (x6 > 17)
                  then some (1)
                  else ses_Check_l0 (x5) (ilen x5) (0) (x0) (x1) (x2) (x3) (x4) (x5) (x6) := (ses_Check_raw x0 x1 x2 x3 x4 x5 x6).trans (by kernel_rfl)
theorem ses_Check_l0_eq (y0 : List ((Int) × ((Int) × (List (Int))))) (y1 : Int) (y2 : Int) (y3 : Int) (y4 : Int) (y5 : Int) (y6 : Int) (y7 : Int) (y8 : List ((Int) × ((Int) × (List (Int))))) (y9 : Int) : ses_Check_l0 y0 y1 y2 y3 y4 y5 y6 y7 y8 y9 =
  bif decide (y2 < y1)
  then bif decide (0 ≤ y2)
    then (y0[y2.toNat]?).bind fun val4 =>
      bif decide (val4.fst < 0)
        then some (1)
        else bif decide (val4.fst ≥ y6)
          then some (1)
          else bif val4.snd.fst != IntKind.i64.wrap (IntKind.i64.wrap (IntKind.i64.wrap (y4 - ilen y8) + 1) + y2)
            then some (1)
            else bif decide (val4.snd.fst < 1)
              then some (1)
              else ses_Check_l0 (y0) (y1) (IntKind.i64.wrap (y2 + 1)) (y3) (y4) (y5) (y6) (y7) (y8) (y9)
    else none
  else some (0) := (loopAt_step _ _ _ _ _ _ _).trans (by kernel_rfl)
noncomputable def ses_Check_sig : Sig := { pm := [(true, [(false, .int .i64), (false, .int .i64), (false, .int .i64), (false, .int .i64), (false, .int .i64), (false, .slice (.pair (.int .i64) (.pair (.int .i64) (.slice (.int .u8))))), (false, .int .i64)])], rm := [(false, [(false, .int .i64)])], f := fun | [⟨.int .i64, x0⟩, ⟨.int .i64, x1⟩, ⟨.int .i64, x2⟩, ⟨.int .i64, x3⟩, ⟨.int .i64, x4⟩, ⟨.slice (.pair (.int .i64) (.pair (.int .i64) (.slice (.int .u8)))), x5⟩, ⟨.int .i64, x6⟩] => .yes _ (ses_Check x0 x1 x2 x3 x4 x5 x6) ses_Check_mk | _ => .no }
theorem ses_Check_ok : SigOk Tryd.prog 16 ses_Check_sig := by
  refine contract_of (C := ses_Check_C) (d := 3) ⟨S12_ok, noPs⟩ (callable_ex (by kernel_rfl)) ?_
  intro dvs
  unfold ses_Check_sig
  dsimp only
  split
  · refine .inr ⟨_, ses_Check_un, ses_Check_mk, congrArg (fun o => Cl.yes _ o _) (ses_Check_raw _ _ _ _ _ _ _), ?_⟩
    intro ds x h
    unfold ses_Check_un at h
    split at h
    · cases h; rfl
    · cases h
  · exact .inl rfl
noncomputable def S13 : List (Nat × Sig) := (16, ses_Check_sig) :: S12
theorem S13_ok : ListOk Tryd.prog S13 := ListOk.cons S12_ok ses_Check_ok
noncomputable def law29_works_C : Cfg := { P := Tryd.prog, sig := lookSig S13, hb := fun _ _ => none, hr := fun _ _ => none }
noncomputable def law29_works_un : List DV → Option (Bool) := fun | [⟨.bool, r0⟩] => some r0 | _ => none
noncomputable def law29_works_mk : Bool → List DV := fun r0 => [⟨.bool, r0⟩]
theorem law29_works_ex : ∃ f : Option (Bool), f = funRun law29_works_C 3 11 [] [(false, [(false, .bool)])] law29_works_un [] := ⟨_, rfl⟩
noncomputable def law29_works : Option (Bool) := law29_works_ex.choose
theorem law29_works_raw  : law29_works = funRun law29_works_C 3 11 [] [(false, [(false, .bool)])] law29_works_un [] := law29_works_ex.choose_spec
theorem law29_works_eq  : law29_works =
  (ses_New 5 3 2).bind fun val0 =>
  (ses_Open val0.1 val0.2.1 val0.2.2.1 val0.2.2.2.1 val0.2.2.2.2.1 val0.2.2.2.2.2.1 val0.2.2.2.2.2.2.1 10 0 0 (⟨#[]⟩ : ByteArray) (⟨#[]⟩ : ByteArray) 0 [] [] 129 0 0 0 []).bind fun val2 =>
    (ses_Ask val2.1 val2.2.1 val2.2.2.1 val2.2.2.2.1 val2.2.2.2.2.1 val2.2.2.2.2.2.1 val2.2.2.2.2.2.2.1).bind fun val4 =>
      (ref24_Read val4.2.2.1).bind fun val6 =>
        (ses_Turn val2.1 val2.2.1 val2.2.2.1 val2.2.2.2.1 val2.2.2.2.2.1 val2.2.2.2.2.2.1 val2.2.2.2.2.2.2.1 0).bind fun val8 =>
          (ses_Heard val8.1 val8.2.1 val8.2.2.1 val8.2.2.2.1 val8.2.2.2.2.1 val8.2.2.2.2.2.1 val8.2.2.2.2.2.2 0 5 1 0 0 []).bind fun val10 =>
            (ses_Heard val10.1 val10.2.1 val10.2.2.1 val10.2.2.2.1 val10.2.2.2.2.1 val10.2.2.2.2.2.1 val10.2.2.2.2.2.2.1 1 5 1 9 0 []).bind fun val12 =>
              (ses_Global 1 2).bind fun val14 =>
                (ses_Local val14.1).bind fun val16 =>
                  bif val0.2.2.2.2.2.2.2 == 0
                    then bif val2.2.2.2.2.2.2.2 == 0
                      then bif val4.1 == 1
                        then bif val4.2.1 == 1
                          then bif val4.2.2.2
                            then bif val6.2.2.2.2.2.2.2.2.2.2.2.2.2 == 0
                              then bif val6.2.2.2.2.2.2.2.2.1 == 2
                                then bif val6.2.1 == 5
                                  then bif val12.2.2.2.2.1 == 2
                                    then bif !val10.2.2.2.2.2.2.2.2.2.2.2.2
                                      then bif val12.2.2.2.2.2.2.2.2.2.2.2.2
                                        then bif val12.2.2.2.2.2.2.2.2.2.1 == 9
                                          then bif val14.1 == 129
                                            then bif val14.2 == 0
                                              then bif val16.1 == 1
                                                then bif val16.2.1 == 2
                                                  then bif val16.2.2 == 0
                                                    then (ses_Check val12.1 val12.2.1 val12.2.2.1 val12.2.2.2.1 val12.2.2.2.2.1 val12.2.2.2.2.2.1 val12.2.2.2.2.2.2.1).bind fun val52 =>
                                                      bif val52 == 0
                                                        then some (ilen val12.2.2.2.2.2.1 == 0)
                                                        else some false
                                                    else some false
                                                  else some false
                                                else some false
                                              else some false
                                            else some false
                                          else some false
                                        else some false
                                      else some false
                                    else some false
                                  else some false
                                else some false
                              else some false
                            else some false
                          else some false
                        else some false
                      else some false
                    else some false := (law29_works_raw).trans (by kernel_rfl)
noncomputable def law29_works_sig : Sig := { pm := [], rm := [(false, [(false, .bool)])], f := fun | [] => .yes _ (law29_works) law29_works_mk | _ => .no }
theorem law29_works_ok : SigOk Tryd.prog 11 law29_works_sig := by
  refine contract_of (C := law29_works_C) (d := 3) ⟨S13_ok, noPs⟩ (callable_ex (by kernel_rfl)) ?_
  intro dvs
  unfold law29_works_sig
  dsimp only
  split
  · refine .inr ⟨_, law29_works_un, law29_works_mk, congrArg (fun o => Cl.yes _ o _) (law29_works_raw), ?_⟩
    intro ds x h
    unfold law29_works_un at h
    split at h
    · cases h; rfl
    · cases h
  · exact .inl rfl
noncomputable def S14 : List (Nat × Sig) := (11, law29_works_sig) :: S13
theorem S14_ok : ListOk Tryd.prog S14 := ListOk.cons S13_ok law29_works_ok
noncomputable def law29_SessionNumbers_C : Cfg := { P := Tryd.prog, sig := lookSig S14, hb := fun _ _ => none, hr := fun f b =>   bif Nat.beq f 3 && Nat.beq b 11 then some { tmps := [2, 11, 12, 13], obs := [], nils := [], kl := [] } else none }
noncomputable def law29_SessionNumbers_un : List DV → Option (Bool) := fun | [⟨.bool, r0⟩] => some r0 | _ => none
noncomputable def law29_SessionNumbers_mk : Bool → List DV := fun r0 => [⟨.bool, r0⟩]
theorem law29_SessionNumbers_ex : ∃ f : (Int) → (Int) → (Int) → Option (Bool), f = fun (x0 : Int) (x1 : Int) (x2 : Int) => funRun law29_SessionNumbers_C 3 3 [(false, [(false, .int .i64)]), (false, [(false, .int .i64)]), (false, [(false, .int .i64)])] [(false, [(false, .bool)])] law29_SessionNumbers_un [⟨.int .i64, x0⟩, ⟨.int .i64, x1⟩, ⟨.int .i64, x2⟩] := ⟨_, rfl⟩
noncomputable def law29_SessionNumbers : (Int) → (Int) → (Int) → Option (Bool) := law29_SessionNumbers_ex.choose
theorem law29_SessionNumbers_raw (x0 : Int) (x1 : Int) (x2 : Int) : law29_SessionNumbers x0 x1 x2 = funRun law29_SessionNumbers_C 3 3 [(false, [(false, .int .i64)]), (false, [(false, .int .i64)]), (false, [(false, .int .i64)])] [(false, [(false, .bool)])] law29_SessionNumbers_un [⟨.int .i64, x0⟩, ⟨.int .i64, x1⟩, ⟨.int .i64, x2⟩] := congrFun (congrFun (congrFun (law29_SessionNumbers_ex.choose_spec) x0) x1) x2
noncomputable def law29_SessionNumbers_r11 (y0 : Int) (y1 : Int) (y2 : Int) (y3 : Int) : Option (Bool) := regAt law29_SessionNumbers_C 3 3 [(false, [(false, .bool)])] law29_SessionNumbers_un [true, true, true, true, true, true, true, false, false] (St.ofLists [(2, .int .i64 y0), (11, .int .i64 y1), (12, .int .i64 y2), (13, .int .i64 y3)] [] [])
theorem law29_SessionNumbers_eq (x0 : Int) (x1 : Int) (x2 : Int) : law29_SessionNumbers x0 x1 x2 =
  (ses_Global x0 x1).bind fun val0 =>
  (ref29_Global x0 x1).bind fun val2 =>
    (ses_Local x2).bind fun val4 =>
      (ref29_Local x2).bind fun val6 =>
        bif val0.1 != val2.1
          then some false
          else bif val0.2 != val2.2
            then some false
            else bif val4.1 != val6.1
              then some false
              else bif val4.2.1 != val6.2.1
                then some false
                else bif val4.2.2 != val6.2.2
                  then some false
                  else bif val0.2 == 0
                    then (ses_Local val0.1).bind fun val20 =>
                      bif val20.2.2 != 0
                        then some false
                        else bif val20.1 != x0
                          then some false
                          else bif val20.2.1 != x1
                            then some false
                            else law29_SessionNumbers_r11 (x2) (val4.1) (val4.2.1) (val4.2.2)
                    else law29_SessionNumbers_r11 (x2) (val4.1) (val4.2.1) (val4.2.2) := (law29_SessionNumbers_raw x0 x1 x2).trans (by kernel_rfl)
theorem law29_SessionNumbers_r11_eq (y0 : Int) (y1 : Int) (y2 : Int) (y3 : Int) : law29_SessionNumbers_r11 y0 y1 y2 y3 =
  bif y3 == 0
  then (ses_Global y1 y2).bind fun val2 =>
    bif val2.2 != 0
      then some false
      else bif val2.1 != y0
        then some false
        else (law29_works).bind fun val8 =>
          some (val8)
  else (law29_works).bind fun val2 =>
    some (val2) := (regAt_step _ _ _ _ _ _ _).trans (by kernel_rfl)
noncomputable def law29_SessionNumbers_sig : Sig := { pm := [(false, [(false, .int .i64)]), (false, [(false, .int .i64)]), (false, [(false, .int .i64)])], rm := [(false, [(false, .bool)])], f := fun | [⟨.int .i64, x0⟩, ⟨.int .i64, x1⟩, ⟨.int .i64, x2⟩] => .yes _ (law29_SessionNumbers x0 x1 x2) law29_SessionNumbers_mk | _ => .no }
theorem law29_SessionNumbers_ok : SigOk Tryd.prog 3 law29_SessionNumbers_sig := by
  refine contract_of (C := law29_SessionNumbers_C) (d := 3) ⟨S14_ok, noPs⟩ (callable_ex (by kernel_rfl)) ?_
  intro dvs
  unfold law29_SessionNumbers_sig
  dsimp only
  split
  · refine .inr ⟨_, law29_SessionNumbers_un, law29_SessionNumbers_mk, congrArg (fun o => Cl.yes _ o _) (law29_SessionNumbers_raw _ _ _), ?_⟩
    intro ds x h
    unfold law29_SessionNumbers_un at h
    split at h
    · cases h; rfl
    · cases h
  · exact .inl rfl
noncomputable def S15 : List (Nat × Sig) := (3, law29_SessionNumbers_sig) :: S14
theorem S15_ok : ListOk Tryd.prog S15 := ListOk.cons S14_ok law29_SessionNumbers_ok
end Go.Proofs.YtdbenenonfldkaaDoor.PE
