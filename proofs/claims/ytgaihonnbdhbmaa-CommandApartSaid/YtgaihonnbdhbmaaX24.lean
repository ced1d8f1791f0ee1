/- The functions of this chapter, their second half. -/
import Derived.Test.YtgaihonnbdhbmaaX24p
namespace Go.Proofs.Ytgaihonnbdhbmaa.PE
set_option linter.unusedVariables false
open Go.Proofs
noncomputable def command_CheckNote_C : Cfg := { P := Try.prog, sig := lookSig S34, hb := fun _ _ => none, hr := fun _ _ => none, ps := lookP P33 }
noncomputable def command_CheckNote_un : List DV → Option (Int) := fun | [⟨.int .i64, r0⟩] => some r0 | _ => none
noncomputable def command_CheckNote_mk : Int → List DV := fun r0 => [⟨.int .i64, r0⟩]
theorem command_CheckNote_ex : ∃ f : (Int) → (Int) → (Int) → (Int) → (ByteArray) → (Int) → (List ByteArray) → (List Int) → Option (Int), f = fun (x0 : Int) (x1 : Int) (x2 : Int) (x3 : Int) (x4 : ByteArray) (x5 : Int) (x6 : List ByteArray) (x7 : List Int) => funRun command_CheckNote_C 3 10 [(true, [(false, .int .i64), (false, .int .i64), (false, .int .i64), (false, .int .i64), (false, .str), (false, .int .i64), (false, .slice (.str)), (false, .slice (.int .i64))])] [(false, [(false, .int .i64)])] command_CheckNote_un [⟨.int .i64, x0⟩, ⟨.int .i64, x1⟩, ⟨.int .i64, x2⟩, ⟨.int .i64, x3⟩, ⟨.str, x4⟩, ⟨.int .i64, x5⟩, ⟨.slice (.str), x6⟩, ⟨.slice (.int .i64), x7⟩] := ⟨_, rfl⟩
noncomputable def command_CheckNote : (Int) → (Int) → (Int) → (Int) → (ByteArray) → (Int) → (List ByteArray) → (List Int) → Option (Int) := command_CheckNote_ex.choose
theorem command_CheckNote_raw (x0 : Int) (x1 : Int) (x2 : Int) (x3 : Int) (x4 : ByteArray) (x5 : Int) (x6 : List ByteArray) (x7 : List Int) : command_CheckNote x0 x1 x2 x3 x4 x5 x6 x7 = funRun command_CheckNote_C 3 10 [(true, [(false, .int .i64), (false, .int .i64), (false, .int .i64), (false, .int .i64), (false, .str), (false, .int .i64), (false, .slice (.str)), (false, .slice (.int .i64))])] [(false, [(false, .int .i64)])] command_CheckNote_un [⟨.int .i64, x0⟩, ⟨.int .i64, x1⟩, ⟨.int .i64, x2⟩, ⟨.int .i64, x3⟩, ⟨.str, x4⟩, ⟨.int .i64, x5⟩, ⟨.slice (.str), x6⟩, ⟨.slice (.int .i64), x7⟩] := congrFun (congrFun (congrFun (congrFun (congrFun (congrFun (congrFun (congrFun (command_CheckNote_ex.choose_spec) x0) x1) x2) x3) x4) x5) x6) x7
theorem command_CheckNote_eq (x0 : Int) (x1 : Int) (x2 : Int) (x3 : Int) (x4 : ByteArray) (x5 : Int) (x6 : List ByteArray) (x7 : List Int) : command_CheckNote x0 x1 x2 x3 x4 x5 x6 x7 =
  bif !x0 == 1
  then bif !x0 == 2
    then bif x0 != 3
      then some (1)
      else (command_from x1 true 1 1099511627776).bind fun val6 =>
        bif !val6
          then some (2)
          else (command_from x2 (x0 == 1) 1 1099511627776).bind fun val10 =>
            bif !val10
              then some (2)
              else (command_from x3 (x0 == 2) 1 1099511627776).bind fun val14 =>
                bif !val14
                  then some (2)
                  else (command_text x4 (x0 == 1)).bind fun val18 =>
                    bif !val18
                      then some (1)
                      else bif !x0 == 1
                        then bif x5 != 0
                          then some (1)
                          else (command_variables x6 x7 (x0 == 2)).bind fun val26 =>
                            some (val26)
                        else (command_variables x6 x7 (x0 == 2)).bind fun val24 =>
                          some (val24)
    else (command_from x1 true 1 1099511627776).bind fun val4 =>
      bif !val4
        then some (2)
        else (command_from x2 (x0 == 1) 1 1099511627776).bind fun val8 =>
          bif !val8
            then some (2)
            else (command_from x3 (x0 == 2) 1 1099511627776).bind fun val12 =>
              bif !val12
                then some (2)
                else (command_text x4 (x0 == 1)).bind fun val16 =>
                  bif !val16
                    then some (1)
                    else bif !x0 == 1
                      then bif x5 != 0
                        then some (1)
                        else (command_variables x6 x7 (x0 == 2)).bind fun val24 =>
                          some (val24)
                      else (command_variables x6 x7 (x0 == 2)).bind fun val22 =>
                        some (val22)
  else (command_from x1 true 1 1099511627776).bind fun val2 =>
    bif !val2
      then some (2)
      else (command_from x2 (x0 == 1) 1 1099511627776).bind fun val6 =>
        bif !val6
          then some (2)
          else (command_from x3 (x0 == 2) 1 1099511627776).bind fun val10 =>
            bif !val10
              then some (2)
              else (command_text x4 (x0 == 1)).bind fun val14 =>
                bif !val14
                  then some (1)
                  else bif !x0 == 1
                    then bif x5 != 0
                      then some (1)
                      else (command_variables x6 x7 (x0 == 2)).bind fun val22 =>
                        some (val22)
                    else (command_variables x6 x7 (x0 == 2)).bind fun val20 =>
                      some (val20) := (command_CheckNote_raw x0 x1 x2 x3 x4 x5 x6 x7).trans (by kernel_rfl)
noncomputable def command_CheckNote_sig : Sig := { pm := [(true, [(false, .int .i64), (false, .int .i64), (false, .int .i64), (false, .int .i64), (false, .str), (false, .int .i64), (false, .slice (.str)), (false, .slice (.int .i64))])], rm := [(false, [(false, .int .i64)])], f := fun | [⟨.int .i64, x0⟩, ⟨.int .i64, x1⟩, ⟨.int .i64, x2⟩, ⟨.int .i64, x3⟩, ⟨.str, x4⟩, ⟨.int .i64, x5⟩, ⟨.slice (.str), x6⟩, ⟨.slice (.int .i64), x7⟩] => .yes _ (command_CheckNote x0 x1 x2 x3 x4 x5 x6 x7) command_CheckNote_mk | _ => .no }
theorem command_CheckNote_ok : SigOk Try.prog 10 command_CheckNote_sig := by
  refine contract_of (C := command_CheckNote_C) (d := 3) ⟨S34_ok, P33_ok⟩ (callable_ex (by kernel_rfl)) ?_
  intro dvs
  unfold command_CheckNote_sig
  dsimp only
  split
  · refine .inr ⟨_, command_CheckNote_un, command_CheckNote_mk, congrArg (fun o => Cl.yes _ o _) (command_CheckNote_raw _ _ _ _ _ _ _ _), ?_⟩
    intro ds x h
    unfold command_CheckNote_un at h
    split at h
    · cases h; rfl
    · cases h
  · exact .inl rfl
noncomputable def S35 : List (Nat × Sig) := (10, command_CheckNote_sig) :: S34
theorem S35_ok : ListOk Try.prog S35 := ListOk.cons S34_ok command_CheckNote_ok
noncomputable def command_PutNote_C : Cfg := { P := Try.prog, sig := lookSig S35, hb := fun _ _ => none, hr := fun _ _ => none, ps := lookP P33 }
noncomputable def command_PutNote_un : List DV → Option ((List Int) × Int) := fun | [⟨.slice (.int .u8), r0⟩, ⟨.int .i64, r1⟩] => some (r0, r1) | _ => none
noncomputable def command_PutNote_mk : ((List Int) × Int) → List DV := fun ⟨r0, r1⟩ => [⟨.slice (.int .u8), r0⟩, ⟨.int .i64, r1⟩]
theorem command_PutNote_ex : ∃ f : (Int) → (Int) → (Int) → (Int) → (ByteArray) → (Int) → (List ByteArray) → (List Int) → Option ((List Int) × Int), f = fun (x0 : Int) (x1 : Int) (x2 : Int) (x3 : Int) (x4 : ByteArray) (x5 : Int) (x6 : List ByteArray) (x7 : List Int) => funRun command_PutNote_C 3 20 [(true, [(false, .int .i64), (false, .int .i64), (false, .int .i64), (false, .int .i64), (false, .str), (false, .int .i64), (false, .slice (.str)), (false, .slice (.int .i64))])] [(false, [(true, .slice (.int .u8))]), (false, [(false, .int .i64)])] command_PutNote_un [⟨.int .i64, x0⟩, ⟨.int .i64, x1⟩, ⟨.int .i64, x2⟩, ⟨.int .i64, x3⟩, ⟨.str, x4⟩, ⟨.int .i64, x5⟩, ⟨.slice (.str), x6⟩, ⟨.slice (.int .i64), x7⟩] := ⟨_, rfl⟩
noncomputable def command_PutNote : (Int) → (Int) → (Int) → (Int) → (ByteArray) → (Int) → (List ByteArray) → (List Int) → Option ((List Int) × Int) := command_PutNote_ex.choose
theorem command_PutNote_raw (x0 : Int) (x1 : Int) (x2 : Int) (x3 : Int) (x4 : ByteArray) (x5 : Int) (x6 : List ByteArray) (x7 : List Int) : command_PutNote x0 x1 x2 x3 x4 x5 x6 x7 = funRun command_PutNote_C 3 20 [(true, [(false, .int .i64), (false, .int .i64), (false, .int .i64), (false, .int .i64), (false, .str), (false, .int .i64), (false, .slice (.str)), (false, .slice (.int .i64))])] [(false, [(true, .slice (.int .u8))]), (false, [(false, .int .i64)])] command_PutNote_un [⟨.int .i64, x0⟩, ⟨.int .i64, x1⟩, ⟨.int .i64, x2⟩, ⟨.int .i64, x3⟩, ⟨.str, x4⟩, ⟨.int .i64, x5⟩, ⟨.slice (.str), x6⟩, ⟨.slice (.int .i64), x7⟩] := congrFun (congrFun (congrFun (congrFun (congrFun (congrFun (congrFun (congrFun (command_PutNote_ex.choose_spec) x0) x1) x2) x3) x4) x5) x6) x7
theorem command_PutNote_eq (x0 : Int) (x1 : Int) (x2 : Int) (x3 : Int) (x4 : ByteArray) (x5 : Int) (x6 : List ByteArray) (x7 : List Int) : command_PutNote x0 x1 x2 x3 x4 x5 x6 x7 =
  (command_CheckNote x0 x1 x2 x3 x4 x5 x6 x7).bind fun val0 =>
  bif val0 != 0
    then some (([]), (val0))
    else (pack_Uint [IntKind.u8.wrap x0] (IntKind.u64.wrap x1)).bind fun val4 =>
      bif x0 == 1
        then (pack_Uint val4 (IntKind.u64.wrap x2)).bind fun val8 =>
          (pack_Bytes val8 (bytesList x4)).bind fun val10 =>
            (pack_Int val10 x5).bind fun val12 =>
              some ((val12), (0))
        else bif x0 == 2
          then (pack_Uint val4 (IntKind.u64.wrap x3)).bind fun val10 =>
            (vars_Put val10 x6 x7).bind fun val12 =>
              some ((val12), (0))
          else some ((val4), (0)) := (command_PutNote_raw x0 x1 x2 x3 x4 x5 x6 x7).trans (by kernel_rfl)
noncomputable def command_PutNote_sig : Sig := { pm := [(true, [(false, .int .i64), (false, .int .i64), (false, .int .i64), (false, .int .i64), (false, .str), (false, .int .i64), (false, .slice (.str)), (false, .slice (.int .i64))])], rm := [(false, [(true, .slice (.int .u8))]), (false, [(false, .int .i64)])], f := fun | [⟨.int .i64, x0⟩, ⟨.int .i64, x1⟩, ⟨.int .i64, x2⟩, ⟨.int .i64, x3⟩, ⟨.str, x4⟩, ⟨.int .i64, x5⟩, ⟨.slice (.str), x6⟩, ⟨.slice (.int .i64), x7⟩] => .yes _ (command_PutNote x0 x1 x2 x3 x4 x5 x6 x7) command_PutNote_mk | _ => .no }
theorem command_PutNote_ok : SigOk Try.prog 20 command_PutNote_sig := by
  refine contract_of (C := command_PutNote_C) (d := 3) ⟨S35_ok, P33_ok⟩ (callable_ex (by kernel_rfl)) ?_
  intro dvs
  unfold command_PutNote_sig
  dsimp only
  split
  · refine .inr ⟨_, command_PutNote_un, command_PutNote_mk, congrArg (fun o => Cl.yes _ o _) (command_PutNote_raw _ _ _ _ _ _ _ _), ?_⟩
    intro ds x h
    unfold command_PutNote_un at h
    split at h
    · cases h; rfl
    · cases h
  · exact .inl rfl
noncomputable def S36 : List (Nat × Sig) := (20, command_PutNote_sig) :: S35
theorem S36_ok : ListOk Try.prog S36 := ListOk.cons S35_ok command_PutNote_ok
noncomputable def command_ReadNote_C : Cfg := { P := Try.prog, sig := lookSig S36, hb := fun _ _ => none, hr := fun _ _ => none, ps := lookP P33 }
noncomputable def command_ReadNote_un : List DV → Option (Int × Int × Int × Int × ByteArray × Int × (List ByteArray) × (List Int) × Int) := fun | [⟨.int .i64, r0⟩, ⟨.int .i64, r1⟩, ⟨.int .i64, r2⟩, ⟨.int .i64, r3⟩, ⟨.str, r4⟩, ⟨.int .i64, r5⟩, ⟨.slice (.str), r6⟩, ⟨.slice (.int .i64), r7⟩, ⟨.int .i64, r8⟩] => some (r0, r1, r2, r3, r4, r5, r6, r7, r8) | _ => none
noncomputable def command_ReadNote_mk : (Int × Int × Int × Int × ByteArray × Int × (List ByteArray) × (List Int) × Int) → List DV := fun ⟨r0, r1, r2, r3, r4, r5, r6, r7, r8⟩ => [⟨.int .i64, r0⟩, ⟨.int .i64, r1⟩, ⟨.int .i64, r2⟩, ⟨.int .i64, r3⟩, ⟨.str, r4⟩, ⟨.int .i64, r5⟩, ⟨.slice (.str), r6⟩, ⟨.slice (.int .i64), r7⟩, ⟨.int .i64, r8⟩]
theorem command_ReadNote_ex : ∃ f : (List Int) → Option (Int × Int × Int × Int × ByteArray × Int × (List ByteArray) × (List Int) × Int), f = fun (x0 : List Int) => funRun command_ReadNote_C 3 21 [(false, [(false, .slice (.int .u8))])] [(true, [(false, .int .i64), (false, .int .i64), (false, .int .i64), (false, .int .i64), (false, .str), (false, .int .i64), (false, .slice (.str)), (false, .slice (.int .i64))]), (false, [(false, .int .i64)])] command_ReadNote_un [⟨.slice (.int .u8), x0⟩] := ⟨_, rfl⟩
noncomputable def command_ReadNote : (List Int) → Option (Int × Int × Int × Int × ByteArray × Int × (List ByteArray) × (List Int) × Int) := command_ReadNote_ex.choose
theorem command_ReadNote_raw (x0 : List Int) : command_ReadNote x0 = funRun command_ReadNote_C 3 21 [(false, [(false, .slice (.int .u8))])] [(true, [(false, .int .i64), (false, .int .i64), (false, .int .i64), (false, .int .i64), (false, .str), (false, .int .i64), (false, .slice (.str)), (false, .slice (.int .i64))]), (false, [(false, .int .i64)])] command_ReadNote_un [⟨.slice (.int .u8), x0⟩] := congrFun (command_ReadNote_ex.choose_spec) x0
theorem command_ReadNote_eq (x0 : List Int) : command_ReadNote x0 =
  (cr_one x0 0).bind fun val0 =>
  bif val0.2.1 == 0
    then bif decide (val0.2.2 < 1)
      then some ((0), ((0), ((0), ((0), (((⟨#[]⟩ : ByteArray)), ((0), (([]), (([]), (3)))))))))
      else bif decide (val0.2.2 > 3)
        then some ((0), ((0), ((0), ((0), (((⟨#[]⟩ : ByteArray)), ((0), (([]), (([]), (3)))))))))
        else (cr_number val0.1 val0.2.1).bind fun val8 =>
          bif val0.2.2 == 1
            then (cr_number val8.1 val8.2.1).bind fun val12 =>
              (cr_word val12.1 val12.2.1).bind fun val14 =>
                (cr_int val14.1 val14.2.1).bind fun val16 =>
                  bif val16.2.1 == 0
                    then bif decide (ilen val16.1 > 0)
                      then some ((0), ((0), ((0), ((0), (((⟨#[]⟩ : ByteArray)), ((0), (([]), (([]), (3)))))))))
                      else bif val16.2.1 == 0
                        then (command_CheckNote val0.2.2 val8.2.2 val12.2.2 0 val14.2.2 val16.2.2 [] []).bind fun val24 =>
                          bif val24 != 0
                            then some ((0), ((0), ((0), ((0), (((⟨#[]⟩ : ByteArray)), ((0), (([]), (([]), (val24)))))))))
                            else some ((val0.2.2), ((val8.2.2), ((val12.2.2), ((0), ((val14.2.2), ((val16.2.2), (([]), (([]), (0)))))))))
                        else bif val16.2.1 != 0
                          then some ((0), ((0), ((0), ((0), (((⟨#[]⟩ : ByteArray)), ((0), (([]), (([]), (val16.2.1)))))))))
                          else some ((val0.2.2), ((val8.2.2), ((val12.2.2), ((0), ((val14.2.2), ((val16.2.2), (([]), (([]), (0)))))))))
                    else bif val16.2.1 == 0
                      then (command_CheckNote val0.2.2 val8.2.2 val12.2.2 0 val14.2.2 val16.2.2 [] []).bind fun val22 =>
                        bif val22 != 0
                          then some ((0), ((0), ((0), ((0), (((⟨#[]⟩ : ByteArray)), ((0), (([]), (([]), (val22)))))))))
                          else some ((val0.2.2), ((val8.2.2), ((val12.2.2), ((0), ((val14.2.2), ((val16.2.2), (([]), (([]), (0)))))))))
                      else bif val16.2.1 != 0
                        then some ((0), ((0), ((0), ((0), (((⟨#[]⟩ : ByteArray)), ((0), (([]), (([]), (val16.2.1)))))))))
                        else some ((val0.2.2), ((val8.2.2), ((val12.2.2), ((0), ((val14.2.2), ((val16.2.2), (([]), (([]), (0)))))))))
            else bif val0.2.2 == 2
              then (cr_number val8.1 val8.2.1).bind fun val14 =>
                (cr_vars val14.1 val14.2.1).bind fun val16 =>
                  bif val16.2.1 == 0
                    then bif decide (ilen val16.1 > 0)
                      then some ((0), ((0), ((0), ((0), (((⟨#[]⟩ : ByteArray)), ((0), (([]), (([]), (3)))))))))
                      else bif val16.2.1 == 0
                        then (command_CheckNote val0.2.2 val8.2.2 0 val14.2.2 (⟨#[]⟩ : ByteArray) 0 val16.2.2.1 val16.2.2.2).bind fun val24 =>
                          bif val24 != 0
                            then some ((0), ((0), ((0), ((0), (((⟨#[]⟩ : ByteArray)), ((0), (([]), (([]), (val24)))))))))
                            else some ((val0.2.2), ((val8.2.2), ((0), ((val14.2.2), (((⟨#[]⟩ : ByteArray)), ((0), ((val16.2.2.1), ((val16.2.2.2), (0)))))))))
                        else bif val16.2.1 != 0
                          then some ((0), ((0), ((0), ((0), (((⟨#[]⟩ : ByteArray)), ((0), (([]), (([]), (val16.2.1)))))))))
                          else some ((val0.2.2), ((val8.2.2), ((0), ((val14.2.2), (((⟨#[]⟩ : ByteArray)), ((0), ((val16.2.2.1), ((val16.2.2.2), (0)))))))))
                    else bif val16.2.1 == 0
                      then (command_CheckNote val0.2.2 val8.2.2 0 val14.2.2 (⟨#[]⟩ : ByteArray) 0 val16.2.2.1 val16.2.2.2).bind fun val22 =>
                        bif val22 != 0
                          then some ((0), ((0), ((0), ((0), (((⟨#[]⟩ : ByteArray)), ((0), (([]), (([]), (val22)))))))))
                          else some ((val0.2.2), ((val8.2.2), ((0), ((val14.2.2), (((⟨#[]⟩ : ByteArray)), ((0), ((val16.2.2.1), ((val16.2.2.2), (0)))))))))
                      else bif val16.2.1 != 0
                        then some ((0), ((0), ((0), ((0), (((⟨#[]⟩ : ByteArray)), ((0), (([]), (([]), (val16.2.1)))))))))
                        else some ((val0.2.2), ((val8.2.2), ((0), ((val14.2.2), (((⟨#[]⟩ : ByteArray)), ((0), ((val16.2.2.1), ((val16.2.2.2), (0)))))))))
              else bif val8.2.1 == 0
                then bif decide (ilen val8.1 > 0)
                  then some ((0), ((0), ((0), ((0), (((⟨#[]⟩ : ByteArray)), ((0), (([]), (([]), (3)))))))))
                  else bif val8.2.1 == 0
                    then (command_CheckNote val0.2.2 val8.2.2 0 0 (⟨#[]⟩ : ByteArray) 0 [] []).bind fun val20 =>
                      bif val20 != 0
                        then some ((0), ((0), ((0), ((0), (((⟨#[]⟩ : ByteArray)), ((0), (([]), (([]), (val20)))))))))
                        else some ((val0.2.2), ((val8.2.2), ((0), ((0), (((⟨#[]⟩ : ByteArray)), ((0), (([]), (([]), (0)))))))))
                    else bif val8.2.1 != 0
                      then some ((0), ((0), ((0), ((0), (((⟨#[]⟩ : ByteArray)), ((0), (([]), (([]), (val8.2.1)))))))))
                      else some ((val0.2.2), ((val8.2.2), ((0), ((0), (((⟨#[]⟩ : ByteArray)), ((0), (([]), (([]), (0)))))))))
                else bif val8.2.1 == 0
                  then (command_CheckNote val0.2.2 val8.2.2 0 0 (⟨#[]⟩ : ByteArray) 0 [] []).bind fun val18 =>
                    bif val18 != 0
                      then some ((0), ((0), ((0), ((0), (((⟨#[]⟩ : ByteArray)), ((0), (([]), (([]), (val18)))))))))
                      else some ((val0.2.2), ((val8.2.2), ((0), ((0), (((⟨#[]⟩ : ByteArray)), ((0), (([]), (([]), (0)))))))))
                  else bif val8.2.1 != 0
                    then some ((0), ((0), ((0), ((0), (((⟨#[]⟩ : ByteArray)), ((0), (([]), (([]), (val8.2.1)))))))))
                    else some ((val0.2.2), ((val8.2.2), ((0), ((0), (((⟨#[]⟩ : ByteArray)), ((0), (([]), (([]), (0)))))))))
    else (cr_number val0.1 val0.2.1).bind fun val4 =>
      bif val0.2.2 == 1
        then (cr_number val4.1 val4.2.1).bind fun val8 =>
          (cr_word val8.1 val8.2.1).bind fun val10 =>
            (cr_int val10.1 val10.2.1).bind fun val12 =>
              bif val12.2.1 == 0
                then bif decide (ilen val12.1 > 0)
                  then some ((0), ((0), ((0), ((0), (((⟨#[]⟩ : ByteArray)), ((0), (([]), (([]), (3)))))))))
                  else bif val12.2.1 == 0
                    then (command_CheckNote val0.2.2 val4.2.2 val8.2.2 0 val10.2.2 val12.2.2 [] []).bind fun val20 =>
                      bif val20 != 0
                        then some ((0), ((0), ((0), ((0), (((⟨#[]⟩ : ByteArray)), ((0), (([]), (([]), (val20)))))))))
                        else some ((val0.2.2), ((val4.2.2), ((val8.2.2), ((0), ((val10.2.2), ((val12.2.2), (([]), (([]), (0)))))))))
                    else bif val12.2.1 != 0
                      then some ((0), ((0), ((0), ((0), (((⟨#[]⟩ : ByteArray)), ((0), (([]), (([]), (val12.2.1)))))))))
                      else some ((val0.2.2), ((val4.2.2), ((val8.2.2), ((0), ((val10.2.2), ((val12.2.2), (([]), (([]), (0)))))))))
                else bif val12.2.1 == 0
                  then (command_CheckNote val0.2.2 val4.2.2 val8.2.2 0 val10.2.2 val12.2.2 [] []).bind fun val18 =>
                    bif val18 != 0
                      then some ((0), ((0), ((0), ((0), (((⟨#[]⟩ : ByteArray)), ((0), (([]), (([]), (val18)))))))))
                      else some ((val0.2.2), ((val4.2.2), ((val8.2.2), ((0), ((val10.2.2), ((val12.2.2), (([]), (([]), (0)))))))))
                  else bif val12.2.1 != 0
                    then some ((0), ((0), ((0), ((0), (((⟨#[]⟩ : ByteArray)), ((0), (([]), (([]), (val12.2.1)))))))))
                    else some ((val0.2.2), ((val4.2.2), ((val8.2.2), ((0), ((val10.2.2), ((val12.2.2), (([]), (([]), (0)))))))))
        else bif val0.2.2 == 2
          then (cr_number val4.1 val4.2.1).bind fun val10 =>
            (cr_vars val10.1 val10.2.1).bind fun val12 =>
              bif val12.2.1 == 0
                then bif decide (ilen val12.1 > 0)
                  then some ((0), ((0), ((0), ((0), (((⟨#[]⟩ : ByteArray)), ((0), (([]), (([]), (3)))))))))
                  else bif val12.2.1 == 0
                    then (command_CheckNote val0.2.2 val4.2.2 0 val10.2.2 (⟨#[]⟩ : ByteArray) 0 val12.2.2.1 val12.2.2.2).bind fun val20 =>
                      bif val20 != 0
                        then some ((0), ((0), ((0), ((0), (((⟨#[]⟩ : ByteArray)), ((0), (([]), (([]), (val20)))))))))
                        else some ((val0.2.2), ((val4.2.2), ((0), ((val10.2.2), (((⟨#[]⟩ : ByteArray)), ((0), ((val12.2.2.1), ((val12.2.2.2), (0)))))))))
                    else bif val12.2.1 != 0
                      then some ((0), ((0), ((0), ((0), (((⟨#[]⟩ : ByteArray)), ((0), (([]), (([]), (val12.2.1)))))))))
                      else some ((val0.2.2), ((val4.2.2), ((0), ((val10.2.2), (((⟨#[]⟩ : ByteArray)), ((0), ((val12.2.2.1), ((val12.2.2.2), (0)))))))))
                else bif val12.2.1 == 0
                  then (command_CheckNote val0.2.2 val4.2.2 0 val10.2.2 (⟨#[]⟩ : ByteArray) 0 val12.2.2.1 val12.2.2.2).bind fun val18 =>
                    bif val18 != 0
                      then some ((0), ((0), ((0), ((0), (((⟨#[]⟩ : ByteArray)), ((0), (([]), (([]), (val18)))))))))
                      else some ((val0.2.2), ((val4.2.2), ((0), ((val10.2.2), (((⟨#[]⟩ : ByteArray)), ((0), ((val12.2.2.1), ((val12.2.2.2), (0)))))))))
                  else bif val12.2.1 != 0
                    then some ((0), ((0), ((0), ((0), (((⟨#[]⟩ : ByteArray)), ((0), (([]), (([]), (val12.2.1)))))))))
                    else some ((val0.2.2), ((val4.2.2), ((0), ((val10.2.2), (((⟨#[]⟩ : ByteArray)), ((0), ((val12.2.2.1), ((val12.2.2.2), (0)))))))))
          else bif val4.2.1 == 0
            then bif decide (ilen val4.1 > 0)
              then some ((0), ((0), ((0), ((0), (((⟨#[]⟩ : ByteArray)), ((0), (([]), (([]), (3)))))))))
              else bif val4.2.1 == 0
                then (command_CheckNote val0.2.2 val4.2.2 0 0 (⟨#[]⟩ : ByteArray) 0 [] []).bind fun val16 =>
                  bif val16 != 0
                    then some ((0), ((0), ((0), ((0), (((⟨#[]⟩ : ByteArray)), ((0), (([]), (([]), (val16)))))))))
                    else some ((val0.2.2), ((val4.2.2), ((0), ((0), (((⟨#[]⟩ : ByteArray)), ((0), (([]), (([]), (0)))))))))
                else bif val4.2.1 != 0
                  then some ((0), ((0), ((0), ((0), (((⟨#[]⟩ : ByteArray)), ((0), (([]), (([]), (val4.2.1)))))))))
                  else some ((val0.2.2), ((val4.2.2), ((0), ((0), (((⟨#[]⟩ : ByteArray)), ((0), (([]), (([]), (0)))))))))
            else bif val4.2.1 == 0
              then (command_CheckNote val0.2.2 val4.2.2 0 0 (⟨#[]⟩ : ByteArray) 0 [] []).bind fun val14 =>
                bif val14 != 0
                  then some ((0), ((0), ((0), ((0), (((⟨#[]⟩ : ByteArray)), ((0), (([]), (([]), (val14)))))))))
                  else some ((val0.2.2), ((val4.2.2), ((0), ((0), (((⟨#[]⟩ : ByteArray)), ((0), (([]), (([]), (0)))))))))
              else bif val4.2.1 != 0
                then some ((0), ((0), ((0), ((0), (((⟨#[]⟩ : ByteArray)), ((0), (([]), (([]), (val4.2.1)))))))))
                else some ((val0.2.2), ((val4.2.2), ((0), ((0), (((⟨#[]⟩ : ByteArray)), ((0), (([]), (([]), (0))))))))) := (command_ReadNote_raw x0).trans (by kernel_rfl)
noncomputable def command_ReadNote_sig : Sig := { pm := [(false, [(false, .slice (.int .u8))])], rm := [(true, [(false, .int .i64), (false, .int .i64), (false, .int .i64), (false, .int .i64), (false, .str), (false, .int .i64), (false, .slice (.str)), (false, .slice (.int .i64))]), (false, [(false, .int .i64)])], f := fun | [⟨.slice (.int .u8), x0⟩] => .yes _ (command_ReadNote x0) command_ReadNote_mk | _ => .no }
theorem command_ReadNote_ok : SigOk Try.prog 21 command_ReadNote_sig := by
  refine contract_of (C := command_ReadNote_C) (d := 3) ⟨S36_ok, P33_ok⟩ (callable_ex (by kernel_rfl)) ?_
  intro dvs
  unfold command_ReadNote_sig
  dsimp only
  split
  · refine .inr ⟨_, command_ReadNote_un, command_ReadNote_mk, congrArg (fun o => Cl.yes _ o _) (command_ReadNote_raw _), ?_⟩
    intro ds x h
    unfold command_ReadNote_un at h
    split at h
    · cases h; rfl
    · cases h
  · exact .inl rfl
noncomputable def S37 : List (Nat × Sig) := (21, command_ReadNote_sig) :: S36
theorem S37_ok : ListOk Try.prog S37 := ListOk.cons S36_ok command_ReadNote_ok
noncomputable def command_CheckReply_C : Cfg := { P := Try.prog, sig := lookSig S37, hb := fun f b =>  bif Nat.beq f 12 && Nat.beq b 0 then some { tmps := [1, 11, 12, 13], obs := [108, 188], nils := [], kl := [188, 108] } else none, hr := fun _ _ => none, ps := lookP P33 }
noncomputable def command_CheckReply_un : List DV → Option (Int) := fun | [⟨.int .i64, r0⟩] => some r0 | _ => none
noncomputable def command_CheckReply_mk : Int → List DV := fun r0 => [⟨.int .i64, r0⟩]
theorem command_CheckReply_ex : ∃ f : (Int) → (Int) → (Int) → (Int) → (List (Int × Int × Int × ByteArray × Int × ByteArray × Int)) → Option (Int), f = fun (x0 : Int) (x1 : Int) (x2 : Int) (x3 : Int) (x4 : List (Int × Int × Int × ByteArray × Int × ByteArray × Int)) => funRun command_CheckReply_C 3 12 [(true, [(false, .int .i64), (false, .int .i64), (false, .int .i64), (false, .int .i64), (false, .slice (.pair (.int .i64) (.pair (.int .i64) (.pair (.int .i64) (.pair (.str) (.pair (.int .i64) (.pair (.str) (.int .i64))))))))])] [(false, [(false, .int .i64)])] command_CheckReply_un [⟨.int .i64, x0⟩, ⟨.int .i64, x1⟩, ⟨.int .i64, x2⟩, ⟨.int .i64, x3⟩, ⟨.slice (.pair (.int .i64) (.pair (.int .i64) (.pair (.int .i64) (.pair (.str) (.pair (.int .i64) (.pair (.str) (.int .i64))))))), x4⟩] := ⟨_, rfl⟩
noncomputable def command_CheckReply : (Int) → (Int) → (Int) → (Int) → (List (Int × Int × Int × ByteArray × Int × ByteArray × Int)) → Option (Int) := command_CheckReply_ex.choose
theorem command_CheckReply_raw (x0 : Int) (x1 : Int) (x2 : Int) (x3 : Int) (x4 : List (Int × Int × Int × ByteArray × Int × ByteArray × Int)) : command_CheckReply x0 x1 x2 x3 x4 = funRun command_CheckReply_C 3 12 [(true, [(false, .int .i64), (false, .int .i64), (false, .int .i64), (false, .int .i64), (false, .slice (.pair (.int .i64) (.pair (.int .i64) (.pair (.int .i64) (.pair (.str) (.pair (.int .i64) (.pair (.str) (.int .i64))))))))])] [(false, [(false, .int .i64)])] command_CheckReply_un [⟨.int .i64, x0⟩, ⟨.int .i64, x1⟩, ⟨.int .i64, x2⟩, ⟨.int .i64, x3⟩, ⟨.slice (.pair (.int .i64) (.pair (.int .i64) (.pair (.int .i64) (.pair (.str) (.pair (.int .i64) (.pair (.str) (.int .i64))))))), x4⟩] := congrFun (congrFun (congrFun (congrFun (congrFun (command_CheckReply_ex.choose_spec) x0) x1) x2) x3) x4
noncomputable def command_CheckReply_l0 (y0 : Int) (y1 : Int) (y2 : Int) (y3 : Int) (y4 : Int) (y5 : Int) (y6 : List ((Int) × ((Int) × ((Int) × ((ByteArray) × ((Int) × ((ByteArray) × (Int)))))))) (y7 : List (Int)) : Option (Int) := loopAt command_CheckReply_C 3 12 [(false, [(false, .int .i64)])] command_CheckReply_un [true, false, true, false] (St.ofLists [(1, .ptr 108 0), (11, .ow 188), (12, .int .i64 y0), (13, .int .i64 y1)] [(108, some (.cells [.int .i64 y2, .int .i64 y3, .int .i64 y4, .int .i64 y5, .fz ((Ty.int IntKind.i64).pair ((Ty.int IntKind.i64).pair ((Ty.int IntKind.i64).pair (Ty.str.pair ((Ty.int IntKind.i64).pair (Ty.str.pair (Ty.int IntKind.i64))))))) y6 false false])), (188, some (.row (Ty.int IntKind.i64) y7 0 false))] [188, 108])
theorem command_CheckReply_eq (x0 : Int) (x1 : Int) (x2 : Int) (x3 : Int) (x4 : List (Int × Int × Int × ByteArray × Int × ByteArray × Int)) : command_CheckReply x0 x1 x2 x3 x4 =
  command_CheckReply_l0 (ilen [x0, x1, x3]) (0) (x0) (x1) (x2) (x3) (x4) ([x0, x1, x3]) := (command_CheckReply_raw x0 x1 x2 x3 x4).trans (by kernel_rfl)
theorem command_CheckReply_l0_eq (y0 : Int) (y1 : Int) (y2 : Int) (y3 : Int) (y4 : Int) (y5 : Int) (y6 : List ((Int) × ((Int) × ((Int) × ((ByteArray) × ((Int) × ((ByteArray) × (Int)))))))) (y7 : List (Int)) : command_CheckReply_l0 y0 y1 y2 y3 y4 y5 y6 y7 =
  bif decide (y1 < y0)
  then bif decide (0 ≤ y1)
    then bif decide (y1 < ilen y7)
      then (y7[y1.toNat]?).bind fun val6 =>
        bif decide (val6 < 0)
          then some (1)
          else bif decide (val6 > 1099511627776)
            then some (1)
            else command_CheckReply_l0 (y0) (IntKind.i64.wrap (y1 + 1)) (y2) (y3) (y4) (y5) (y6) (y7)
      else none
    else none
  else bif decide (y4 < 0)
    then some (1)
    else bif decide (y4 > 17)
      then some (1)
      else bif decide (ilen y6 > 8)
        then some (1)
        else (jobs_Check y6).bind fun val8 =>
          some (val8) := (loopAt_step _ _ _ _ _ _ _).trans (by kernel_rfl)
noncomputable def command_CheckReply_sig : Sig := { pm := [(true, [(false, .int .i64), (false, .int .i64), (false, .int .i64), (false, .int .i64), (false, .slice (.pair (.int .i64) (.pair (.int .i64) (.pair (.int .i64) (.pair (.str) (.pair (.int .i64) (.pair (.str) (.int .i64))))))))])], rm := [(false, [(false, .int .i64)])], f := fun | [⟨.int .i64, x0⟩, ⟨.int .i64, x1⟩, ⟨.int .i64, x2⟩, ⟨.int .i64, x3⟩, ⟨.slice (.pair (.int .i64) (.pair (.int .i64) (.pair (.int .i64) (.pair (.str) (.pair (.int .i64) (.pair (.str) (.int .i64))))))), x4⟩] => .yes _ (command_CheckReply x0 x1 x2 x3 x4) command_CheckReply_mk | _ => .no }
theorem command_CheckReply_ok : SigOk Try.prog 12 command_CheckReply_sig := by
  refine contract_of (C := command_CheckReply_C) (d := 3) ⟨S37_ok, P33_ok⟩ (callable_ex (by kernel_rfl)) ?_
  intro dvs
  unfold command_CheckReply_sig
  dsimp only
  split
  · refine .inr ⟨_, command_CheckReply_un, command_CheckReply_mk, congrArg (fun o => Cl.yes _ o _) (command_CheckReply_raw _ _ _ _ _), ?_⟩
    intro ds x h
    unfold command_CheckReply_un at h
    split at h
    · cases h; rfl
    · cases h
  · exact .inl rfl
noncomputable def S38 : List (Nat × Sig) := (12, command_CheckReply_sig) :: S37
theorem S38_ok : ListOk Try.prog S38 := ListOk.cons S37_ok command_CheckReply_ok
noncomputable def command_PutReply_C : Cfg := { P := Try.prog, sig := lookSig S38, hb := fun f b =>  bif Nat.beq f 23 && Nat.beq b 0 then some { tmps := [0, 3, 15, 16, 17], obs := [124, 220, 60], nils := [(0, 60, (.int .u8))], kl := [220, 124, 292, 0, 60] } else none, hr := fun _ _ => none, ps := lookP P33 }
noncomputable def command_PutReply_un : List DV → Option ((List Int)) := fun | [⟨.slice (.int .u8), r0⟩] => some r0 | _ => none
noncomputable def command_PutReply_mk : (List Int) → List DV := fun r0 => [⟨.slice (.int .u8), r0⟩]
theorem command_PutReply_ex : ∃ f : (List Int) → (Int) → (Int) → (Int) → (Int) → (List (Int × Int × Int × ByteArray × Int × ByteArray × Int)) → Option ((List Int)), f = fun (x0 : List Int) (x1 : Int) (x2 : Int) (x3 : Int) (x4 : Int) (x5 : List (Int × Int × Int × ByteArray × Int × ByteArray × Int)) => funRun command_PutReply_C 3 23 [(false, [(true, .slice (.int .u8))]), (true, [(false, .int .i64), (false, .int .i64), (false, .int .i64), (false, .int .i64), (false, .slice (.pair (.int .i64) (.pair (.int .i64) (.pair (.int .i64) (.pair (.str) (.pair (.int .i64) (.pair (.str) (.int .i64))))))))])] [(false, [(true, .slice (.int .u8))])] command_PutReply_un [⟨.slice (.int .u8), x0⟩, ⟨.int .i64, x1⟩, ⟨.int .i64, x2⟩, ⟨.int .i64, x3⟩, ⟨.int .i64, x4⟩, ⟨.slice (.pair (.int .i64) (.pair (.int .i64) (.pair (.int .i64) (.pair (.str) (.pair (.int .i64) (.pair (.str) (.int .i64))))))), x5⟩] := ⟨_, rfl⟩
noncomputable def command_PutReply : (List Int) → (Int) → (Int) → (Int) → (Int) → (List (Int × Int × Int × ByteArray × Int × ByteArray × Int)) → Option ((List Int)) := command_PutReply_ex.choose
theorem command_PutReply_raw (x0 : List Int) (x1 : Int) (x2 : Int) (x3 : Int) (x4 : Int) (x5 : List (Int × Int × Int × ByteArray × Int × ByteArray × Int)) : command_PutReply x0 x1 x2 x3 x4 x5 = funRun command_PutReply_C 3 23 [(false, [(true, .slice (.int .u8))]), (true, [(false, .int .i64), (false, .int .i64), (false, .int .i64), (false, .int .i64), (false, .slice (.pair (.int .i64) (.pair (.int .i64) (.pair (.int .i64) (.pair (.str) (.pair (.int .i64) (.pair (.str) (.int .i64))))))))])] [(false, [(true, .slice (.int .u8))])] command_PutReply_un [⟨.slice (.int .u8), x0⟩, ⟨.int .i64, x1⟩, ⟨.int .i64, x2⟩, ⟨.int .i64, x3⟩, ⟨.int .i64, x4⟩, ⟨.slice (.pair (.int .i64) (.pair (.int .i64) (.pair (.int .i64) (.pair (.str) (.pair (.int .i64) (.pair (.str) (.int .i64))))))), x5⟩] := congrFun (congrFun (congrFun (congrFun (congrFun (congrFun (command_PutReply_ex.choose_spec) x0) x1) x2) x3) x4) x5
noncomputable def command_PutReply_l0 (y0 : Int) (y1 : Int) (y2 : Int) (y3 : Int) (y4 : Int) (y5 : Int) (y6 : List ((Int) × ((Int) × ((Int) × ((ByteArray) × ((Int) × ((ByteArray) × (Int)))))))) (y7 : List (Int)) (y8 : List (Int)) : Option ((List Int)) := loopAt command_PutReply_C 3 23 [(false, [(true, .slice (.int .u8))])] command_PutReply_un [true, false, true, false] (St.ofLists [(0, .ow 60), (3, .ptr 124 0), (15, .ow 220), (16, .int .i64 y0), (17, .int .i64 y1)] [(124, some (.cells [.int .i64 y2, .int .i64 y3, .int .i64 y4, .int .i64 y5, .fz ((Ty.int IntKind.i64).pair ((Ty.int IntKind.i64).pair ((Ty.int IntKind.i64).pair (Ty.str.pair ((Ty.int IntKind.i64).pair (Ty.str.pair (Ty.int IntKind.i64))))))) y6 false false])), (220, some (.row (Ty.int IntKind.i64) y7 0 false)), (60, some (.row (Ty.int IntKind.u8) y8 0 false))] [220, 124, 292, 0, 60])
theorem command_PutReply_eq (x0 : List Int) (x1 : Int) (x2 : Int) (x3 : Int) (x4 : Int) (x5 : List (Int × Int × Int × ByteArray × Int × ByteArray × Int)) : command_PutReply x0 x1 x2 x3 x4 x5 =
  command_PutReply_l0 (ilen [x1, x2, x3, x4]) (0) (x1) (x2) (x3) (x4) (x5) ([x1, x2, x3, x4]) (x0) := (command_PutReply_raw x0 x1 x2 x3 x4 x5).trans (by kernel_rfl)
theorem command_PutReply_l0_eq (y0 : Int) (y1 : Int) (y2 : Int) (y3 : Int) (y4 : Int) (y5 : Int) (y6 : List ((Int) × ((Int) × ((Int) × ((ByteArray) × ((Int) × ((ByteArray) × (Int)))))))) (y7 : List (Int)) (y8 : List (Int)) : command_PutReply_l0 y0 y1 y2 y3 y4 y5 y6 y7 y8 =
  bif decide (y1 < y0)
  then bif decide (0 ≤ y1)
    then bif decide (y1 < ilen y7)
      then (y7[y1.toNat]?).bind fun val6 =>
        (pack_Uint y8 (IntKind.u64.wrap val6)).bind fun val8 =>
          command_PutReply_l0 (y0) (IntKind.i64.wrap (y1 + 1)) (y2) (y3) (y4) (y5) (y6) (y7) (val8)
      else none
    else none
  else (jobs_Put y8 y6).bind fun val2 =>
    some (val2) := (loopAt_step _ _ _ _ _ _ _).trans (by kernel_rfl)
noncomputable def command_PutReply_sig : Sig := { pm := [(false, [(true, .slice (.int .u8))]), (true, [(false, .int .i64), (false, .int .i64), (false, .int .i64), (false, .int .i64), (false, .slice (.pair (.int .i64) (.pair (.int .i64) (.pair (.int .i64) (.pair (.str) (.pair (.int .i64) (.pair (.str) (.int .i64))))))))])], rm := [(false, [(true, .slice (.int .u8))])], f := fun | [⟨.slice (.int .u8), x0⟩, ⟨.int .i64, x1⟩, ⟨.int .i64, x2⟩, ⟨.int .i64, x3⟩, ⟨.int .i64, x4⟩, ⟨.slice (.pair (.int .i64) (.pair (.int .i64) (.pair (.int .i64) (.pair (.str) (.pair (.int .i64) (.pair (.str) (.int .i64))))))), x5⟩] => .yes _ (command_PutReply x0 x1 x2 x3 x4 x5) command_PutReply_mk | _ => .no }
theorem command_PutReply_ok : SigOk Try.prog 23 command_PutReply_sig := by
  refine contract_of (C := command_PutReply_C) (d := 3) ⟨S38_ok, P33_ok⟩ (callable_ex (by kernel_rfl)) ?_
  intro dvs
  unfold command_PutReply_sig
  dsimp only
  split
  · refine .inr ⟨_, command_PutReply_un, command_PutReply_mk, congrArg (fun o => Cl.yes _ o _) (command_PutReply_raw _ _ _ _ _ _), ?_⟩
    intro ds x h
    unfold command_PutReply_un at h
    split at h
    · cases h; rfl
    · cases h
  · exact .inl rfl
noncomputable def S39 : List (Nat × Sig) := (23, command_PutReply_sig) :: S38
theorem S39_ok : ListOk Try.prog S39 := ListOk.cons S38_ok command_PutReply_ok
noncomputable def command_ReadReply_C : Cfg := { P := Try.prog, sig := lookSig S39, hb := fun _ _ => none, hr := fun _ _ => none, ps := lookP P33 }
noncomputable def command_ReadReply_un : List DV → Option (Int × Int × Int × Int × (List (Int × Int × Int × ByteArray × Int × ByteArray × Int)) × (List Int) × Int) := fun | [⟨.int .i64, r0⟩, ⟨.int .i64, r1⟩, ⟨.int .i64, r2⟩, ⟨.int .i64, r3⟩, ⟨.slice (.pair (.int .i64) (.pair (.int .i64) (.pair (.int .i64) (.pair (.str) (.pair (.int .i64) (.pair (.str) (.int .i64))))))), r4⟩, ⟨.slice (.int .u8), r5⟩, ⟨.int .i64, r6⟩] => some (r0, r1, r2, r3, r4, r5, r6) | _ => none
noncomputable def command_ReadReply_mk : (Int × Int × Int × Int × (List (Int × Int × Int × ByteArray × Int × ByteArray × Int)) × (List Int) × Int) → List DV := fun ⟨r0, r1, r2, r3, r4, r5, r6⟩ => [⟨.int .i64, r0⟩, ⟨.int .i64, r1⟩, ⟨.int .i64, r2⟩, ⟨.int .i64, r3⟩, ⟨.slice (.pair (.int .i64) (.pair (.int .i64) (.pair (.int .i64) (.pair (.str) (.pair (.int .i64) (.pair (.str) (.int .i64))))))), r4⟩, ⟨.slice (.int .u8), r5⟩, ⟨.int .i64, r6⟩]
theorem command_ReadReply_ex : ∃ f : (List Int) → Option (Int × Int × Int × Int × (List (Int × Int × Int × ByteArray × Int × ByteArray × Int)) × (List Int) × Int), f = fun (x0 : List Int) => funRun command_ReadReply_C 3 22 [(false, [(false, .slice (.int .u8))])] [(true, [(false, .int .i64), (false, .int .i64), (false, .int .i64), (false, .int .i64), (false, .slice (.pair (.int .i64) (.pair (.int .i64) (.pair (.int .i64) (.pair (.str) (.pair (.int .i64) (.pair (.str) (.int .i64))))))))]), (false, [(false, .slice (.int .u8))]), (false, [(false, .int .i64)])] command_ReadReply_un [⟨.slice (.int .u8), x0⟩] := ⟨_, rfl⟩
noncomputable def command_ReadReply : (List Int) → Option (Int × Int × Int × Int × (List (Int × Int × Int × ByteArray × Int × ByteArray × Int)) × (List Int) × Int) := command_ReadReply_ex.choose
theorem command_ReadReply_raw (x0 : List Int) : command_ReadReply x0 = funRun command_ReadReply_C 3 22 [(false, [(false, .slice (.int .u8))])] [(true, [(false, .int .i64), (false, .int .i64), (false, .int .i64), (false, .int .i64), (false, .slice (.pair (.int .i64) (.pair (.int .i64) (.pair (.int .i64) (.pair (.str) (.pair (.int .i64) (.pair (.str) (.int .i64))))))))]), (false, [(false, .slice (.int .u8))]), (false, [(false, .int .i64)])] command_ReadReply_un [⟨.slice (.int .u8), x0⟩] := congrFun (command_ReadReply_ex.choose_spec) x0
theorem command_ReadReply_eq (x0 : List Int) : command_ReadReply x0 =
  (cr_number x0 0).bind fun val0 =>
  (cr_number val0.1 val0.2.1).bind fun val2 =>
    (cr_number val2.1 val2.2.1).bind fun val4 =>
      (cr_number val4.1 val4.2.1).bind fun val6 =>
        (cr_jobs val6.1 val6.2.1).bind fun val8 =>
          bif val8.2.1 == 0
            then (command_CheckReply val0.2.2 val2.2.2 val4.2.2 val6.2.2 val8.2.2).bind fun val12 =>
              bif val12 != 0
                then some ((0), ((0), ((0), ((0), (([]), (([]), (val12)))))))
                else some ((val0.2.2), ((val2.2.2), ((val4.2.2), ((val6.2.2), ((val8.2.2), ((val8.1), (0)))))))
            else bif val8.2.1 != 0
              then some ((0), ((0), ((0), ((0), (([]), (([]), (val8.2.1)))))))
              else some ((val0.2.2), ((val2.2.2), ((val4.2.2), ((val6.2.2), ((val8.2.2), ((val8.1), (0))))))) := (command_ReadReply_raw x0).trans (by kernel_rfl)
noncomputable def command_ReadReply_sig : Sig := { pm := [(false, [(false, .slice (.int .u8))])], rm := [(true, [(false, .int .i64), (false, .int .i64), (false, .int .i64), (false, .int .i64), (false, .slice (.pair (.int .i64) (.pair (.int .i64) (.pair (.int .i64) (.pair (.str) (.pair (.int .i64) (.pair (.str) (.int .i64))))))))]), (false, [(false, .slice (.int .u8))]), (false, [(false, .int .i64)])], f := fun | [⟨.slice (.int .u8), x0⟩] => .yes _ (command_ReadReply x0) command_ReadReply_mk | _ => .no }
theorem command_ReadReply_ok : SigOk Try.prog 22 command_ReadReply_sig := by
  refine contract_of (C := command_ReadReply_C) (d := 3) ⟨S39_ok, P33_ok⟩ (callable_ex (by kernel_rfl)) ?_
  intro dvs
  unfold command_ReadReply_sig
  dsimp only
  split
  · refine .inr ⟨_, command_ReadReply_un, command_ReadReply_mk, congrArg (fun o => Cl.yes _ o _) (command_ReadReply_raw _), ?_⟩
    intro ds x h
    unfold command_ReadReply_un at h
    split at h
    · cases h; rfl
    · cases h
  · exact .inl rfl
noncomputable def S40 : List (Nat × Sig) := (22, command_ReadReply_sig) :: S39
theorem S40_ok : ListOk Try.prog S40 := ListOk.cons S39_ok command_ReadReply_ok
noncomputable def ref08_Texts_C : Cfg := { P := Try.prog, sig := lookSig S40, hb := fun f b =>  bif Nat.beq f 69 && Nat.beq b 0 then some { tmps := [0, 1, 5], obs := [], nils := [], kl := [] } else none, hr := fun _ _ => none, ps := lookP P33 }
noncomputable def ref08_Texts_un : List DV → Option (Bool) := fun | [⟨.bool, r0⟩] => some r0 | _ => none
noncomputable def ref08_Texts_mk : Bool → List DV := fun r0 => [⟨.bool, r0⟩]
theorem ref08_Texts_ex : ∃ f : (List ByteArray) → (List ByteArray) → Option (Bool), f = fun (x0 : List ByteArray) (x1 : List ByteArray) => funRun ref08_Texts_C 3 69 [(false, [(false, .slice (.str))]), (false, [(false, .slice (.str))])] [(false, [(false, .bool)])] ref08_Texts_un [⟨.slice (.str), x0⟩, ⟨.slice (.str), x1⟩] := ⟨_, rfl⟩
noncomputable def ref08_Texts : (List ByteArray) → (List ByteArray) → Option (Bool) := ref08_Texts_ex.choose
theorem ref08_Texts_raw (x0 : List ByteArray) (x1 : List ByteArray) : ref08_Texts x0 x1 = funRun ref08_Texts_C 3 69 [(false, [(false, .slice (.str))]), (false, [(false, .slice (.str))])] [(false, [(false, .bool)])] ref08_Texts_un [⟨.slice (.str), x0⟩, ⟨.slice (.str), x1⟩] := congrFun (congrFun (ref08_Texts_ex.choose_spec) x0) x1
noncomputable def ref08_Texts_l0 (y0 : List (ByteArray)) (y1 : List (ByteArray)) (y2 : Int) : Option (Bool) := loopAt ref08_Texts_C 3 69 [(false, [(false, .bool)])] ref08_Texts_un [true, true, false, true, false] (St.ofLists [(0, .fz (Ty.str) y0 false false), (1, .fz (Ty.str) y1 false false), (5, .int .i64 y2)] [] [])
theorem ref08_Texts_eq (x0 : List ByteArray) (x1 : List ByteArray) : ref08_Texts x0 x1 =
  bif ilen x0 != ilen x1
  then some false
  else ref08_Texts_l0 (x0) (x1) (0) := (ref08_Texts_raw x0 x1).trans (by kernel_rfl)
theorem ref08_Texts_l0_eq (y0 : List (ByteArray)) (y1 : List (ByteArray)) (y2 : Int) : ref08_Texts_l0 y0 y1 y2 =
  bif decide (y2 < ilen y0)
  then bif decide (0 ≤ y2)
    then (y0[y2.toNat]?).bind fun val4 =>
      bif decide (0 ≤ y2)
        then (y1[y2.toNat]?).bind fun val8 =>
          bif !ByteArray.toList val4 == ByteArray.toList val8
            then some false
            else ref08_Texts_l0 (y0) (y1) (IntKind.i64.wrap (y2 + 1))
        else none
    else none
  else some true := (loopAt_step _ _ _ _ _ _ _).trans (by kernel_rfl)
noncomputable def ref08_Texts_sig : Sig := { pm := [(false, [(false, .slice (.str))]), (false, [(false, .slice (.str))])], rm := [(false, [(false, .bool)])], f := fun | [⟨.slice (.str), x0⟩, ⟨.slice (.str), x1⟩] => .yes _ (ref08_Texts x0 x1) ref08_Texts_mk | _ => .no }
theorem ref08_Texts_ok : SigOk Try.prog 69 ref08_Texts_sig := by
  refine contract_of (C := ref08_Texts_C) (d := 3) ⟨S40_ok, P33_ok⟩ (callable_ex (by kernel_rfl)) ?_
  intro dvs
  unfold ref08_Texts_sig
  dsimp only
  split
  · refine .inr ⟨_, ref08_Texts_un, ref08_Texts_mk, congrArg (fun o => Cl.yes _ o _) (ref08_Texts_raw _ _), ?_⟩
    intro ds x h
    unfold ref08_Texts_un at h
    split at h
    · cases h; rfl
    · cases h
  · exact .inl rfl
noncomputable def S41 : List (Nat × Sig) := (69, ref08_Texts_sig) :: S40
theorem S41_ok : ListOk Try.prog S41 := ListOk.cons S40_ok ref08_Texts_ok
noncomputable def ref09_Same_C : Cfg := { P := Try.prog, sig := lookSig S41, hb := fun f b =>  bif Nat.beq f 57 && Nat.beq b 0 then some { tmps := [2, 3, 5], obs := [116, 124], nils := [], kl := [124, 116] } else none, hr := fun _ _ => none, ps := lookP P33 }
noncomputable def ref09_Same_un : List DV → Option (Bool) := fun | [⟨.bool, r0⟩] => some r0 | _ => none
noncomputable def ref09_Same_mk : Bool → List DV := fun r0 => [⟨.bool, r0⟩]
theorem ref09_Same_ex : ∃ f : (List ByteArray) → (List Int) → (List ByteArray) → (List Int) → Option (Bool), f = fun (x0 : List ByteArray) (x1 : List Int) (x2 : List ByteArray) (x3 : List Int) => funRun ref09_Same_C 3 57 [(true, [(false, .slice (.str)), (false, .slice (.int .i64))]), (true, [(false, .slice (.str)), (false, .slice (.int .i64))])] [(false, [(false, .bool)])] ref09_Same_un [⟨.slice (.str), x0⟩, ⟨.slice (.int .i64), x1⟩, ⟨.slice (.str), x2⟩, ⟨.slice (.int .i64), x3⟩] := ⟨_, rfl⟩
noncomputable def ref09_Same : (List ByteArray) → (List Int) → (List ByteArray) → (List Int) → Option (Bool) := ref09_Same_ex.choose
theorem ref09_Same_raw (x0 : List ByteArray) (x1 : List Int) (x2 : List ByteArray) (x3 : List Int) : ref09_Same x0 x1 x2 x3 = funRun ref09_Same_C 3 57 [(true, [(false, .slice (.str)), (false, .slice (.int .i64))]), (true, [(false, .slice (.str)), (false, .slice (.int .i64))])] [(false, [(false, .bool)])] ref09_Same_un [⟨.slice (.str), x0⟩, ⟨.slice (.int .i64), x1⟩, ⟨.slice (.str), x2⟩, ⟨.slice (.int .i64), x3⟩] := congrFun (congrFun (congrFun (congrFun (ref09_Same_ex.choose_spec) x0) x1) x2) x3
noncomputable def ref09_Same_l0 (y0 : Int) (y1 : List (ByteArray)) (y2 : List (Int)) (y3 : List (ByteArray)) (y4 : List (Int)) : Option (Bool) := loopAt ref09_Same_C 3 57 [(false, [(false, .bool)])] ref09_Same_un [true, true, false, true, false] (St.ofLists [(2, .ptr 116 0), (3, .ptr 124 0), (5, .int .i64 y0)] [(116, some (.cells [.fz (Ty.str) y1 false false, .fz (Ty.int IntKind.i64) y2 false false])), (124, some (.cells [.fz (Ty.str) y3 false false, .fz (Ty.int IntKind.i64) y4 false false]))] [124, 116])
theorem ref09_Same_eq (x0 : List ByteArray) (x1 : List Int) (x2 : List ByteArray) (x3 : List Int) : ref09_Same x0 x1 x2 x3 =
  (ref08_Texts x0 x2).bind fun val0 =>
  bif !val0
    then some false
    else bif ilen x1 != ilen x3
      then some false
      else ref09_Same_l0 (0) (x0) (x1) (x2) (x3) := (ref09_Same_raw x0 x1 x2 x3).trans (by kernel_rfl)
theorem ref09_Same_l0_eq (y0 : Int) (y1 : List (ByteArray)) (y2 : List (Int)) (y3 : List (ByteArray)) (y4 : List (Int)) : ref09_Same_l0 y0 y1 y2 y3 y4 =
  bif decide (y0 < ilen y2)
  then bif decide (0 ≤ y0)
    then (y2[y0.toNat]?).bind fun val4 =>
      bif decide (0 ≤ y0)
        then (y4[y0.toNat]?).bind fun val8 =>
          bif val4 != val8
            then some false
            else ref09_Same_l0 (IntKind.i64.wrap (y0 + 1)) (y1) (y2) (y3) (y4)
        else none
    else none
  else some true := (loopAt_step _ _ _ _ _ _ _).trans (by kernel_rfl)
noncomputable def ref09_Same_sig : Sig := { pm := [(true, [(false, .slice (.str)), (false, .slice (.int .i64))]), (true, [(false, .slice (.str)), (false, .slice (.int .i64))])], rm := [(false, [(false, .bool)])], f := fun | [⟨.slice (.str), x0⟩, ⟨.slice (.int .i64), x1⟩, ⟨.slice (.str), x2⟩, ⟨.slice (.int .i64), x3⟩] => .yes _ (ref09_Same x0 x1 x2 x3) ref09_Same_mk | _ => .no }
theorem ref09_Same_ok : SigOk Try.prog 57 ref09_Same_sig := by
  refine contract_of (C := ref09_Same_C) (d := 3) ⟨S41_ok, P33_ok⟩ (callable_ex (by kernel_rfl)) ?_
  intro dvs
  unfold ref09_Same_sig
  dsimp only
  split
  · refine .inr ⟨_, ref09_Same_un, ref09_Same_mk, congrArg (fun o => Cl.yes _ o _) (ref09_Same_raw _ _ _ _), ?_⟩
    intro ds x h
    unfold ref09_Same_un at h
    split at h
    · cases h; rfl
    · cases h
  · exact .inl rfl
noncomputable def S42 : List (Nat × Sig) := (57, ref09_Same_sig) :: S41
theorem S42_ok : ListOk Try.prog S42 := ListOk.cons S41_ok ref09_Same_ok
noncomputable def ref24_Same_C : Cfg := { P := Try.prog, sig := lookSig S42, hb := fun _ _ => none, hr := fun _ _ => none, ps := lookP P33 }
noncomputable def ref24_Same_un : List DV → Option (Bool) := fun | [⟨.bool, r0⟩] => some r0 | _ => none
noncomputable def ref24_Same_mk : Bool → List DV := fun r0 => [⟨.bool, r0⟩]
theorem ref24_Same_ex : ∃ f : (Int) → (Int) → (Int) → (ByteArray) → (ByteArray) → (Int) → (List ByteArray) → (List Int) → (Int) → (Int) → (Int) → (Int) → (List Int) → (Int) → (Int) → (Int) → (ByteArray) → (ByteArray) → (Int) → (List ByteArray) → (List Int) → (Int) → (Int) → (Int) → (Int) → (List Int) → Option (Bool), f = fun (x0 : Int) (x1 : Int) (x2 : Int) (x3 : ByteArray) (x4 : ByteArray) (x5 : Int) (x6 : List ByteArray) (x7 : List Int) (x8 : Int) (x9 : Int) (x10 : Int) (x11 : Int) (x12 : List Int) (x13 : Int) (x14 : Int) (x15 : Int) (x16 : ByteArray) (x17 : ByteArray) (x18 : Int) (x19 : List ByteArray) (x20 : List Int) (x21 : Int) (x22 : Int) (x23 : Int) (x24 : Int) (x25 : List Int) => funRun ref24_Same_C 3 18 [(true, [(false, .int .i64), (false, .int .i64), (false, .int .i64), (false, .str), (false, .str), (false, .int .i64), (false, .slice (.str)), (false, .slice (.int .i64)), (false, .int .i64), (false, .int .i64), (false, .int .i64), (false, .int .i64), (false, .slice (.int .u8))]), (true, [(false, .int .i64), (false, .int .i64), (false, .int .i64), (false, .str), (false, .str), (false, .int .i64), (false, .slice (.str)), (false, .slice (.int .i64)), (false, .int .i64), (false, .int .i64), (false, .int .i64), (false, .int .i64), (false, .slice (.int .u8))])] [(false, [(false, .bool)])] ref24_Same_un [⟨.int .i64, x0⟩, ⟨.int .i64, x1⟩, ⟨.int .i64, x2⟩, ⟨.str, x3⟩, ⟨.str, x4⟩, ⟨.int .i64, x5⟩, ⟨.slice (.str), x6⟩, ⟨.slice (.int .i64), x7⟩, ⟨.int .i64, x8⟩, ⟨.int .i64, x9⟩, ⟨.int .i64, x10⟩, ⟨.int .i64, x11⟩, ⟨.slice (.int .u8), x12⟩, ⟨.int .i64, x13⟩, ⟨.int .i64, x14⟩, ⟨.int .i64, x15⟩, ⟨.str, x16⟩, ⟨.str, x17⟩, ⟨.int .i64, x18⟩, ⟨.slice (.str), x19⟩, ⟨.slice (.int .i64), x20⟩, ⟨.int .i64, x21⟩, ⟨.int .i64, x22⟩, ⟨.int .i64, x23⟩, ⟨.int .i64, x24⟩, ⟨.slice (.int .u8), x25⟩] := ⟨_, rfl⟩
noncomputable def ref24_Same : (Int) → (Int) → (Int) → (ByteArray) → (ByteArray) → (Int) → (List ByteArray) → (List Int) → (Int) → (Int) → (Int) → (Int) → (List Int) → (Int) → (Int) → (Int) → (ByteArray) → (ByteArray) → (Int) → (List ByteArray) → (List Int) → (Int) → (Int) → (Int) → (Int) → (List Int) → Option (Bool) := ref24_Same_ex.choose
theorem ref24_Same_raw (x0 : Int) (x1 : Int) (x2 : Int) (x3 : ByteArray) (x4 : ByteArray) (x5 : Int) (x6 : List ByteArray) (x7 : List Int) (x8 : Int) (x9 : Int) (x10 : Int) (x11 : Int) (x12 : List Int) (x13 : Int) (x14 : Int) (x15 : Int) (x16 : ByteArray) (x17 : ByteArray) (x18 : Int) (x19 : List ByteArray) (x20 : List Int) (x21 : Int) (x22 : Int) (x23 : Int) (x24 : Int) (x25 : List Int) : ref24_Same x0 x1 x2 x3 x4 x5 x6 x7 x8 x9 x10 x11 x12 x13 x14 x15 x16 x17 x18 x19 x20 x21 x22 x23 x24 x25 = funRun ref24_Same_C 3 18 [(true, [(false, .int .i64), (false, .int .i64), (false, .int .i64), (false, .str), (false, .str), (false, .int .i64), (false, .slice (.str)), (false, .slice (.int .i64)), (false, .int .i64), (false, .int .i64), (false, .int .i64), (false, .int .i64), (false, .slice (.int .u8))]), (true, [(false, .int .i64), (false, .int .i64), (false, .int .i64), (false, .str), (false, .str), (false, .int .i64), (false, .slice (.str)), (false, .slice (.int .i64)), (false, .int .i64), (false, .int .i64), (false, .int .i64), (false, .int .i64), (false, .slice (.int .u8))])] [(false, [(false, .bool)])] ref24_Same_un [⟨.int .i64, x0⟩, ⟨.int .i64, x1⟩, ⟨.int .i64, x2⟩, ⟨.str, x3⟩, ⟨.str, x4⟩, ⟨.int .i64, x5⟩, ⟨.slice (.str), x6⟩, ⟨.slice (.int .i64), x7⟩, ⟨.int .i64, x8⟩, ⟨.int .i64, x9⟩, ⟨.int .i64, x10⟩, ⟨.int .i64, x11⟩, ⟨.slice (.int .u8), x12⟩, ⟨.int .i64, x13⟩, ⟨.int .i64, x14⟩, ⟨.int .i64, x15⟩, ⟨.str, x16⟩, ⟨.str, x17⟩, ⟨.int .i64, x18⟩, ⟨.slice (.str), x19⟩, ⟨.slice (.int .i64), x20⟩, ⟨.int .i64, x21⟩, ⟨.int .i64, x22⟩, ⟨.int .i64, x23⟩, ⟨.int .i64, x24⟩, ⟨.slice (.int .u8), x25⟩] := congrFun (congrFun (congrFun (congrFun (congrFun (congrFun (congrFun (congrFun (congrFun (congrFun (congrFun (congrFun (congrFun (congrFun (congrFun (congrFun (congrFun (congrFun (congrFun (congrFun (congrFun (congrFun (congrFun (congrFun (congrFun (congrFun (ref24_Same_ex.choose_spec) x0) x1) x2) x3) x4) x5) x6) x7) x8) x9) x10) x11) x12) x13) x14) x15) x16) x17) x18) x19) x20) x21) x22) x23) x24) x25
theorem ref24_Same_eq (x0 : Int) (x1 : Int) (x2 : Int) (x3 : ByteArray) (x4 : ByteArray) (x5 : Int) (x6 : List ByteArray) (x7 : List Int) (x8 : Int) (x9 : Int) (x10 : Int) (x11 : Int) (x12 : List Int) (x13 : Int) (x14 : Int) (x15 : Int) (x16 : ByteArray) (x17 : ByteArray) (x18 : Int) (x19 : List ByteArray) (x20 : List Int) (x21 : Int) (x22 : Int) (x23 : Int) (x24 : Int) (x25 : List Int) : ref24_Same x0 x1 x2 x3 x4 x5 x6 x7 x8 x9 x10 x11 x12 x13 x14 x15 x16 x17 x18 x19 x20 x21 x22 x23 x24 x25 =
  bif x0 != x13
  then some false
  else bif x1 != x14
    then some false
    else bif x2 != x15
      then some false
      else bif !x3.toList == x16.toList
        then some false
        else bif !x4.toList == x17.toList
          then some false
          else bif x5 != x18
            then some false
            else bif x8 != x21
              then some false
              else bif x9 != x22
                then some false
                else bif x10 != x23
                  then some false
                  else bif x11 != x24
                    then some false
                    else (ref09_Same x6 x7 x19 x20).bind fun val20 =>
                      bif val20
                        then some ((strOf x12).toList == (strOf x25).toList)
                        else some false := (ref24_Same_raw x0 x1 x2 x3 x4 x5 x6 x7 x8 x9 x10 x11 x12 x13 x14 x15 x16 x17 x18 x19 x20 x21 x22 x23 x24 x25).trans (by kernel_rfl)
noncomputable def ref24_Same_sig : Sig := { pm := [(true, [(false, .int .i64), (false, .int .i64), (false, .int .i64), (false, .str), (false, .str), (false, .int .i64), (false, .slice (.str)), (false, .slice (.int .i64)), (false, .int .i64), (false, .int .i64), (false, .int .i64), (false, .int .i64), (false, .slice (.int .u8))]), (true, [(false, .int .i64), (false, .int .i64), (false, .int .i64), (false, .str), (false, .str), (false, .int .i64), (false, .slice (.str)), (false, .slice (.int .i64)), (false, .int .i64), (false, .int .i64), (false, .int .i64), (false, .int .i64), (false, .slice (.int .u8))])], rm := [(false, [(false, .bool)])], f := fun | [⟨.int .i64, x0⟩, ⟨.int .i64, x1⟩, ⟨.int .i64, x2⟩, ⟨.str, x3⟩, ⟨.str, x4⟩, ⟨.int .i64, x5⟩, ⟨.slice (.str), x6⟩, ⟨.slice (.int .i64), x7⟩, ⟨.int .i64, x8⟩, ⟨.int .i64, x9⟩, ⟨.int .i64, x10⟩, ⟨.int .i64, x11⟩, ⟨.slice (.int .u8), x12⟩, ⟨.int .i64, x13⟩, ⟨.int .i64, x14⟩, ⟨.int .i64, x15⟩, ⟨.str, x16⟩, ⟨.str, x17⟩, ⟨.int .i64, x18⟩, ⟨.slice (.str), x19⟩, ⟨.slice (.int .i64), x20⟩, ⟨.int .i64, x21⟩, ⟨.int .i64, x22⟩, ⟨.int .i64, x23⟩, ⟨.int .i64, x24⟩, ⟨.slice (.int .u8), x25⟩] => .yes _ (ref24_Same x0 x1 x2 x3 x4 x5 x6 x7 x8 x9 x10 x11 x12 x13 x14 x15 x16 x17 x18 x19 x20 x21 x22 x23 x24 x25) ref24_Same_mk | _ => .no }
theorem ref24_Same_ok : SigOk Try.prog 18 ref24_Same_sig := by
  refine contract_of (C := ref24_Same_C) (d := 3) ⟨S42_ok, P33_ok⟩ (callable_ex (by kernel_rfl)) ?_
  intro dvs
  unfold ref24_Same_sig
  dsimp only
  split
  · refine .inr ⟨_, ref24_Same_un, ref24_Same_mk, congrArg (fun o => Cl.yes _ o _) (ref24_Same_raw _ _ _ _ _ _ _ _ _ _ _ _ _ _ _ _ _ _ _ _ _ _ _ _ _ _), ?_⟩
    intro ds x h
    unfold ref24_Same_un at h
    split at h
    · cases h; rfl
    · cases h
  · exact .inl rfl
noncomputable def S43 : List (Nat × Sig) := (18, ref24_Same_sig) :: S42
theorem S43_ok : ListOk Try.prog S43 := ListOk.cons S42_ok ref24_Same_ok
noncomputable def ref24_has_C : Cfg := { P := Try.prog, sig := lookSig S43, hb := fun f b =>  bif Nat.beq f 30 && Nat.beq b 1 then some { tmps := [1, 5, 6], obs := [], nils := [], kl := [] } else none, hr := fun f b =>  bif Nat.beq f 30 && Nat.beq b 27 then some { tmps := [1, 5], obs := [], nils := [], kl := [] } else none, ps := lookP P33 }
noncomputable def ref24_has_un : List DV → Option (Bool) := fun | [⟨.bool, r0⟩] => some r0 | _ => none
noncomputable def ref24_has_mk : Bool → List DV := fun r0 => [⟨.bool, r0⟩]
theorem ref24_has_ex : ∃ f : (Int) → (Int) → Option (Bool), f = fun (x0 : Int) (x1 : Int) => funRun ref24_has_C 3 30 [(false, [(false, .int .i64)]), (false, [(false, .int .u8)])] [(false, [(false, .bool)])] ref24_has_un [⟨.int .i64, x0⟩, ⟨.int .u8, x1⟩] := ⟨_, rfl⟩
noncomputable def ref24_has : (Int) → (Int) → Option (Bool) := ref24_has_ex.choose
theorem ref24_has_raw (x0 : Int) (x1 : Int) : ref24_has x0 x1 = funRun ref24_has_C 3 30 [(false, [(false, .int .i64)]), (false, [(false, .int .u8)])] [(false, [(false, .bool)])] ref24_has_un [⟨.int .i64, x0⟩, ⟨.int .u8, x1⟩] := congrFun (congrFun (ref24_has_ex.choose_spec) x0) x1
noncomputable def ref24_has_r27 (y0 : Int) (y1 : ByteArray) : Option (Bool) := regAt ref24_has_C 3 30 [(false, [(false, .bool)])] ref24_has_un [true, true, true, false, false] (St.ofLists [(1, .int .u8 y0), (5, .str y1)] [] [])
noncomputable def ref24_has_l1 (y0 : Int) (y1 : ByteArray) (y2 : Int) : Option (Bool) := loopAt ref24_has_C 3 30 [(false, [(false, .bool)])] ref24_has_un [true, true, true, false, true, false] (St.ofLists [(1, .int .u8 y0), (5, .str y1), (6, .int .i64 y2)] [] [])
theorem ref24_has_eq (x0 : Int) (x1 : Int) : ref24_has x0 x1 =
  bif x0 == 1
  then ref24_has_r27 (x1) ((⟨#[116]⟩ : ByteArray))
  else bif x0 == 2
    then ref24_has_r27 (x1) ((⟨#[97, 100]⟩ : ByteArray))
    else bif x0 == 3
      then ref24_has_r27 (x1) ((⟨#[97, 110, 118]⟩ : ByteArray))
      else bif x0 == 4
        then ref24_has_r27 (x1) ((⟨#[97, 110, 107, 118, 99]⟩ : ByteArray))
        else bif x0 == 5
          then ref24_has_r27 (x1) ((⟨#[97, 110, 119, 99, 116]⟩ : ByteArray))
          else bif x0 == 6
            then ref24_has_r27 (x1) ((⟨#[97, 119, 118, 105]⟩ : ByteArray))
            else bif x0 == 7
              then ref24_has_r27 (x1) ((⟨#[97, 119, 105]⟩ : ByteArray))
              else bif x0 == 8
                then ref24_has_r27 (x1) ((⟨#[97, 118, 105, 111]⟩ : ByteArray))
                else bif x0 == 9
                  then ref24_has_r27 (x1) ((⟨#[97, 105, 99]⟩ : ByteArray))
                  else bif x0 == 10
                    then ref24_has_r27 (x1) ((⟨#[97, 105]⟩ : ByteArray))
                    else bif x0 == 11
                      then ref24_has_r27 (x1) ((⟨#[105, 99, 100]⟩ : ByteArray))
                      else bif x0 == 12
                        then ref24_has_r27 (x1) ((⟨#[105, 99]⟩ : ByteArray))
                        else ref24_has_r27 (x1) ((⟨#[]⟩ : ByteArray)) := (ref24_has_raw x0 x1).trans (by kernel_rfl)
theorem ref24_has_r27_eq (y0 : Int) (y1 : ByteArray) : ref24_has_r27 y0 y1 =
  ref24_has_l1 (y0) (y1) (0) := (regAt_step _ _ _ _ _ _ _).trans (by kernel_rfl)
theorem ref24_has_l1_eq (y0 : Int) (y1 : ByteArray) (y2 : Int) : ref24_has_l1 y0 y1 y2 =
  bif decide (y2 < isize y1)
  then bif decide (0 ≤ y2)
    then (y1.data[y2.toNat]?).bind fun val4 =>
      bif (val4.toNat : Int) == y0
        then some true
        else ref24_has_l1 (y0) (y1) (IntKind.i64.wrap (y2 + 1))
    else none
  else some false := (loopAt_step _ _ _ _ _ _ _).trans (by kernel_rfl)
noncomputable def ref24_has_sig : Sig := { pm := [(false, [(false, .int .i64)]), (false, [(false, .int .u8)])], rm := [(false, [(false, .bool)])], f := fun | [⟨.int .i64, x0⟩, ⟨.int .u8, x1⟩] => .yes _ (ref24_has x0 x1) ref24_has_mk | _ => .no }
theorem ref24_has_ok : SigOk Try.prog 30 ref24_has_sig := by
  refine contract_of (C := ref24_has_C) (d := 3) ⟨S43_ok, P33_ok⟩ (callable_ex (by kernel_rfl)) ?_
  intro dvs
  unfold ref24_has_sig
  dsimp only
  split
  · refine .inr ⟨_, ref24_has_un, ref24_has_mk, congrArg (fun o => Cl.yes _ o _) (ref24_has_raw _ _), ?_⟩
    intro ds x h
    unfold ref24_has_un at h
    split at h
    · cases h; rfl
    · cases h
  · exact .inl rfl
noncomputable def S44 : List (Nat × Sig) := (30, ref24_has_sig) :: S43
theorem S44_ok : ListOk Try.prog S44 := ListOk.cons S43_ok ref24_has_ok
noncomputable def ref24_in_C : Cfg := { P := Try.prog, sig := lookSig S44, hb := fun _ _ => none, hr := fun _ _ => none, ps := lookP P33 }
noncomputable def ref24_in_un : List DV → Option (Bool) := fun | [⟨.bool, r0⟩] => some r0 | _ => none
noncomputable def ref24_in_mk : Bool → List DV := fun r0 => [⟨.bool, r0⟩]
theorem ref24_in_ex : ∃ f : (Int) → (Bool) → (Int) → Option (Bool), f = fun (x0 : Int) (x1 : Bool) (x2 : Int) => funRun ref24_in_C 3 29 [(false, [(false, .int .i64)]), (false, [(false, .bool)]), (false, [(false, .int .i64)])] [(false, [(false, .bool)])] ref24_in_un [⟨.int .i64, x0⟩, ⟨.bool, x1⟩, ⟨.int .i64, x2⟩] := ⟨_, rfl⟩
noncomputable def ref24_in : (Int) → (Bool) → (Int) → Option (Bool) := ref24_in_ex.choose
theorem ref24_in_raw (x0 : Int) (x1 : Bool) (x2 : Int) : ref24_in x0 x1 x2 = funRun ref24_in_C 3 29 [(false, [(false, .int .i64)]), (false, [(false, .bool)]), (false, [(false, .int .i64)])] [(false, [(false, .bool)])] ref24_in_un [⟨.int .i64, x0⟩, ⟨.bool, x1⟩, ⟨.int .i64, x2⟩] := congrFun (congrFun (congrFun (ref24_in_ex.choose_spec) x0) x1) x2
theorem ref24_in_eq (x0 : Int) (x1 : Bool) (x2 : Int) : ref24_in x0 x1 x2 =
  bif x1
  then bif decide (x0 ≥ x2)
    then some (decide (x0 ≤ 1099511627776))
    else some false
  else some (x0 == 0) := (ref24_in_raw x0 x1 x2).trans (by kernel_rfl)
noncomputable def ref24_in_sig : Sig := { pm := [(false, [(false, .int .i64)]), (false, [(false, .bool)]), (false, [(false, .int .i64)])], rm := [(false, [(false, .bool)])], f := fun | [⟨.int .i64, x0⟩, ⟨.bool, x1⟩, ⟨.int .i64, x2⟩] => .yes _ (ref24_in x0 x1 x2) ref24_in_mk | _ => .no }
theorem ref24_in_ok : SigOk Try.prog 29 ref24_in_sig := by
  refine contract_of (C := ref24_in_C) (d := 3) ⟨S44_ok, P33_ok⟩ (callable_ex (by kernel_rfl)) ?_
  intro dvs
  unfold ref24_in_sig
  dsimp only
  split
  · refine .inr ⟨_, ref24_in_un, ref24_in_mk, congrArg (fun o => Cl.yes _ o _) (ref24_in_raw _ _ _), ?_⟩
    intro ds x h
    unfold ref24_in_un at h
    split at h
    · cases h; rfl
    · cases h
  · exact .inl rfl
noncomputable def S45 : List (Nat × Sig) := (29, ref24_in_sig) :: S44
theorem S45_ok : ListOk Try.prog S45 := ListOk.cons S44_ok ref24_in_ok
noncomputable def ref24_text_C : Cfg := { P := Try.prog, sig := lookSig S45, hb := fun _ _ => none, hr := fun _ _ => none, ps := lookP P33 }
noncomputable def ref24_text_un : List DV → Option (Bool) := fun | [⟨.bool, r0⟩] => some r0 | _ => none
noncomputable def ref24_text_mk : Bool → List DV := fun r0 => [⟨.bool, r0⟩]
theorem ref24_text_ex : ∃ f : (ByteArray) → (Bool) → Option (Bool), f = fun (x0 : ByteArray) (x1 : Bool) => funRun ref24_text_C 3 31 [(false, [(false, .str)]), (false, [(false, .bool)])] [(false, [(false, .bool)])] ref24_text_un [⟨.str, x0⟩, ⟨.bool, x1⟩] := ⟨_, rfl⟩
noncomputable def ref24_text : (ByteArray) → (Bool) → Option (Bool) := ref24_text_ex.choose
theorem ref24_text_raw (x0 : ByteArray) (x1 : Bool) : ref24_text x0 x1 = funRun ref24_text_C 3 31 [(false, [(false, .str)]), (false, [(false, .bool)])] [(false, [(false, .bool)])] ref24_text_un [⟨.str, x0⟩, ⟨.bool, x1⟩] := congrFun (congrFun (ref24_text_ex.choose_spec) x0) x1
theorem ref24_text_eq (x0 : ByteArray) (x1 : Bool) : ref24_text x0 x1 =
  bif x1
  then (ref02_Name x0).bind fun val2 =>
    some (val2)
  else some (x0.toList == (⟨#[]⟩ : ByteArray).toList) := (ref24_text_raw x0 x1).trans (by kernel_rfl)
noncomputable def ref24_text_sig : Sig := { pm := [(false, [(false, .str)]), (false, [(false, .bool)])], rm := [(false, [(false, .bool)])], f := fun | [⟨.str, x0⟩, ⟨.bool, x1⟩] => .yes _ (ref24_text x0 x1) ref24_text_mk | _ => .no }
theorem ref24_text_ok : SigOk Try.prog 31 ref24_text_sig := by
  refine contract_of (C := ref24_text_C) (d := 3) ⟨S45_ok, P33_ok⟩ (callable_ex (by kernel_rfl)) ?_
  intro dvs
  unfold ref24_text_sig
  dsimp only
  split
  · refine .inr ⟨_, ref24_text_un, ref24_text_mk, congrArg (fun o => Cl.yes _ o _) (ref24_text_raw _ _), ?_⟩
    intro ds x h
    unfold ref24_text_un at h
    split at h
    · cases h; rfl
    · cases h
  · exact .inl rfl
noncomputable def S46 : List (Nat × Sig) := (31, ref24_text_sig) :: S45
theorem S46_ok : ListOk Try.prog S46 := ListOk.cons S45_ok ref24_text_ok
noncomputable def ref24_some_C : Cfg := { P := Try.prog, sig := lookSig S46, hb := fun _ _ => none, hr := fun _ _ => none, ps := lookP P33 }
noncomputable def ref24_some_un : List DV → Option (Int) := fun | [⟨.int .i64, r0⟩] => some r0 | _ => none
noncomputable def ref24_some_mk : Int → List DV := fun r0 => [⟨.int .i64, r0⟩]
theorem ref24_some_ex : ∃ f : (List ByteArray) → (List Int) → (Bool) → Option (Int), f = fun (x0 : List ByteArray) (x1 : List Int) (x2 : Bool) => funRun ref24_some_C 3 32 [(true, [(false, .slice (.str)), (false, .slice (.int .i64))]), (false, [(false, .bool)])] [(false, [(false, .int .i64)])] ref24_some_un [⟨.slice (.str), x0⟩, ⟨.slice (.int .i64), x1⟩, ⟨.bool, x2⟩] := ⟨_, rfl⟩
noncomputable def ref24_some : (List ByteArray) → (List Int) → (Bool) → Option (Int) := ref24_some_ex.choose
theorem ref24_some_raw (x0 : List ByteArray) (x1 : List Int) (x2 : Bool) : ref24_some x0 x1 x2 = funRun ref24_some_C 3 32 [(true, [(false, .slice (.str)), (false, .slice (.int .i64))]), (false, [(false, .bool)])] [(false, [(false, .int .i64)])] ref24_some_un [⟨.slice (.str), x0⟩, ⟨.slice (.int .i64), x1⟩, ⟨.bool, x2⟩] := congrFun (congrFun (congrFun (ref24_some_ex.choose_spec) x0) x1) x2
theorem ref24_some_eq (x0 : List ByteArray) (x1 : List Int) (x2 : Bool) : ref24_some x0 x1 x2 =
  bif !x2
  then bif decide (IntKind.i64.wrap (ilen x0 + ilen x1) > 0)
    then some (1)
    else (ref09_Check x0 x1).bind fun val4 =>
      some (val4)
  else (ref09_Check x0 x1).bind fun val2 =>
    some (val2) := (ref24_some_raw x0 x1 x2).trans (by kernel_rfl)
noncomputable def ref24_some_sig : Sig := { pm := [(true, [(false, .slice (.str)), (false, .slice (.int .i64))]), (false, [(false, .bool)])], rm := [(false, [(false, .int .i64)])], f := fun | [⟨.slice (.str), x0⟩, ⟨.slice (.int .i64), x1⟩, ⟨.bool, x2⟩] => .yes _ (ref24_some x0 x1 x2) ref24_some_mk | _ => .no }
theorem ref24_some_ok : SigOk Try.prog 32 ref24_some_sig := by
  refine contract_of (C := ref24_some_C) (d := 3) ⟨S46_ok, P33_ok⟩ (callable_ex (by kernel_rfl)) ?_
  intro dvs
  unfold ref24_some_sig
  dsimp only
  split
  · refine .inr ⟨_, ref24_some_un, ref24_some_mk, congrArg (fun o => Cl.yes _ o _) (ref24_some_raw _ _ _), ?_⟩
    intro ds x h
    unfold ref24_some_un at h
    split at h
    · cases h; rfl
    · cases h
  · exact .inl rfl
noncomputable def S47 : List (Nat × Sig) := (32, ref24_some_sig) :: S46
theorem S47_ok : ListOk Try.prog S47 := ListOk.cons S46_ok ref24_some_ok
noncomputable def ref24_Check_C : Cfg := { P := Try.prog, sig := lookSig S47, hb := fun _ _ => none, hr := fun _ _ => none, ps := lookP P33 }
noncomputable def ref24_Check_un : List DV → Option (Int) := fun | [⟨.int .i64, r0⟩] => some r0 | _ => none
noncomputable def ref24_Check_mk : Int → List DV := fun r0 => [⟨.int .i64, r0⟩]
theorem ref24_Check_ex : ∃ f : (Int) → (Int) → (Int) → (ByteArray) → (ByteArray) → (Int) → (List ByteArray) → (List Int) → (Int) → (Int) → (Int) → (Int) → (List Int) → Option (Int), f = fun (x0 : Int) (x1 : Int) (x2 : Int) (x3 : ByteArray) (x4 : ByteArray) (x5 : Int) (x6 : List ByteArray) (x7 : List Int) (x8 : Int) (x9 : Int) (x10 : Int) (x11 : Int) (x12 : List Int) => funRun ref24_Check_C 3 9 [(true, [(false, .int .i64), (false, .int .i64), (false, .int .i64), (false, .str), (false, .str), (false, .int .i64), (false, .slice (.str)), (false, .slice (.int .i64)), (false, .int .i64), (false, .int .i64), (false, .int .i64), (false, .int .i64), (false, .slice (.int .u8))])] [(false, [(false, .int .i64)])] ref24_Check_un [⟨.int .i64, x0⟩, ⟨.int .i64, x1⟩, ⟨.int .i64, x2⟩, ⟨.str, x3⟩, ⟨.str, x4⟩, ⟨.int .i64, x5⟩, ⟨.slice (.str), x6⟩, ⟨.slice (.int .i64), x7⟩, ⟨.int .i64, x8⟩, ⟨.int .i64, x9⟩, ⟨.int .i64, x10⟩, ⟨.int .i64, x11⟩, ⟨.slice (.int .u8), x12⟩] := ⟨_, rfl⟩
noncomputable def ref24_Check : (Int) → (Int) → (Int) → (ByteArray) → (ByteArray) → (Int) → (List ByteArray) → (List Int) → (Int) → (Int) → (Int) → (Int) → (List Int) → Option (Int) := ref24_Check_ex.choose
theorem ref24_Check_raw (x0 : Int) (x1 : Int) (x2 : Int) (x3 : ByteArray) (x4 : ByteArray) (x5 : Int) (x6 : List ByteArray) (x7 : List Int) (x8 : Int) (x9 : Int) (x10 : Int) (x11 : Int) (x12 : List Int) : ref24_Check x0 x1 x2 x3 x4 x5 x6 x7 x8 x9 x10 x11 x12 = funRun ref24_Check_C 3 9 [(true, [(false, .int .i64), (false, .int .i64), (false, .int .i64), (false, .str), (false, .str), (false, .int .i64), (false, .slice (.str)), (false, .slice (.int .i64)), (false, .int .i64), (false, .int .i64), (false, .int .i64), (false, .int .i64), (false, .slice (.int .u8))])] [(false, [(false, .int .i64)])] ref24_Check_un [⟨.int .i64, x0⟩, ⟨.int .i64, x1⟩, ⟨.int .i64, x2⟩, ⟨.str, x3⟩, ⟨.str, x4⟩, ⟨.int .i64, x5⟩, ⟨.slice (.str), x6⟩, ⟨.slice (.int .i64), x7⟩, ⟨.int .i64, x8⟩, ⟨.int .i64, x9⟩, ⟨.int .i64, x10⟩, ⟨.int .i64, x11⟩, ⟨.slice (.int .u8), x12⟩] := congrFun (congrFun (congrFun (congrFun (congrFun (congrFun (congrFun (congrFun (congrFun (congrFun (congrFun (congrFun (congrFun (ref24_Check_ex.choose_spec) x0) x1) x2) x3) x4) x5) x6) x7) x8) x9) x10) x11) x12
theorem ref24_Check_eq (x0 : Int) (x1 : Int) (x2 : Int) (x3 : ByteArray) (x4 : ByteArray) (x5 : Int) (x6 : List ByteArray) (x7 : List Int) (x8 : Int) (x9 : Int) (x10 : Int) (x11 : Int) (x12 : List Int) : ref24_Check x0 x1 x2 x3 x4 x5 x6 x7 x8 x9 x10 x11 x12 =
  bif decide (x0 < 1)
  then some (1)
  else bif decide (x0 > 12)
    then some (1)
    else (ref24_has x0 97).bind fun val4 =>
      (ref24_in x1 val4 1).bind fun val6 =>
        bif !val6
          then some (1)
          else (ref24_has x0 97).bind fun val10 =>
            (ref24_in x2 val10 1).bind fun val12 =>
              bif !val12
                then some (1)
                else (ref24_has x0 110).bind fun val16 =>
                  (ref24_text x3 val16).bind fun val18 =>
                    bif !val18
                      then some (1)
                      else (ref24_has x0 119).bind fun val22 =>
                        (ref24_text x4 val22).bind fun val24 =>
                          bif !val24
                            then some (1)
                            else bif x5 != 0
                              then (ref24_has x0 107).bind fun val30 =>
                                bif !val30
                                  then some (1)
                                  else (ref24_has x0 105).bind fun val34 =>
                                    (ref24_in x8 val34 0).bind fun val36 =>
                                      bif !val36
                                        then some (2)
                                        else (ref24_has x0 111).bind fun val40 =>
                                          (ref24_in x9 val40 0).bind fun val42 =>
                                            bif !val42
                                              then some (2)
                                              else (ref24_has x0 99).bind fun val46 =>
                                                (ref24_in x10 val46 0).bind fun val48 =>
                                                  bif !val48
                                                    then some (2)
                                                    else (ref24_has x0 116).bind fun val52 =>
                                                      (ref24_in x11 val52 0).bind fun val54 =>
                                                        bif !val54
                                                          then some (2)
                                                          else bif decide (ilen x12 > 0)
                                                            then (ref24_has x0 100).bind fun val60 =>
                                                              bif !val60
                                                                then some (1)
                                                                else bif decide (ilen x12 > 65536)
                                                                  then some (6)
                                                                  else (ref24_has x0 118).bind fun val66 =>
                                                                    (ref24_some x6 x7 val66).bind fun val68 =>
                                                                      some (val68)
                                                            else bif decide (ilen x12 > 65536)
                                                              then some (6)
                                                              else (ref24_has x0 118).bind fun val62 =>
                                                                (ref24_some x6 x7 val62).bind fun val64 =>
                                                                  some (val64)
                              else (ref24_has x0 105).bind fun val30 =>
                                (ref24_in x8 val30 0).bind fun val32 =>
                                  bif !val32
                                    then some (2)
                                    else (ref24_has x0 111).bind fun val36 =>
                                      (ref24_in x9 val36 0).bind fun val38 =>
                                        bif !val38
                                          then some (2)
                                          else (ref24_has x0 99).bind fun val42 =>
                                            (ref24_in x10 val42 0).bind fun val44 =>
                                              bif !val44
                                                then some (2)
                                                else (ref24_has x0 116).bind fun val48 =>
                                                  (ref24_in x11 val48 0).bind fun val50 =>
                                                    bif !val50
                                                      then some (2)
                                                      else bif decide (ilen x12 > 0)
                                                        then (ref24_has x0 100).bind fun val56 =>
                                                          bif !val56
                                                            then some (1)
                                                            else bif decide (ilen x12 > 65536)
                                                              then some (6)
                                                              else (ref24_has x0 118).bind fun val62 =>
                                                                (ref24_some x6 x7 val62).bind fun val64 =>
                                                                  some (val64)
                                                        else bif decide (ilen x12 > 65536)
                                                          then some (6)
                                                          else (ref24_has x0 118).bind fun val58 =>
                                                            (ref24_some x6 x7 val58).bind fun val60 =>
                                                              some (val60) := (ref24_Check_raw x0 x1 x2 x3 x4 x5 x6 x7 x8 x9 x10 x11 x12).trans (by kernel_rfl)
noncomputable def ref24_Check_sig : Sig := { pm := [(true, [(false, .int .i64), (false, .int .i64), (false, .int .i64), (false, .str), (false, .str), (false, .int .i64), (false, .slice (.str)), (false, .slice (.int .i64)), (false, .int .i64), (false, .int .i64), (false, .int .i64), (false, .int .i64), (false, .slice (.int .u8))])], rm := [(false, [(false, .int .i64)])], f := fun | [⟨.int .i64, x0⟩, ⟨.int .i64, x1⟩, ⟨.int .i64, x2⟩, ⟨.str, x3⟩, ⟨.str, x4⟩, ⟨.int .i64, x5⟩, ⟨.slice (.str), x6⟩, ⟨.slice (.int .i64), x7⟩, ⟨.int .i64, x8⟩, ⟨.int .i64, x9⟩, ⟨.int .i64, x10⟩, ⟨.int .i64, x11⟩, ⟨.slice (.int .u8), x12⟩] => .yes _ (ref24_Check x0 x1 x2 x3 x4 x5 x6 x7 x8 x9 x10 x11 x12) ref24_Check_mk | _ => .no }
theorem ref24_Check_ok : SigOk Try.prog 9 ref24_Check_sig := by
  refine contract_of (C := ref24_Check_C) (d := 3) ⟨S47_ok, P33_ok⟩ (callable_ex (by kernel_rfl)) ?_
  intro dvs
  unfold ref24_Check_sig
  dsimp only
  split
  · refine .inr ⟨_, ref24_Check_un, ref24_Check_mk, congrArg (fun o => Cl.yes _ o _) (ref24_Check_raw _ _ _ _ _ _ _ _ _ _ _ _ _), ?_⟩
    intro ds x h
    unfold ref24_Check_un at h
    split at h
    · cases h; rfl
    · cases h
  · exact .inl rfl
noncomputable def S48 : List (Nat × Sig) := (9, ref24_Check_sig) :: S47
theorem S48_ok : ListOk Try.prog S48 := ListOk.cons S47_ok ref24_Check_ok
noncomputable def ref24_CheckNote_C : Cfg := { P := Try.prog, sig := lookSig S48, hb := fun _ _ => none, hr := fun _ _ => none, ps := lookP P33 }
noncomputable def ref24_CheckNote_un : List DV → Option (Int) := fun | [⟨.int .i64, r0⟩] => some r0 | _ => none
noncomputable def ref24_CheckNote_mk : Int → List DV := fun r0 => [⟨.int .i64, r0⟩]
theorem ref24_CheckNote_ex : ∃ f : (Int) → (Int) → (Int) → (Int) → (ByteArray) → (Int) → (List ByteArray) → (List Int) → Option (Int), f = fun (x0 : Int) (x1 : Int) (x2 : Int) (x3 : Int) (x4 : ByteArray) (x5 : Int) (x6 : List ByteArray) (x7 : List Int) => funRun ref24_CheckNote_C 3 11 [(true, [(false, .int .i64), (false, .int .i64), (false, .int .i64), (false, .int .i64), (false, .str), (false, .int .i64), (false, .slice (.str)), (false, .slice (.int .i64))])] [(false, [(false, .int .i64)])] ref24_CheckNote_un [⟨.int .i64, x0⟩, ⟨.int .i64, x1⟩, ⟨.int .i64, x2⟩, ⟨.int .i64, x3⟩, ⟨.str, x4⟩, ⟨.int .i64, x5⟩, ⟨.slice (.str), x6⟩, ⟨.slice (.int .i64), x7⟩] := ⟨_, rfl⟩
noncomputable def ref24_CheckNote : (Int) → (Int) → (Int) → (Int) → (ByteArray) → (Int) → (List ByteArray) → (List Int) → Option (Int) := ref24_CheckNote_ex.choose
theorem ref24_CheckNote_raw (x0 : Int) (x1 : Int) (x2 : Int) (x3 : Int) (x4 : ByteArray) (x5 : Int) (x6 : List ByteArray) (x7 : List Int) : ref24_CheckNote x0 x1 x2 x3 x4 x5 x6 x7 = funRun ref24_CheckNote_C 3 11 [(true, [(false, .int .i64), (false, .int .i64), (false, .int .i64), (false, .int .i64), (false, .str), (false, .int .i64), (false, .slice (.str)), (false, .slice (.int .i64))])] [(false, [(false, .int .i64)])] ref24_CheckNote_un [⟨.int .i64, x0⟩, ⟨.int .i64, x1⟩, ⟨.int .i64, x2⟩, ⟨.int .i64, x3⟩, ⟨.str, x4⟩, ⟨.int .i64, x5⟩, ⟨.slice (.str), x6⟩, ⟨.slice (.int .i64), x7⟩] := congrFun (congrFun (congrFun (congrFun (congrFun (congrFun (congrFun (congrFun (ref24_CheckNote_ex.choose_spec) x0) x1) x2) x3) x4) x5) x6) x7
theorem ref24_CheckNote_eq (x0 : Int) (x1 : Int) (x2 : Int) (x3 : Int) (x4 : ByteArray) (x5 : Int) (x6 : List ByteArray) (x7 : List Int) : ref24_CheckNote x0 x1 x2 x3 x4 x5 x6 x7 =
  bif decide (x0 < 1)
  then some (1)
  else bif decide (x0 > 3)
    then some (1)
    else (ref24_in x1 true 1).bind fun val4 =>
      bif !val4
        then some (2)
        else (ref24_in x2 (x0 == 1) 1).bind fun val8 =>
          bif !val8
            then some (2)
            else (ref24_in x3 (x0 == 2) 1).bind fun val12 =>
              bif !val12
                then some (2)
                else (ref24_text x4 (x0 == 1)).bind fun val16 =>
                  bif !val16
                    then some (1)
                    else bif x5 != 0
                      then bif !x0 == 1
                        then some (1)
                        else (ref24_some x6 x7 (x0 == 2)).bind fun val24 =>
                          some (val24)
                      else (ref24_some x6 x7 (x0 == 2)).bind fun val22 =>
                        some (val22) := (ref24_CheckNote_raw x0 x1 x2 x3 x4 x5 x6 x7).trans (by kernel_rfl)
noncomputable def ref24_CheckNote_sig : Sig := { pm := [(true, [(false, .int .i64), (false, .int .i64), (false, .int .i64), (false, .int .i64), (false, .str), (false, .int .i64), (false, .slice (.str)), (false, .slice (.int .i64))])], rm := [(false, [(false, .int .i64)])], f := fun | [⟨.int .i64, x0⟩, ⟨.int .i64, x1⟩, ⟨.int .i64, x2⟩, ⟨.int .i64, x3⟩, ⟨.str, x4⟩, ⟨.int .i64, x5⟩, ⟨.slice (.str), x6⟩, ⟨.slice (.int .i64), x7⟩] => .yes _ (ref24_CheckNote x0 x1 x2 x3 x4 x5 x6 x7) ref24_CheckNote_mk | _ => .no }
theorem ref24_CheckNote_ok : SigOk Try.prog 11 ref24_CheckNote_sig := by
  refine contract_of (C := ref24_CheckNote_C) (d := 3) ⟨S48_ok, P33_ok⟩ (callable_ex (by kernel_rfl)) ?_
  intro dvs
  unfold ref24_CheckNote_sig
  dsimp only
  split
  · refine .inr ⟨_, ref24_CheckNote_un, ref24_CheckNote_mk, congrArg (fun o => Cl.yes _ o _) (ref24_CheckNote_raw _ _ _ _ _ _ _ _), ?_⟩
    intro ds x h
    unfold ref24_CheckNote_un at h
    split at h
    · cases h; rfl
    · cases h
  · exact .inl rfl
noncomputable def S49 : List (Nat × Sig) := (11, ref24_CheckNote_sig) :: S48
theorem S49_ok : ListOk Try.prog S49 := ListOk.cons S48_ok ref24_CheckNote_ok
noncomputable def ref19_in_C : Cfg := { P := Try.prog, sig := lookSig S49, hb := fun _ _ => none, hr := fun _ _ => none, ps := lookP P33 }
noncomputable def ref19_in_un : List DV → Option (Bool) := fun | [⟨.bool, r0⟩] => some r0 | _ => none
noncomputable def ref19_in_mk : Bool → List DV := fun r0 => [⟨.bool, r0⟩]
theorem ref19_in_ex : ∃ f : (Int) → (Int) → (Int) → Option (Bool), f = fun (x0 : Int) (x1 : Int) (x2 : Int) => funRun ref19_in_C 3 71 [(false, [(false, .int .i64)]), (false, [(false, .int .i64)]), (false, [(false, .int .i64)])] [(false, [(false, .bool)])] ref19_in_un [⟨.int .i64, x0⟩, ⟨.int .i64, x1⟩, ⟨.int .i64, x2⟩] := ⟨_, rfl⟩
noncomputable def ref19_in : (Int) → (Int) → (Int) → Option (Bool) := ref19_in_ex.choose
theorem ref19_in_raw (x0 : Int) (x1 : Int) (x2 : Int) : ref19_in x0 x1 x2 = funRun ref19_in_C 3 71 [(false, [(false, .int .i64)]), (false, [(false, .int .i64)]), (false, [(false, .int .i64)])] [(false, [(false, .bool)])] ref19_in_un [⟨.int .i64, x0⟩, ⟨.int .i64, x1⟩, ⟨.int .i64, x2⟩] := congrFun (congrFun (congrFun (ref19_in_ex.choose_spec) x0) x1) x2
theorem ref19_in_eq (x0 : Int) (x1 : Int) (x2 : Int) : ref19_in x0 x1 x2 =
  bif decide (x0 ≥ x1)
  then some (decide (x0 ≤ x2))
  else some false := (ref19_in_raw x0 x1 x2).trans (by kernel_rfl)
noncomputable def ref19_in_sig : Sig := { pm := [(false, [(false, .int .i64)]), (false, [(false, .int .i64)]), (false, [(false, .int .i64)])], rm := [(false, [(false, .bool)])], f := fun | [⟨.int .i64, x0⟩, ⟨.int .i64, x1⟩, ⟨.int .i64, x2⟩] => .yes _ (ref19_in x0 x1 x2) ref19_in_mk | _ => .no }
theorem ref19_in_ok : SigOk Try.prog 71 ref19_in_sig := by
  refine contract_of (C := ref19_in_C) (d := 3) ⟨S49_ok, P33_ok⟩ (callable_ex (by kernel_rfl)) ?_
  intro dvs
  unfold ref19_in_sig
  dsimp only
  split
  · refine .inr ⟨_, ref19_in_un, ref19_in_mk, congrArg (fun o => Cl.yes _ o _) (ref19_in_raw _ _ _), ?_⟩
    intro ds x h
    unfold ref19_in_un at h
    split at h
    · cases h; rfl
    · cases h
  · exact .inl rfl
noncomputable def S50 : List (Nat × Sig) := (71, ref19_in_sig) :: S49
theorem S50_ok : ListOk Try.prog S50 := ListOk.cons S49_ok ref19_in_ok
noncomputable def ref19_Job_C : Cfg := { P := Try.prog, sig := lookSig S50, hb := fun _ _ => none, hr := fun _ _ => none, ps := lookP P33 }
noncomputable def ref19_Job_un : List DV → Option (Bool) := fun | [⟨.bool, r0⟩] => some r0 | _ => none
noncomputable def ref19_Job_mk : Bool → List DV := fun r0 => [⟨.bool, r0⟩]
theorem ref19_Job_ex : ∃ f : (Int) → (Int) → (Int) → (ByteArray) → (Int) → (ByteArray) → (Int) → Option (Bool), f = fun (x0 : Int) (x1 : Int) (x2 : Int) (x3 : ByteArray) (x4 : Int) (x5 : ByteArray) (x6 : Int) => funRun ref19_Job_C 3 65 [(true, [(false, .int .i64), (false, .int .i64), (false, .int .i64), (false, .str), (false, .int .i64), (false, .str), (false, .int .i64)])] [(false, [(false, .bool)])] ref19_Job_un [⟨.int .i64, x0⟩, ⟨.int .i64, x1⟩, ⟨.int .i64, x2⟩, ⟨.str, x3⟩, ⟨.int .i64, x4⟩, ⟨.str, x5⟩, ⟨.int .i64, x6⟩] := ⟨_, rfl⟩
noncomputable def ref19_Job : (Int) → (Int) → (Int) → (ByteArray) → (Int) → (ByteArray) → (Int) → Option (Bool) := ref19_Job_ex.choose
theorem ref19_Job_raw (x0 : Int) (x1 : Int) (x2 : Int) (x3 : ByteArray) (x4 : Int) (x5 : ByteArray) (x6 : Int) : ref19_Job x0 x1 x2 x3 x4 x5 x6 = funRun ref19_Job_C 3 65 [(true, [(false, .int .i64), (false, .int .i64), (false, .int .i64), (false, .str), (false, .int .i64), (false, .str), (false, .int .i64)])] [(false, [(false, .bool)])] ref19_Job_un [⟨.int .i64, x0⟩, ⟨.int .i64, x1⟩, ⟨.int .i64, x2⟩, ⟨.str, x3⟩, ⟨.int .i64, x4⟩, ⟨.str, x5⟩, ⟨.int .i64, x6⟩] := congrFun (congrFun (congrFun (congrFun (congrFun (congrFun (congrFun (ref19_Job_ex.choose_spec) x0) x1) x2) x3) x4) x5) x6
theorem ref19_Job_eq (x0 : Int) (x1 : Int) (x2 : Int) (x3 : ByteArray) (x4 : Int) (x5 : ByteArray) (x6 : Int) : ref19_Job x0 x1 x2 x3 x4 x5 x6 =
  (ref19_in x0 1 1099511627776).bind fun val0 =>
  bif !val0
    then some false
    else (ref19_in x1 1 1099511627776).bind fun val4 =>
      bif !val4
        then some false
        else (ref19_in x2 1 1099511627776).bind fun val8 =>
          bif !val8
            then some false
            else (ref19_in x4 0 9).bind fun val12 =>
              bif !val12
                then some false
                else (ref19_in x6 0 1099511627776).bind fun val16 =>
                  bif !val16
                    then some false
                    else (ref02_Name x3).bind fun val20 =>
                      bif !val20
                        then some false
                        else bif x5.toList == (⟨#[]⟩ : ByteArray).toList
                          then some (x6 == 0)
                          else (ref02_Name x5).bind fun val26 =>
                            bif val26
                              then some (decide (x4 > 0))
                              else some false := (ref19_Job_raw x0 x1 x2 x3 x4 x5 x6).trans (by kernel_rfl)
noncomputable def ref19_Job_sig : Sig := { pm := [(true, [(false, .int .i64), (false, .int .i64), (false, .int .i64), (false, .str), (false, .int .i64), (false, .str), (false, .int .i64)])], rm := [(false, [(false, .bool)])], f := fun | [⟨.int .i64, x0⟩, ⟨.int .i64, x1⟩, ⟨.int .i64, x2⟩, ⟨.str, x3⟩, ⟨.int .i64, x4⟩, ⟨.str, x5⟩, ⟨.int .i64, x6⟩] => .yes _ (ref19_Job x0 x1 x2 x3 x4 x5 x6) ref19_Job_mk | _ => .no }
theorem ref19_Job_ok : SigOk Try.prog 65 ref19_Job_sig := by
  refine contract_of (C := ref19_Job_C) (d := 3) ⟨S50_ok, P33_ok⟩ (callable_ex (by kernel_rfl)) ?_
  intro dvs
  unfold ref19_Job_sig
  dsimp only
  split
  · refine .inr ⟨_, ref19_Job_un, ref19_Job_mk, congrArg (fun o => Cl.yes _ o _) (ref19_Job_raw _ _ _ _ _ _ _), ?_⟩
    intro ds x h
    unfold ref19_Job_un at h
    split at h
    · cases h; rfl
    · cases h
  · exact .inl rfl
noncomputable def S51 : List (Nat × Sig) := (65, ref19_Job_sig) :: S50
theorem S51_ok : ListOk Try.prog S51 := ListOk.cons S50_ok ref19_Job_ok
noncomputable def ref19_Check_C : Cfg := { P := Try.prog, sig := lookSig S51, hb := fun f b =>  bif Nat.beq f 34 && Nat.beq b 0 then some { tmps := [0, 3], obs := [], nils := [], kl := [] } else none, hr := fun _ _ => none, ps := lookP P33 }
noncomputable def ref19_Check_un : List DV → Option (Int) := fun | [⟨.int .i64, r0⟩] => some r0 | _ => none
noncomputable def ref19_Check_mk : Int → List DV := fun r0 => [⟨.int .i64, r0⟩]
theorem ref19_Check_ex : ∃ f : (List (Int × Int × Int × ByteArray × Int × ByteArray × Int)) → Option (Int), f = fun (x0 : List (Int × Int × Int × ByteArray × Int × ByteArray × Int)) => funRun ref19_Check_C 3 34 [(false, [(false, .slice (.pair (.int .i64) (.pair (.int .i64) (.pair (.int .i64) (.pair (.str) (.pair (.int .i64) (.pair (.str) (.int .i64))))))))])] [(false, [(false, .int .i64)])] ref19_Check_un [⟨.slice (.pair (.int .i64) (.pair (.int .i64) (.pair (.int .i64) (.pair (.str) (.pair (.int .i64) (.pair (.str) (.int .i64))))))), x0⟩] := ⟨_, rfl⟩
noncomputable def ref19_Check : (List (Int × Int × Int × ByteArray × Int × ByteArray × Int)) → Option (Int) := ref19_Check_ex.choose
theorem ref19_Check_raw (x0 : List (Int × Int × Int × ByteArray × Int × ByteArray × Int)) : ref19_Check x0 = funRun ref19_Check_C 3 34 [(false, [(false, .slice (.pair (.int .i64) (.pair (.int .i64) (.pair (.int .i64) (.pair (.str) (.pair (.int .i64) (.pair (.str) (.int .i64))))))))])] [(false, [(false, .int .i64)])] ref19_Check_un [⟨.slice (.pair (.int .i64) (.pair (.int .i64) (.pair (.int .i64) (.pair (.str) (.pair (.int .i64) (.pair (.str) (.int .i64))))))), x0⟩] := congrFun (ref19_Check_ex.choose_spec) x0
noncomputable def ref19_Check_l0 (y0 : List ((Int) × ((Int) × ((Int) × ((ByteArray) × ((Int) × ((ByteArray) × (Int)))))))) (y1 : Int) : Option (Int) := loopAt ref19_Check_C 3 34 [(false, [(false, .int .i64)])] ref19_Check_un [true, false, true, false] (St.ofLists [(0, .fz ((Ty.int IntKind.i64).pair ((Ty.int IntKind.i64).pair ((Ty.int IntKind.i64).pair (Ty.str.pair ((Ty.int IntKind.i64).pair (Ty.str.pair (Ty.int IntKind.i64))))))) y0 false false), (3, .int .i64 y1)] [] [])
theorem ref19_Check_eq (x0 : List (Int × Int × Int × ByteArray × Int × ByteArray × Int)) : ref19_Check x0 =
  ref19_Check_l0 (x0) (0) := (ref19_Check_raw x0).trans (by kernel_rfl)
theorem ref19_Check_l0_eq (y0 : List ((Int) × ((Int) × ((Int) × ((ByteArray) × ((Int) × ((ByteArray) × (Int)))))))) (y1 : Int) : ref19_Check_l0 y0 y1 =
  bif decide (y1 < ilen y0)
  then bif decide (0 ≤ y1)
    then (y0[y1.toNat]?).bind fun val4 =>
      (ref19_Job val4.fst val4.snd.fst val4.snd.snd.fst val4.snd.snd.snd.fst val4.snd.snd.snd.snd.fst val4.snd.snd.snd.snd.snd.fst val4.snd.snd.snd.snd.snd.snd).bind fun val6 =>
        bif !val6
          then some (1)
          else bif decide (y1 > 0)
            then bif decide (0 ≤ IntKind.i64.wrap (y1 - 1))
              then (y0[(IntKind.i64.wrap (y1 - 1)).toNat]?).bind fun val14 =>
                bif decide (0 ≤ y1)
                  then (y0[y1.toNat]?).bind fun val18 =>
                    bif decide (val14.fst ≥ val18.fst)
                      then some (1)
                      else ref19_Check_l0 (y0) (IntKind.i64.wrap (y1 + 1))
                  else none
              else none
            else ref19_Check_l0 (y0) (IntKind.i64.wrap (y1 + 1))
    else none
  else some (0) := (loopAt_step _ _ _ _ _ _ _).trans (by kernel_rfl)
noncomputable def ref19_Check_sig : Sig := { pm := [(false, [(false, .slice (.pair (.int .i64) (.pair (.int .i64) (.pair (.int .i64) (.pair (.str) (.pair (.int .i64) (.pair (.str) (.int .i64))))))))])], rm := [(false, [(false, .int .i64)])], f := fun | [⟨.slice (.pair (.int .i64) (.pair (.int .i64) (.pair (.int .i64) (.pair (.str) (.pair (.int .i64) (.pair (.str) (.int .i64))))))), x0⟩] => .yes _ (ref19_Check x0) ref19_Check_mk | _ => .no }
theorem ref19_Check_ok : SigOk Try.prog 34 ref19_Check_sig := by
  refine contract_of (C := ref19_Check_C) (d := 3) ⟨S51_ok, P33_ok⟩ (callable_ex (by kernel_rfl)) ?_
  intro dvs
  unfold ref19_Check_sig
  dsimp only
  split
  · refine .inr ⟨_, ref19_Check_un, ref19_Check_mk, congrArg (fun o => Cl.yes _ o _) (ref19_Check_raw _), ?_⟩
    intro ds x h
    unfold ref19_Check_un at h
    split at h
    · cases h; rfl
    · cases h
  · exact .inl rfl
noncomputable def S52 : List (Nat × Sig) := (34, ref19_Check_sig) :: S51
theorem S52_ok : ListOk Try.prog S52 := ListOk.cons S51_ok ref19_Check_ok
noncomputable def ref24_CheckReply_C : Cfg := { P := Try.prog, sig := lookSig S52, hb := fun _ _ => none, hr := fun _ _ => none, ps := lookP P33 }
noncomputable def ref24_CheckReply_un : List DV → Option (Int) := fun | [⟨.int .i64, r0⟩] => some r0 | _ => none
noncomputable def ref24_CheckReply_mk : Int → List DV := fun r0 => [⟨.int .i64, r0⟩]
theorem ref24_CheckReply_ex : ∃ f : (Int) → (Int) → (Int) → (Int) → (List (Int × Int × Int × ByteArray × Int × ByteArray × Int)) → Option (Int), f = fun (x0 : Int) (x1 : Int) (x2 : Int) (x3 : Int) (x4 : List (Int × Int × Int × ByteArray × Int × ByteArray × Int)) => funRun ref24_CheckReply_C 3 13 [(true, [(false, .int .i64), (false, .int .i64), (false, .int .i64), (false, .int .i64), (false, .slice (.pair (.int .i64) (.pair (.int .i64) (.pair (.int .i64) (.pair (.str) (.pair (.int .i64) (.pair (.str) (.int .i64))))))))])] [(false, [(false, .int .i64)])] ref24_CheckReply_un [⟨.int .i64, x0⟩, ⟨.int .i64, x1⟩, ⟨.int .i64, x2⟩, ⟨.int .i64, x3⟩, ⟨.slice (.pair (.int .i64) (.pair (.int .i64) (.pair (.int .i64) (.pair (.str) (.pair (.int .i64) (.pair (.str) (.int .i64))))))), x4⟩] := ⟨_, rfl⟩
noncomputable def ref24_CheckReply : (Int) → (Int) → (Int) → (Int) → (List (Int × Int × Int × ByteArray × Int × ByteArray × Int)) → Option (Int) := ref24_CheckReply_ex.choose
theorem ref24_CheckReply_raw (x0 : Int) (x1 : Int) (x2 : Int) (x3 : Int) (x4 : List (Int × Int × Int × ByteArray × Int × ByteArray × Int)) : ref24_CheckReply x0 x1 x2 x3 x4 = funRun ref24_CheckReply_C 3 13 [(true, [(false, .int .i64), (false, .int .i64), (false, .int .i64), (false, .int .i64), (false, .slice (.pair (.int .i64) (.pair (.int .i64) (.pair (.int .i64) (.pair (.str) (.pair (.int .i64) (.pair (.str) (.int .i64))))))))])] [(false, [(false, .int .i64)])] ref24_CheckReply_un [⟨.int .i64, x0⟩, ⟨.int .i64, x1⟩, ⟨.int .i64, x2⟩, ⟨.int .i64, x3⟩, ⟨.slice (.pair (.int .i64) (.pair (.int .i64) (.pair (.int .i64) (.pair (.str) (.pair (.int .i64) (.pair (.str) (.int .i64))))))), x4⟩] := congrFun (congrFun (congrFun (congrFun (congrFun (ref24_CheckReply_ex.choose_spec) x0) x1) x2) x3) x4
theorem ref24_CheckReply_eq (x0 : Int) (x1 : Int) (x2 : Int) (x3 : Int) (x4 : List (Int × Int × Int × ByteArray × Int × ByteArray × Int)) : ref24_CheckReply x0 x1 x2 x3 x4 =
  (ref24_in x0 true 0).bind fun val0 =>
  bif !val0
    then some (1)
    else (ref24_in x1 true 0).bind fun val4 =>
      bif !val4
        then some (1)
        else (ref24_in x3 true 0).bind fun val8 =>
          bif !val8
            then some (1)
            else bif decide (x2 < 0)
              then some (1)
              else bif decide (x2 > 17)
                then some (1)
                else bif decide (ilen x4 > 8)
                  then some (1)
                  else (ref19_Check x4).bind fun val18 =>
                    some (val18) := (ref24_CheckReply_raw x0 x1 x2 x3 x4).trans (by kernel_rfl)
noncomputable def ref24_CheckReply_sig : Sig := { pm := [(true, [(false, .int .i64), (false, .int .i64), (false, .int .i64), (false, .int .i64), (false, .slice (.pair (.int .i64) (.pair (.int .i64) (.pair (.int .i64) (.pair (.str) (.pair (.int .i64) (.pair (.str) (.int .i64))))))))])], rm := [(false, [(false, .int .i64)])], f := fun | [⟨.int .i64, x0⟩, ⟨.int .i64, x1⟩, ⟨.int .i64, x2⟩, ⟨.int .i64, x3⟩, ⟨.slice (.pair (.int .i64) (.pair (.int .i64) (.pair (.int .i64) (.pair (.str) (.pair (.int .i64) (.pair (.str) (.int .i64))))))), x4⟩] => .yes _ (ref24_CheckReply x0 x1 x2 x3 x4) ref24_CheckReply_mk | _ => .no }
theorem ref24_CheckReply_ok : SigOk Try.prog 13 ref24_CheckReply_sig := by
  refine contract_of (C := ref24_CheckReply_C) (d := 3) ⟨S52_ok, P33_ok⟩ (callable_ex (by kernel_rfl)) ?_
  intro dvs
  unfold ref24_CheckReply_sig
  dsimp only
  split
  · refine .inr ⟨_, ref24_CheckReply_un, ref24_CheckReply_mk, congrArg (fun o => Cl.yes _ o _) (ref24_CheckReply_raw _ _ _ _ _), ?_⟩
    intro ds x h
    unfold ref24_CheckReply_un at h
    split at h
    · cases h; rfl
    · cases h
  · exact .inl rfl
noncomputable def S53 : List (Nat × Sig) := (13, ref24_CheckReply_sig) :: S52
theorem S53_ok : ListOk Try.prog S53 := ListOk.cons S52_ok ref24_CheckReply_ok
noncomputable def ref02_Uint_C : Cfg := { P := Try.prog, sig := lookSig S53, hb := fun f b =>  bif Nat.beq f 66 && Nat.beq b 0 then some { tmps := [3, 4], obs := [60], nils := [(3, 60, (.int .u8))], kl := [212, 204, 60] } else none, hr := fun _ _ => none, ps := lookP P33 }
noncomputable def ref02_Uint_un : List DV → Option ((List Int)) := fun | [⟨.slice (.int .u8), r0⟩] => some r0 | _ => none
noncomputable def ref02_Uint_mk : (List Int) → List DV := fun r0 => [⟨.slice (.int .u8), r0⟩]
theorem ref02_Uint_ex : ∃ f : (Int) → Option ((List Int)), f = fun (x0 : Int) => funRun ref02_Uint_C 3 66 [(false, [(false, .int .u64)])] [(false, [(true, .slice (.int .u8))])] ref02_Uint_un [⟨.int .u64, x0⟩] := ⟨_, rfl⟩
noncomputable def ref02_Uint : (Int) → Option ((List Int)) := ref02_Uint_ex.choose
theorem ref02_Uint_raw (x0 : Int) : ref02_Uint x0 = funRun ref02_Uint_C 3 66 [(false, [(false, .int .u64)])] [(false, [(true, .slice (.int .u8))])] ref02_Uint_un [⟨.int .u64, x0⟩] := congrFun (ref02_Uint_ex.choose_spec) x0
noncomputable def ref02_Uint_l0 (y0 : Int) (y1 : List (Int)) : Option ((List Int)) := loopAt ref02_Uint_C 3 66 [(false, [(true, .slice (.int .u8))])] ref02_Uint_un [true, true, true, false, false] (St.ofLists [(3, .ow 60), (4, .int .u64 y0)] [(60, some (.row (Ty.int IntKind.u8) y1 0 false))] [212, 204, 60])
theorem ref02_Uint_eq (x0 : Int) : ref02_Uint x0 =
  ref02_Uint_l0 (x0) ([]) := (ref02_Uint_raw x0).trans (by kernel_rfl)
theorem ref02_Uint_l0_eq (y0 : Int) (y1 : List (Int)) : ref02_Uint_l0 y0 y1 =
  bif decide (y0 > 127)
  then bif decide ((ilen y1 + ilen [IntKind.u8.wrap (IntKind.u64.wrap (128 + y0.tmod 128))]) * 1 ≤ room)
    then ref02_Uint_l0 (IntKind.u64.wrap (y0.tdiv 128)) (y1 ++ [IntKind.u8.wrap (IntKind.u64.wrap (128 + y0.tmod 128))])
    else none
  else bif decide ((ilen y1 + ilen [IntKind.u8.wrap y0]) * 1 ≤ room)
    then some (y1 ++ [IntKind.u8.wrap y0])
    else none := (loopAt_step _ _ _ _ _ _ _).trans (by kernel_rfl)
noncomputable def ref02_Uint_sig : Sig := { pm := [(false, [(false, .int .u64)])], rm := [(false, [(true, .slice (.int .u8))])], f := fun | [⟨.int .u64, x0⟩] => .yes _ (ref02_Uint x0) ref02_Uint_mk | _ => .no }
theorem ref02_Uint_ok : SigOk Try.prog 66 ref02_Uint_sig := by
  refine contract_of (C := ref02_Uint_C) (d := 3) ⟨S53_ok, P33_ok⟩ (callable_ex (by kernel_rfl)) ?_
  intro dvs
  unfold ref02_Uint_sig
  dsimp only
  split
  · refine .inr ⟨_, ref02_Uint_un, ref02_Uint_mk, congrArg (fun o => Cl.yes _ o _) (ref02_Uint_raw _), ?_⟩
    intro ds x h
    unfold ref02_Uint_un at h
    split at h
    · cases h; rfl
    · cases h
  · exact .inl rfl
noncomputable def S54 : List (Nat × Sig) := (66, ref02_Uint_sig) :: S53
theorem S54_ok : ListOk Try.prog S54 := ListOk.cons S53_ok ref02_Uint_ok
noncomputable def ref24_num_C : Cfg := { P := Try.prog, sig := lookSig S54, hb := fun _ _ => none, hr := fun _ _ => none, ps := lookP P33 }
noncomputable def ref24_num_un : List DV → Option ((List Int)) := fun | [⟨.slice (.int .u8), r0⟩] => some r0 | _ => none
noncomputable def ref24_num_mk : (List Int) → List DV := fun r0 => [⟨.slice (.int .u8), r0⟩]
theorem ref24_num_ex : ∃ f : (Int) → (Bool) → Option ((List Int)), f = fun (x0 : Int) (x1 : Bool) => funRun ref24_num_C 3 40 [(false, [(false, .int .i64)]), (false, [(false, .bool)])] [(false, [(true, .slice (.int .u8))])] ref24_num_un [⟨.int .i64, x0⟩, ⟨.bool, x1⟩] := ⟨_, rfl⟩
noncomputable def ref24_num : (Int) → (Bool) → Option ((List Int)) := ref24_num_ex.choose
theorem ref24_num_raw (x0 : Int) (x1 : Bool) : ref24_num x0 x1 = funRun ref24_num_C 3 40 [(false, [(false, .int .i64)]), (false, [(false, .bool)])] [(false, [(true, .slice (.int .u8))])] ref24_num_un [⟨.int .i64, x0⟩, ⟨.bool, x1⟩] := congrFun (congrFun (ref24_num_ex.choose_spec) x0) x1
theorem ref24_num_eq (x0 : Int) (x1 : Bool) : ref24_num x0 x1 =
  bif !x1
  then some ([])
  else (ref02_Uint (IntKind.u64.wrap x0)).bind fun val2 =>
    some (val2) := (ref24_num_raw x0 x1).trans (by kernel_rfl)
noncomputable def ref24_num_sig : Sig := { pm := [(false, [(false, .int .i64)]), (false, [(false, .bool)])], rm := [(false, [(true, .slice (.int .u8))])], f := fun | [⟨.int .i64, x0⟩, ⟨.bool, x1⟩] => .yes _ (ref24_num x0 x1) ref24_num_mk | _ => .no }
theorem ref24_num_ok : SigOk Try.prog 40 ref24_num_sig := by
  refine contract_of (C := ref24_num_C) (d := 3) ⟨S54_ok, P33_ok⟩ (callable_ex (by kernel_rfl)) ?_
  intro dvs
  unfold ref24_num_sig
  dsimp only
  split
  · refine .inr ⟨_, ref24_num_un, ref24_num_mk, congrArg (fun o => Cl.yes _ o _) (ref24_num_raw _ _), ?_⟩
    intro ds x h
    unfold ref24_num_un at h
    split at h
    · cases h; rfl
    · cases h
  · exact .inl rfl
noncomputable def S55 : List (Nat × Sig) := (40, ref24_num_sig) :: S54
theorem S55_ok : ListOk Try.prog S55 := ListOk.cons S54_ok ref24_num_ok
noncomputable def ref02_Bytes_C : Cfg := { P := Try.prog, sig := lookSig S55, hb := fun _ _ => none, hr := fun _ _ => none, ps := lookP P33 }
noncomputable def ref02_Bytes_un : List DV → Option ((List Int)) := fun | [⟨.slice (.int .u8), r0⟩] => some r0 | _ => none
noncomputable def ref02_Bytes_mk : (List Int) → List DV := fun r0 => [⟨.slice (.int .u8), r0⟩]
theorem ref02_Bytes_ex : ∃ f : (List Int) → Option ((List Int)), f = fun (x0 : List Int) => funRun ref02_Bytes_C 3 67 [(false, [(false, .slice (.int .u8))])] [(false, [(true, .slice (.int .u8))])] ref02_Bytes_un [⟨.slice (.int .u8), x0⟩] := ⟨_, rfl⟩
noncomputable def ref02_Bytes : (List Int) → Option ((List Int)) := ref02_Bytes_ex.choose
theorem ref02_Bytes_raw (x0 : List Int) : ref02_Bytes x0 = funRun ref02_Bytes_C 3 67 [(false, [(false, .slice (.int .u8))])] [(false, [(true, .slice (.int .u8))])] ref02_Bytes_un [⟨.slice (.int .u8), x0⟩] := congrFun (ref02_Bytes_ex.choose_spec) x0
theorem ref02_Bytes_eq (x0 : List Int) : ref02_Bytes x0 =
  (ref02_Uint (IntKind.u64.wrap (ilen x0))).bind fun val0 =>
  bif decide ((ilen val0 + ilen x0) * 1 ≤ room)
    then some (val0 ++ x0)
    else none := (ref02_Bytes_raw x0).trans (by kernel_rfl)
noncomputable def ref02_Bytes_sig : Sig := { pm := [(false, [(false, .slice (.int .u8))])], rm := [(false, [(true, .slice (.int .u8))])], f := fun | [⟨.slice (.int .u8), x0⟩] => .yes _ (ref02_Bytes x0) ref02_Bytes_mk | _ => .no }
theorem ref02_Bytes_ok : SigOk Try.prog 67 ref02_Bytes_sig := by
  refine contract_of (C := ref02_Bytes_C) (d := 3) ⟨S55_ok, P33_ok⟩ (callable_ex (by kernel_rfl)) ?_
  intro dvs
  unfold ref02_Bytes_sig
  dsimp only
  split
  · refine .inr ⟨_, ref02_Bytes_un, ref02_Bytes_mk, congrArg (fun o => Cl.yes _ o _) (ref02_Bytes_raw _), ?_⟩
    intro ds x h
    unfold ref02_Bytes_un at h
    split at h
    · cases h; rfl
    · cases h
  · exact .inl rfl
noncomputable def S56 : List (Nat × Sig) := (67, ref02_Bytes_sig) :: S55
theorem S56_ok : ListOk Try.prog S56 := ListOk.cons S55_ok ref02_Bytes_ok
noncomputable def ref24_word_C : Cfg := { P := Try.prog, sig := lookSig S56, hb := fun _ _ => none, hr := fun _ _ => none, ps := lookP P33 }
noncomputable def ref24_word_un : List DV → Option ((List Int)) := fun | [⟨.slice (.int .u8), r0⟩] => some r0 | _ => none
noncomputable def ref24_word_mk : (List Int) → List DV := fun r0 => [⟨.slice (.int .u8), r0⟩]
theorem ref24_word_ex : ∃ f : (ByteArray) → (Bool) → Option ((List Int)), f = fun (x0 : ByteArray) (x1 : Bool) => funRun ref24_word_C 3 41 [(false, [(false, .str)]), (false, [(false, .bool)])] [(false, [(true, .slice (.int .u8))])] ref24_word_un [⟨.str, x0⟩, ⟨.bool, x1⟩] := ⟨_, rfl⟩
noncomputable def ref24_word : (ByteArray) → (Bool) → Option ((List Int)) := ref24_word_ex.choose
theorem ref24_word_raw (x0 : ByteArray) (x1 : Bool) : ref24_word x0 x1 = funRun ref24_word_C 3 41 [(false, [(false, .str)]), (false, [(false, .bool)])] [(false, [(true, .slice (.int .u8))])] ref24_word_un [⟨.str, x0⟩, ⟨.bool, x1⟩] := congrFun (congrFun (ref24_word_ex.choose_spec) x0) x1
theorem ref24_word_eq (x0 : ByteArray) (x1 : Bool) : ref24_word x0 x1 =
  bif !x1
  then some ([])
  else (ref02_Bytes (bytesList x0)).bind fun val2 =>
    some (val2) := (ref24_word_raw x0 x1).trans (by kernel_rfl)
noncomputable def ref24_word_sig : Sig := { pm := [(false, [(false, .str)]), (false, [(false, .bool)])], rm := [(false, [(true, .slice (.int .u8))])], f := fun | [⟨.str, x0⟩, ⟨.bool, x1⟩] => .yes _ (ref24_word x0 x1) ref24_word_mk | _ => .no }
theorem ref24_word_ok : SigOk Try.prog 41 ref24_word_sig := by
  refine contract_of (C := ref24_word_C) (d := 3) ⟨S56_ok, P33_ok⟩ (callable_ex (by kernel_rfl)) ?_
  intro dvs
  unfold ref24_word_sig
  dsimp only
  split
  · refine .inr ⟨_, ref24_word_un, ref24_word_mk, congrArg (fun o => Cl.yes _ o _) (ref24_word_raw _ _), ?_⟩
    intro ds x h
    unfold ref24_word_un at h
    split at h
    · cases h; rfl
    · cases h
  · exact .inl rfl
noncomputable def S57 : List (Nat × Sig) := (41, ref24_word_sig) :: S56
theorem S57_ok : ListOk Try.prog S57 := ListOk.cons S56_ok ref24_word_ok
noncomputable def ref02_Int_C : Cfg := { P := Try.prog, sig := lookSig S57, hb := fun _ _ => none, hr := fun _ _ => none, ps := lookP P33 }
noncomputable def ref02_Int_un : List DV → Option ((List Int)) := fun | [⟨.slice (.int .u8), r0⟩] => some r0 | _ => none
noncomputable def ref02_Int_mk : (List Int) → List DV := fun r0 => [⟨.slice (.int .u8), r0⟩]
theorem ref02_Int_ex : ∃ f : (Int) → Option ((List Int)), f = fun (x0 : Int) => funRun ref02_Int_C 3 42 [(false, [(false, .int .i64)])] [(false, [(true, .slice (.int .u8))])] ref02_Int_un [⟨.int .i64, x0⟩] := ⟨_, rfl⟩
noncomputable def ref02_Int : (Int) → Option ((List Int)) := ref02_Int_ex.choose
theorem ref02_Int_raw (x0 : Int) : ref02_Int x0 = funRun ref02_Int_C 3 42 [(false, [(false, .int .i64)])] [(false, [(true, .slice (.int .u8))])] ref02_Int_un [⟨.int .i64, x0⟩] := congrFun (ref02_Int_ex.choose_spec) x0
theorem ref02_Int_eq (x0 : Int) : ref02_Int x0 =
  bif decide (x0 ≥ 0)
  then (ref02_Uint (IntKind.u64.wrap (IntKind.u64.wrap x0 * 2))).bind fun val2 =>
    some (val2)
  else (ref02_Uint (IntKind.u64.wrap (IntKind.u64.wrap (IntKind.u64.wrap (IntKind.i64.wrap (0 - IntKind.i64.wrap (x0 + 1))) * 2) + 1))).bind fun val2 =>
    some (val2) := (ref02_Int_raw x0).trans (by kernel_rfl)
noncomputable def ref02_Int_sig : Sig := { pm := [(false, [(false, .int .i64)])], rm := [(false, [(true, .slice (.int .u8))])], f := fun | [⟨.int .i64, x0⟩] => .yes _ (ref02_Int x0) ref02_Int_mk | _ => .no }
theorem ref02_Int_ok : SigOk Try.prog 42 ref02_Int_sig := by
  refine contract_of (C := ref02_Int_C) (d := 3) ⟨S57_ok, P33_ok⟩ (callable_ex (by kernel_rfl)) ?_
  intro dvs
  unfold ref02_Int_sig
  dsimp only
  split
  · refine .inr ⟨_, ref02_Int_un, ref02_Int_mk, congrArg (fun o => Cl.yes _ o _) (ref02_Int_raw _), ?_⟩
    intro ds x h
    unfold ref02_Int_un at h
    split at h
    · cases h; rfl
    · cases h
  · exact .inl rfl
noncomputable def S58 : List (Nat × Sig) := (42, ref02_Int_sig) :: S57
theorem S58_ok : ListOk Try.prog S58 := ListOk.cons S57_ok ref02_Int_ok
noncomputable def ref09_Bytes_C : Cfg := { P := Try.prog, sig := lookSig S58, hb := fun f b =>  bif Nat.beq f 43 && Nat.beq b 0 then some { tmps := [1, 3, 4], obs := [108, 172], nils := [], kl := [172, 108, 356, 292, 284] } else none, hr := fun _ _ => none, ps := lookP P33 }
noncomputable def ref09_Bytes_un : List DV → Option ((List Int)) := fun | [⟨.slice (.int .u8), r0⟩] => some r0 | _ => none
noncomputable def ref09_Bytes_mk : (List Int) → List DV := fun r0 => [⟨.slice (.int .u8), r0⟩]
theorem ref09_Bytes_ex : ∃ f : (List ByteArray) → (List Int) → Option ((List Int)), f = fun (x0 : List ByteArray) (x1 : List Int) => funRun ref09_Bytes_C 3 43 [(true, [(false, .slice (.str)), (false, .slice (.int .i64))])] [(false, [(true, .slice (.int .u8))])] ref09_Bytes_un [⟨.slice (.str), x0⟩, ⟨.slice (.int .i64), x1⟩] := ⟨_, rfl⟩
noncomputable def ref09_Bytes : (List ByteArray) → (List Int) → Option ((List Int)) := ref09_Bytes_ex.choose
theorem ref09_Bytes_raw (x0 : List ByteArray) (x1 : List Int) : ref09_Bytes x0 x1 = funRun ref09_Bytes_C 3 43 [(true, [(false, .slice (.str)), (false, .slice (.int .i64))])] [(false, [(true, .slice (.int .u8))])] ref09_Bytes_un [⟨.slice (.str), x0⟩, ⟨.slice (.int .i64), x1⟩] := congrFun (congrFun (ref09_Bytes_ex.choose_spec) x0) x1
noncomputable def ref09_Bytes_l0 (y0 : Int) (y1 : List (ByteArray)) (y2 : List (Int)) (y3 : List (Int)) : Option ((List Int)) := loopAt ref09_Bytes_C 3 43 [(false, [(true, .slice (.int .u8))])] ref09_Bytes_un [true, true, false, true, false] (St.ofLists [(1, .ptr 108 0), (3, .ow 172), (4, .int .i64 y0)] [(108, some (.cells [.fz (Ty.str) y1 false false, .fz (Ty.int IntKind.i64) y2 false false])), (172, some (.row (Ty.int IntKind.u8) y3 0 false))] [172, 108, 356, 292, 284])
theorem ref09_Bytes_eq (x0 : List ByteArray) (x1 : List Int) : ref09_Bytes x0 x1 =
  (ref02_Uint (IntKind.u64.wrap (ilen x0))).bind fun val0 =>
  ref09_Bytes_l0 (0) (x0) (x1) (val0) := (ref09_Bytes_raw x0 x1).trans (by kernel_rfl)
theorem ref09_Bytes_l0_eq (y0 : Int) (y1 : List (ByteArray)) (y2 : List (Int)) (y3 : List (Int)) : ref09_Bytes_l0 y0 y1 y2 y3 =
  bif decide (y0 < ilen y1)
  then bif decide (0 ≤ y0)
    then (y1[y0.toNat]?).bind fun val4 =>
      (ref02_Bytes (bytesList val4)).bind fun val6 =>
        bif decide ((ilen y3 + ilen val6) * 1 ≤ room)
          then bif decide (0 ≤ y0)
            then (y2[y0.toNat]?).bind fun val12 =>
              (ref02_Int val12).bind fun val14 =>
                bif decide ((ilen (y3 ++ val6) + ilen val14) * 1 ≤ room)
                  then ref09_Bytes_l0 (IntKind.i64.wrap (y0 + 1)) (y1) (y2) (y3 ++ val6 ++ val14)
                  else none
            else none
          else none
    else none
  else some (y3) := (loopAt_step _ _ _ _ _ _ _).trans (by kernel_rfl)
noncomputable def ref09_Bytes_sig : Sig := { pm := [(true, [(false, .slice (.str)), (false, .slice (.int .i64))])], rm := [(false, [(true, .slice (.int .u8))])], f := fun | [⟨.slice (.str), x0⟩, ⟨.slice (.int .i64), x1⟩] => .yes _ (ref09_Bytes x0 x1) ref09_Bytes_mk | _ => .no }
theorem ref09_Bytes_ok : SigOk Try.prog 43 ref09_Bytes_sig := by
  refine contract_of (C := ref09_Bytes_C) (d := 3) ⟨S58_ok, P33_ok⟩ (callable_ex (by kernel_rfl)) ?_
  intro dvs
  unfold ref09_Bytes_sig
  dsimp only
  split
  · refine .inr ⟨_, ref09_Bytes_un, ref09_Bytes_mk, congrArg (fun o => Cl.yes _ o _) (ref09_Bytes_raw _ _), ?_⟩
    intro ds x h
    unfold ref09_Bytes_un at h
    split at h
    · cases h; rfl
    · cases h
  · exact .inl rfl
noncomputable def S59 : List (Nat × Sig) := (43, ref09_Bytes_sig) :: S58
theorem S59_ok : ListOk Try.prog S59 := ListOk.cons S58_ok ref09_Bytes_ok
noncomputable def ref24_Put_C : Cfg := { P := Try.prog, sig := lookSig S59, hb := fun _ _ => none, hr := fun _ _ => none, ps := lookP P33 }
noncomputable def ref24_Put_un : List DV → Option ((List Int) × Int) := fun | [⟨.slice (.int .u8), r0⟩, ⟨.int .i64, r1⟩] => some (r0, r1) | _ => none
noncomputable def ref24_Put_mk : ((List Int) × Int) → List DV := fun ⟨r0, r1⟩ => [⟨.slice (.int .u8), r0⟩, ⟨.int .i64, r1⟩]
theorem ref24_Put_ex : ∃ f : (Int) → (Int) → (Int) → (ByteArray) → (ByteArray) → (Int) → (List ByteArray) → (List Int) → (Int) → (Int) → (Int) → (Int) → (List Int) → Option ((List Int) × Int), f = fun (x0 : Int) (x1 : Int) (x2 : Int) (x3 : ByteArray) (x4 : ByteArray) (x5 : Int) (x6 : List ByteArray) (x7 : List Int) (x8 : Int) (x9 : Int) (x10 : Int) (x11 : Int) (x12 : List Int) => funRun ref24_Put_C 3 15 [(true, [(false, .int .i64), (false, .int .i64), (false, .int .i64), (false, .str), (false, .str), (false, .int .i64), (false, .slice (.str)), (false, .slice (.int .i64)), (false, .int .i64), (false, .int .i64), (false, .int .i64), (false, .int .i64), (false, .slice (.int .u8))])] [(false, [(true, .slice (.int .u8))]), (false, [(false, .int .i64)])] ref24_Put_un [⟨.int .i64, x0⟩, ⟨.int .i64, x1⟩, ⟨.int .i64, x2⟩, ⟨.str, x3⟩, ⟨.str, x4⟩, ⟨.int .i64, x5⟩, ⟨.slice (.str), x6⟩, ⟨.slice (.int .i64), x7⟩, ⟨.int .i64, x8⟩, ⟨.int .i64, x9⟩, ⟨.int .i64, x10⟩, ⟨.int .i64, x11⟩, ⟨.slice (.int .u8), x12⟩] := ⟨_, rfl⟩
noncomputable def ref24_Put : (Int) → (Int) → (Int) → (ByteArray) → (ByteArray) → (Int) → (List ByteArray) → (List Int) → (Int) → (Int) → (Int) → (Int) → (List Int) → Option ((List Int) × Int) := ref24_Put_ex.choose
theorem ref24_Put_raw (x0 : Int) (x1 : Int) (x2 : Int) (x3 : ByteArray) (x4 : ByteArray) (x5 : Int) (x6 : List ByteArray) (x7 : List Int) (x8 : Int) (x9 : Int) (x10 : Int) (x11 : Int) (x12 : List Int) : ref24_Put x0 x1 x2 x3 x4 x5 x6 x7 x8 x9 x10 x11 x12 = funRun ref24_Put_C 3 15 [(true, [(false, .int .i64), (false, .int .i64), (false, .int .i64), (false, .str), (false, .str), (false, .int .i64), (false, .slice (.str)), (false, .slice (.int .i64)), (false, .int .i64), (false, .int .i64), (false, .int .i64), (false, .int .i64), (false, .slice (.int .u8))])] [(false, [(true, .slice (.int .u8))]), (false, [(false, .int .i64)])] ref24_Put_un [⟨.int .i64, x0⟩, ⟨.int .i64, x1⟩, ⟨.int .i64, x2⟩, ⟨.str, x3⟩, ⟨.str, x4⟩, ⟨.int .i64, x5⟩, ⟨.slice (.str), x6⟩, ⟨.slice (.int .i64), x7⟩, ⟨.int .i64, x8⟩, ⟨.int .i64, x9⟩, ⟨.int .i64, x10⟩, ⟨.int .i64, x11⟩, ⟨.slice (.int .u8), x12⟩] := congrFun (congrFun (congrFun (congrFun (congrFun (congrFun (congrFun (congrFun (congrFun (congrFun (congrFun (congrFun (congrFun (ref24_Put_ex.choose_spec) x0) x1) x2) x3) x4) x5) x6) x7) x8) x9) x10) x11) x12
theorem ref24_Put_eq (x0 : Int) (x1 : Int) (x2 : Int) (x3 : ByteArray) (x4 : ByteArray) (x5 : Int) (x6 : List ByteArray) (x7 : List Int) (x8 : Int) (x9 : Int) (x10 : Int) (x11 : Int) (x12 : List Int) : ref24_Put x0 x1 x2 x3 x4 x5 x6 x7 x8 x9 x10 x11 x12 =
  (ref24_Check x0 x1 x2 x3 x4 x5 x6 x7 x8 x9 x10 x11 x12).bind fun val0 =>
  bif val0 != 0
    then some (([]), (val0))
    else (ref24_has x0 97).bind fun val4 =>
      (ref24_num x1 val4).bind fun val6 =>
        bif decide ((ilen [IntKind.u8.wrap x0] + ilen val6) * 1 ≤ room)
          then (ref24_has x0 97).bind fun val10 =>
            (ref24_num x2 val10).bind fun val12 =>
              bif decide ((ilen ([IntKind.u8.wrap x0] ++ val6) + ilen val12) * 1 ≤ room)
                then (ref24_has x0 105).bind fun val16 =>
                  (ref24_num x8 val16).bind fun val18 =>
                    bif decide ((ilen ([IntKind.u8.wrap x0] ++ val6 ++ val12) + ilen val18) * 1 ≤ room)
                      then (ref24_has x0 111).bind fun val22 =>
                        (ref24_num x9 val22).bind fun val24 =>
                          bif decide ((ilen ([IntKind.u8.wrap x0] ++ val6 ++ val12 ++ val18) + ilen val24) * 1 ≤ room)
                            then (ref24_has x0 99).bind fun val28 =>
                              (ref24_num x10 val28).bind fun val30 =>
                                bif decide ((ilen ([IntKind.u8.wrap x0] ++ val6 ++ val12 ++ val18 ++ val24) + ilen val30) * 1 ≤ room)
                                  then (ref24_has x0 116).bind fun val34 =>
                                    (ref24_num x11 val34).bind fun val36 =>
                                      bif decide ((ilen ([IntKind.u8.wrap x0] ++ val6 ++ val12 ++ val18 ++ val24 ++ val30) + ilen val36) * 1 ≤ room)
                                        then (ref24_has x0 110).bind fun val40 =>
                                          (ref24_word x3 val40).bind fun val42 =>
                                            bif decide ((ilen ([IntKind.u8.wrap x0] ++ val6 ++ val12 ++ val18 ++ val24 ++ val30 ++ val36) + ilen val42) * 1 ≤ room)
                                              then (ref24_has x0 119).bind fun val46 =>
                                                (ref24_word x4 val46).bind fun val48 =>
                                                  bif decide ((ilen ([IntKind.u8.wrap x0] ++ val6 ++ val12 ++ val18 ++ val24 ++ val30 ++ val36 ++ val42) + ilen val48) * 1 ≤ room)
                                                    then (ref24_has x0 107).bind fun val52 =>
                                                      bif val52
                                                        then (ref02_Int x5).bind fun val56 =>
                                                          bif decide ((ilen ([IntKind.u8.wrap x0] ++ val6 ++ val12 ++ val18 ++ val24 ++ val30 ++ val36 ++ val42 ++ val48) + ilen val56) * 1 ≤ room)
                                                            then (ref24_has x0 118).bind fun val60 =>
                                                              bif val60
                                                                then (ref09_Bytes x6 x7).bind fun val64 =>
                                                                  bif decide ((ilen ([IntKind.u8.wrap x0] ++ val6 ++ val12 ++ val18 ++ val24 ++ val30 ++ val36 ++ val42 ++ val48 ++ val56) + ilen val64) * 1 ≤ room)
                                                                    then (ref24_has x0 100).bind fun val68 =>
                                                                      (ref24_word (strOf x12) val68).bind fun val70 =>
                                                                        bif decide ((ilen ([IntKind.u8.wrap x0] ++ val6 ++ val12 ++ val18 ++ val24 ++ val30 ++ val36 ++ val42 ++ val48 ++ val56 ++ val64) + ilen val70) * 1 ≤ room)
                                                                          then some (([IntKind.u8.wrap x0] ++ val6 ++ val12 ++ val18 ++ val24 ++ val30 ++ val36 ++ val42 ++ val48 ++ val56 ++ val64 ++ val70), (0))
                                                                          else none
                                                                    else none
                                                                else (ref24_has x0 100).bind fun val64 =>
                                                                  (ref24_word (strOf x12) val64).bind fun val66 =>
                                                                    bif decide ((ilen ([IntKind.u8.wrap x0] ++ val6 ++ val12 ++ val18 ++ val24 ++ val30 ++ val36 ++ val42 ++ val48 ++ val56) + ilen val66) * 1 ≤ room)
                                                                      then some (([IntKind.u8.wrap x0] ++ val6 ++ val12 ++ val18 ++ val24 ++ val30 ++ val36 ++ val42 ++ val48 ++ val56 ++ val66), (0))
                                                                      else none
                                                            else none
                                                        else (ref24_has x0 118).bind fun val56 =>
                                                          bif val56
                                                            then (ref09_Bytes x6 x7).bind fun val60 =>
                                                              bif decide ((ilen ([IntKind.u8.wrap x0] ++ val6 ++ val12 ++ val18 ++ val24 ++ val30 ++ val36 ++ val42 ++ val48) + ilen val60) * 1 ≤ room)
                                                                then (ref24_has x0 100).bind fun val64 =>
                                                                  (ref24_word (strOf x12) val64).bind fun val66 =>
                                                                    bif decide ((ilen ([IntKind.u8.wrap x0] ++ val6 ++ val12 ++ val18 ++ val24 ++ val30 ++ val36 ++ val42 ++ val48 ++ val60) + ilen val66) * 1 ≤ room)
                                                                      then some (([IntKind.u8.wrap x0] ++ val6 ++ val12 ++ val18 ++ val24 ++ val30 ++ val36 ++ val42 ++ val48 ++ val60 ++ val66), (0))
                                                                      else none
                                                                else none
                                                            else (ref24_has x0 100).bind fun val60 =>
                                                              (ref24_word (strOf x12) val60).bind fun val62 =>
                                                                bif decide ((ilen ([IntKind.u8.wrap x0] ++ val6 ++ val12 ++ val18 ++ val24 ++ val30 ++ val36 ++ val42 ++ val48) + ilen val62) * 1 ≤ room)
                                                                  then some (([IntKind.u8.wrap x0] ++ val6 ++ val12 ++ val18 ++ val24 ++ val30 ++ val36 ++ val42 ++ val48 ++ val62), (0))
                                                                  else none
                                                    else none
                                              else none
                                        else none
                                  else none
                            else none
                      else none
                else none
          else none := (ref24_Put_raw x0 x1 x2 x3 x4 x5 x6 x7 x8 x9 x10 x11 x12).trans (by kernel_rfl)
noncomputable def ref24_Put_sig : Sig := { pm := [(true, [(false, .int .i64), (false, .int .i64), (false, .int .i64), (false, .str), (false, .str), (false, .int .i64), (false, .slice (.str)), (false, .slice (.int .i64)), (false, .int .i64), (false, .int .i64), (false, .int .i64), (false, .int .i64), (false, .slice (.int .u8))])], rm := [(false, [(true, .slice (.int .u8))]), (false, [(false, .int .i64)])], f := fun | [⟨.int .i64, x0⟩, ⟨.int .i64, x1⟩, ⟨.int .i64, x2⟩, ⟨.str, x3⟩, ⟨.str, x4⟩, ⟨.int .i64, x5⟩, ⟨.slice (.str), x6⟩, ⟨.slice (.int .i64), x7⟩, ⟨.int .i64, x8⟩, ⟨.int .i64, x9⟩, ⟨.int .i64, x10⟩, ⟨.int .i64, x11⟩, ⟨.slice (.int .u8), x12⟩] => .yes _ (ref24_Put x0 x1 x2 x3 x4 x5 x6 x7 x8 x9 x10 x11 x12) ref24_Put_mk | _ => .no }
theorem ref24_Put_ok : SigOk Try.prog 15 ref24_Put_sig := by
  refine contract_of (C := ref24_Put_C) (d := 3) ⟨S59_ok, P33_ok⟩ (callable_ex (by kernel_rfl)) ?_
  intro dvs
  unfold ref24_Put_sig
  dsimp only
  split
  · refine .inr ⟨_, ref24_Put_un, ref24_Put_mk, congrArg (fun o => Cl.yes _ o _) (ref24_Put_raw _ _ _ _ _ _ _ _ _ _ _ _ _), ?_⟩
    intro ds x h
    unfold ref24_Put_un at h
    split at h
    · cases h; rfl
    · cases h
  · exact .inl rfl
noncomputable def S60 : List (Nat × Sig) := (15, ref24_Put_sig) :: S59
theorem S60_ok : ListOk Try.prog S60 := ListOk.cons S59_ok ref24_Put_ok
noncomputable def ref09_One_C : Cfg := { P := Try.prog, sig := lookSig S60, hb := fun _ _ => none, hr := fun _ _ => none, ps := lookP P33 }
noncomputable def ref09_One_un : List DV → Option ((List ByteArray) × (List Int)) := fun | [⟨.slice (.str), r0⟩, ⟨.slice (.int .i64), r1⟩] => some (r0, r1) | _ => none
noncomputable def ref09_One_mk : ((List ByteArray) × (List Int)) → List DV := fun ⟨r0, r1⟩ => [⟨.slice (.str), r0⟩, ⟨.slice (.int .i64), r1⟩]
theorem ref09_One_ex : ∃ f : (ByteArray) → (Int) → Option ((List ByteArray) × (List Int)), f = fun (x0 : ByteArray) (x1 : Int) => funRun ref09_One_C 3 19 [(false, [(false, .str)]), (false, [(false, .int .i64)])] [(true, [(true, .slice (.str)), (true, .slice (.int .i64))])] ref09_One_un [⟨.str, x0⟩, ⟨.int .i64, x1⟩] := ⟨_, rfl⟩
noncomputable def ref09_One : (ByteArray) → (Int) → Option ((List ByteArray) × (List Int)) := ref09_One_ex.choose
theorem ref09_One_raw (x0 : ByteArray) (x1 : Int) : ref09_One x0 x1 = funRun ref09_One_C 3 19 [(false, [(false, .str)]), (false, [(false, .int .i64)])] [(true, [(true, .slice (.str)), (true, .slice (.int .i64))])] ref09_One_un [⟨.str, x0⟩, ⟨.int .i64, x1⟩] := congrFun (congrFun (ref09_One_ex.choose_spec) x0) x1
theorem ref09_One_eq (x0 : ByteArray) (x1 : Int) : ref09_One x0 x1 =
  some (([x0]), ([x1])) := (ref09_One_raw x0 x1).trans (by kernel_rfl)
noncomputable def ref09_One_sig : Sig := { pm := [(false, [(false, .str)]), (false, [(false, .int .i64)])], rm := [(true, [(true, .slice (.str)), (true, .slice (.int .i64))])], f := fun | [⟨.str, x0⟩, ⟨.int .i64, x1⟩] => .yes _ (ref09_One x0 x1) ref09_One_mk | _ => .no }
theorem ref09_One_ok : SigOk Try.prog 19 ref09_One_sig := by
  refine contract_of (C := ref09_One_C) (d := 3) ⟨S60_ok, P33_ok⟩ (callable_ex (by kernel_rfl)) ?_
  intro dvs
  unfold ref09_One_sig
  dsimp only
  split
  · refine .inr ⟨_, ref09_One_un, ref09_One_mk, congrArg (fun o => Cl.yes _ o _) (ref09_One_raw _ _), ?_⟩
    intro ds x h
    unfold ref09_One_un at h
    split at h
    · cases h; rfl
    · cases h
  · exact .inl rfl
noncomputable def S61 : List (Nat × Sig) := (19, ref09_One_sig) :: S60
theorem S61_ok : ListOk Try.prog S61 := ListOk.cons S60_ok ref09_One_ok
noncomputable def law24_light_C : Cfg := { P := Try.prog, sig := lookSig S61, hb := fun _ _ => none, hr := fun _ _ => none, ps := lookP P33 }
noncomputable def law24_light_un : List DV → Option (Bool) := fun | [⟨.bool, r0⟩] => some r0 | _ => none
noncomputable def law24_light_mk : Bool → List DV := fun r0 => [⟨.bool, r0⟩]
theorem law24_light_ex : ∃ f : (Int) → (Int) → (Int) → (ByteArray) → (ByteArray) → (Int) → (List ByteArray) → (List Int) → (Int) → (Int) → (Int) → (Int) → (List Int) → Option (Bool), f = fun (x0 : Int) (x1 : Int) (x2 : Int) (x3 : ByteArray) (x4 : ByteArray) (x5 : Int) (x6 : List ByteArray) (x7 : List Int) (x8 : Int) (x9 : Int) (x10 : Int) (x11 : Int) (x12 : List Int) => funRun law24_light_C 3 6 [(true, [(false, .int .i64), (false, .int .i64), (false, .int .i64), (false, .str), (false, .str), (false, .int .i64), (false, .slice (.str)), (false, .slice (.int .i64)), (false, .int .i64), (false, .int .i64), (false, .int .i64), (false, .int .i64), (false, .slice (.int .u8))])] [(false, [(false, .bool)])] law24_light_un [⟨.int .i64, x0⟩, ⟨.int .i64, x1⟩, ⟨.int .i64, x2⟩, ⟨.str, x3⟩, ⟨.str, x4⟩, ⟨.int .i64, x5⟩, ⟨.slice (.str), x6⟩, ⟨.slice (.int .i64), x7⟩, ⟨.int .i64, x8⟩, ⟨.int .i64, x9⟩, ⟨.int .i64, x10⟩, ⟨.int .i64, x11⟩, ⟨.slice (.int .u8), x12⟩] := ⟨_, rfl⟩
noncomputable def law24_light : (Int) → (Int) → (Int) → (ByteArray) → (ByteArray) → (Int) → (List ByteArray) → (List Int) → (Int) → (Int) → (Int) → (Int) → (List Int) → Option (Bool) := law24_light_ex.choose
theorem law24_light_raw (x0 : Int) (x1 : Int) (x2 : Int) (x3 : ByteArray) (x4 : ByteArray) (x5 : Int) (x6 : List ByteArray) (x7 : List Int) (x8 : Int) (x9 : Int) (x10 : Int) (x11 : Int) (x12 : List Int) : law24_light x0 x1 x2 x3 x4 x5 x6 x7 x8 x9 x10 x11 x12 = funRun law24_light_C 3 6 [(true, [(false, .int .i64), (false, .int .i64), (false, .int .i64), (false, .str), (false, .str), (false, .int .i64), (false, .slice (.str)), (false, .slice (.int .i64)), (false, .int .i64), (false, .int .i64), (false, .int .i64), (false, .int .i64), (false, .slice (.int .u8))])] [(false, [(false, .bool)])] law24_light_un [⟨.int .i64, x0⟩, ⟨.int .i64, x1⟩, ⟨.int .i64, x2⟩, ⟨.str, x3⟩, ⟨.str, x4⟩, ⟨.int .i64, x5⟩, ⟨.slice (.str), x6⟩, ⟨.slice (.int .i64), x7⟩, ⟨.int .i64, x8⟩, ⟨.int .i64, x9⟩, ⟨.int .i64, x10⟩, ⟨.int .i64, x11⟩, ⟨.slice (.int .u8), x12⟩] := congrFun (congrFun (congrFun (congrFun (congrFun (congrFun (congrFun (congrFun (congrFun (congrFun (congrFun (congrFun (congrFun (law24_light_ex.choose_spec) x0) x1) x2) x3) x4) x5) x6) x7) x8) x9) x10) x11) x12
theorem law24_light_eq (x0 : Int) (x1 : Int) (x2 : Int) (x3 : ByteArray) (x4 : ByteArray) (x5 : Int) (x6 : List ByteArray) (x7 : List Int) (x8 : Int) (x9 : Int) (x10 : Int) (x11 : Int) (x12 : List Int) : law24_light x0 x1 x2 x3 x4 x5 x6 x7 x8 x9 x10 x11 x12 =
  bif decide (ilen x6 ≤ 100)
  then bif decide (ilen x7 ≤ 100)
    then bif decide (ilen x12 ≤ 3000)
      then bif decide (isize x3 ≤ 100)
        then some (decide (isize x4 ≤ 100))
        else some false
      else some false
    else some false
  else some false := (law24_light_raw x0 x1 x2 x3 x4 x5 x6 x7 x8 x9 x10 x11 x12).trans (by kernel_rfl)
noncomputable def law24_light_sig : Sig := { pm := [(true, [(false, .int .i64), (false, .int .i64), (false, .int .i64), (false, .str), (false, .str), (false, .int .i64), (false, .slice (.str)), (false, .slice (.int .i64)), (false, .int .i64), (false, .int .i64), (false, .int .i64), (false, .int .i64), (false, .slice (.int .u8))])], rm := [(false, [(false, .bool)])], f := fun | [⟨.int .i64, x0⟩, ⟨.int .i64, x1⟩, ⟨.int .i64, x2⟩, ⟨.str, x3⟩, ⟨.str, x4⟩, ⟨.int .i64, x5⟩, ⟨.slice (.str), x6⟩, ⟨.slice (.int .i64), x7⟩, ⟨.int .i64, x8⟩, ⟨.int .i64, x9⟩, ⟨.int .i64, x10⟩, ⟨.int .i64, x11⟩, ⟨.slice (.int .u8), x12⟩] => .yes _ (law24_light x0 x1 x2 x3 x4 x5 x6 x7 x8 x9 x10 x11 x12) law24_light_mk | _ => .no }
theorem law24_light_ok : SigOk Try.prog 6 law24_light_sig := by
  refine contract_of (C := law24_light_C) (d := 3) ⟨S61_ok, P33_ok⟩ (callable_ex (by kernel_rfl)) ?_
  intro dvs
  unfold law24_light_sig
  dsimp only
  split
  · refine .inr ⟨_, law24_light_un, law24_light_mk, congrArg (fun o => Cl.yes _ o _) (law24_light_raw _ _ _ _ _ _ _ _ _ _ _ _ _), ?_⟩
    intro ds x h
    unfold law24_light_un at h
    split at h
    · cases h; rfl
    · cases h
  · exact .inl rfl
noncomputable def S62 : List (Nat × Sig) := (6, law24_light_sig) :: S61
theorem S62_ok : ListOk Try.prog S62 := ListOk.cons S61_ok law24_light_ok
noncomputable def law24_works_C : Cfg := { P := Try.prog, sig := lookSig S62, hb := fun _ _ => none, hr := fun _ _ => none, ps := lookP P33 }
noncomputable def law24_works_un : List DV → Option (Bool) := fun | [⟨.bool, r0⟩] => some r0 | _ => none
noncomputable def law24_works_mk : Bool → List DV := fun r0 => [⟨.bool, r0⟩]
theorem law24_works_ex : ∃ f : Option (Bool), f = funRun law24_works_C 3 7 [] [(false, [(false, .bool)])] law24_works_un [] := ⟨_, rfl⟩
noncomputable def law24_works : Option (Bool) := law24_works_ex.choose
theorem law24_works_raw  : law24_works = funRun law24_works_C 3 7 [] [(false, [(false, .bool)])] law24_works_un [] := law24_works_ex.choose_spec
theorem law24_works_eq  : law24_works =
  (ref09_One (⟨#[97]⟩ : ByteArray) (-1)).bind fun val0 =>
  (cmd_Put 3 3 9 (⟨#[112]⟩ : ByteArray) (⟨#[]⟩ : ByteArray) 0 val0.1 val0.2 0 0 0 0 []).bind fun val2 =>
    (cmd_Read val2.1).bind fun val4 =>
      (cmd_Read [99]).bind fun val6 =>
        (command_PutNote 3 5 0 0 (⟨#[]⟩ : ByteArray) 0 [] []).bind fun val8 =>
          (command_ReadNote val8.1).bind fun val10 =>
            (command_PutReply [] 3 9 9 0 []).bind fun val12 =>
              bif decide ((ilen val12 + ilen [1]) * 1 ≤ room)
                then (command_ReadReply (val12 ++ [1])).bind fun val16 =>
                  bif val2.2 == 0
                    then bif val4.2.2.2.2.2.2.2.2.2.2.2.2.2 == 0
                      then (ref24_Same 3 3 9 (⟨#[112]⟩ : ByteArray) (⟨#[]⟩ : ByteArray) 0 val0.1 val0.2 0 0 0 0 [] val4.1 val4.2.1 val4.2.2.1 val4.2.2.2.1 val4.2.2.2.2.1 val4.2.2.2.2.2.1 val4.2.2.2.2.2.2.1 val4.2.2.2.2.2.2.2.1 val4.2.2.2.2.2.2.2.2.1 val4.2.2.2.2.2.2.2.2.2.1 val4.2.2.2.2.2.2.2.2.2.2.1 val4.2.2.2.2.2.2.2.2.2.2.2.1 val4.2.2.2.2.2.2.2.2.2.2.2.2.1).bind fun val22 =>
                        bif val22
                          then bif val6.2.2.2.2.2.2.2.2.2.2.2.2.2 == 3
                            then bif val8.2 == 0
                              then bif val10.2.2.2.2.2.2.2.2 == 0
                                then bif val10.2.1 == 5
                                  then bif val16.2.2.2.2.2.2 == 0
                                    then bif ilen val16.2.2.2.2.2.1 == 1
                                      then bif val16.2.2.1 == 9
                                        then (cmd_Check 0 0 0 (⟨#[]⟩ : ByteArray) (⟨#[]⟩ : ByteArray) 0 [] [] 0 0 0 0 []).bind fun val40 =>
                                          bif val40 == 1
                                            then (command_CheckNote val10.1 val10.2.1 val10.2.2.1 val10.2.2.2.1 val10.2.2.2.2.1 val10.2.2.2.2.2.1 val10.2.2.2.2.2.2.1 val10.2.2.2.2.2.2.2.1).bind fun val44 =>
                                              bif val44 == 0
                                                then (command_CheckReply 3 9 9 0 []).bind fun val48 =>
                                                  some (val48 == 0)
                                                else some false
                                            else some false
                                        else some false
                                      else some false
                                    else some false
                                  else some false
                                else some false
                              else some false
                            else some false
                          else some false
                      else some false
                    else some false
                else none := (law24_works_raw).trans (by kernel_rfl)
noncomputable def law24_works_sig : Sig := { pm := [], rm := [(false, [(false, .bool)])], f := fun | [] => .yes _ (law24_works) law24_works_mk | _ => .no }
theorem law24_works_ok : SigOk Try.prog 7 law24_works_sig := by
  refine contract_of (C := law24_works_C) (d := 3) ⟨S62_ok, P33_ok⟩ (callable_ex (by kernel_rfl)) ?_
  intro dvs
  unfold law24_works_sig
  dsimp only
  split
  · refine .inr ⟨_, law24_works_un, law24_works_mk, congrArg (fun o => Cl.yes _ o _) (law24_works_raw), ?_⟩
    intro ds x h
    unfold law24_works_un at h
    split at h
    · cases h; rfl
    · cases h
  · exact .inl rfl
noncomputable def S63 : List (Nat × Sig) := (7, law24_works_sig) :: S62
theorem S63_ok : ListOk Try.prog S63 := ListOk.cons S62_ok law24_works_ok
noncomputable def law24_CommandChecks_C : Cfg := { P := Try.prog, sig := lookSig S63, hb := fun _ _ => none, hr := fun _ _ => none, ps := lookP P33 }
noncomputable def law24_CommandChecks_un : List DV → Option (Bool) := fun | [⟨.bool, r0⟩] => some r0 | _ => none
noncomputable def law24_CommandChecks_mk : Bool → List DV := fun r0 => [⟨.bool, r0⟩]
theorem law24_CommandChecks_ex : ∃ f : (Int) → (Int) → (Int) → (ByteArray) → (ByteArray) → (Int) → (List ByteArray) → (List Int) → (Int) → (Int) → (Int) → (Int) → (List Int) → (Int) → (Int) → (Int) → (Int) → (ByteArray) → (Int) → (List ByteArray) → (List Int) → (Int) → (Int) → (Int) → (Int) → (List (Int × Int × Int × ByteArray × Int × ByteArray × Int)) → Option (Bool), f = fun (x0 : Int) (x1 : Int) (x2 : Int) (x3 : ByteArray) (x4 : ByteArray) (x5 : Int) (x6 : List ByteArray) (x7 : List Int) (x8 : Int) (x9 : Int) (x10 : Int) (x11 : Int) (x12 : List Int) (x13 : Int) (x14 : Int) (x15 : Int) (x16 : Int) (x17 : ByteArray) (x18 : Int) (x19 : List ByteArray) (x20 : List Int) (x21 : Int) (x22 : Int) (x23 : Int) (x24 : Int) (x25 : List (Int × Int × Int × ByteArray × Int × ByteArray × Int)) => funRun law24_CommandChecks_C 3 3 [(true, [(false, .int .i64), (false, .int .i64), (false, .int .i64), (false, .str), (false, .str), (false, .int .i64), (false, .slice (.str)), (false, .slice (.int .i64)), (false, .int .i64), (false, .int .i64), (false, .int .i64), (false, .int .i64), (false, .slice (.int .u8))]), (true, [(false, .int .i64), (false, .int .i64), (false, .int .i64), (false, .int .i64), (false, .str), (false, .int .i64), (false, .slice (.str)), (false, .slice (.int .i64))]), (true, [(false, .int .i64), (false, .int .i64), (false, .int .i64), (false, .int .i64), (false, .slice (.pair (.int .i64) (.pair (.int .i64) (.pair (.int .i64) (.pair (.str) (.pair (.int .i64) (.pair (.str) (.int .i64))))))))])] [(false, [(false, .bool)])] law24_CommandChecks_un [⟨.int .i64, x0⟩, ⟨.int .i64, x1⟩, ⟨.int .i64, x2⟩, ⟨.str, x3⟩, ⟨.str, x4⟩, ⟨.int .i64, x5⟩, ⟨.slice (.str), x6⟩, ⟨.slice (.int .i64), x7⟩, ⟨.int .i64, x8⟩, ⟨.int .i64, x9⟩, ⟨.int .i64, x10⟩, ⟨.int .i64, x11⟩, ⟨.slice (.int .u8), x12⟩, ⟨.int .i64, x13⟩, ⟨.int .i64, x14⟩, ⟨.int .i64, x15⟩, ⟨.int .i64, x16⟩, ⟨.str, x17⟩, ⟨.int .i64, x18⟩, ⟨.slice (.str), x19⟩, ⟨.slice (.int .i64), x20⟩, ⟨.int .i64, x21⟩, ⟨.int .i64, x22⟩, ⟨.int .i64, x23⟩, ⟨.int .i64, x24⟩, ⟨.slice (.pair (.int .i64) (.pair (.int .i64) (.pair (.int .i64) (.pair (.str) (.pair (.int .i64) (.pair (.str) (.int .i64))))))), x25⟩] := ⟨_, rfl⟩
noncomputable def law24_CommandChecks : (Int) → (Int) → (Int) → (ByteArray) → (ByteArray) → (Int) → (List ByteArray) → (List Int) → (Int) → (Int) → (Int) → (Int) → (List Int) → (Int) → (Int) → (Int) → (Int) → (ByteArray) → (Int) → (List ByteArray) → (List Int) → (Int) → (Int) → (Int) → (Int) → (List (Int × Int × Int × ByteArray × Int × ByteArray × Int)) → Option (Bool) := law24_CommandChecks_ex.choose
theorem law24_CommandChecks_raw (x0 : Int) (x1 : Int) (x2 : Int) (x3 : ByteArray) (x4 : ByteArray) (x5 : Int) (x6 : List ByteArray) (x7 : List Int) (x8 : Int) (x9 : Int) (x10 : Int) (x11 : Int) (x12 : List Int) (x13 : Int) (x14 : Int) (x15 : Int) (x16 : Int) (x17 : ByteArray) (x18 : Int) (x19 : List ByteArray) (x20 : List Int) (x21 : Int) (x22 : Int) (x23 : Int) (x24 : Int) (x25 : List (Int × Int × Int × ByteArray × Int × ByteArray × Int)) : law24_CommandChecks x0 x1 x2 x3 x4 x5 x6 x7 x8 x9 x10 x11 x12 x13 x14 x15 x16 x17 x18 x19 x20 x21 x22 x23 x24 x25 = funRun law24_CommandChecks_C 3 3 [(true, [(false, .int .i64), (false, .int .i64), (false, .int .i64), (false, .str), (false, .str), (false, .int .i64), (false, .slice (.str)), (false, .slice (.int .i64)), (false, .int .i64), (false, .int .i64), (false, .int .i64), (false, .int .i64), (false, .slice (.int .u8))]), (true, [(false, .int .i64), (false, .int .i64), (false, .int .i64), (false, .int .i64), (false, .str), (false, .int .i64), (false, .slice (.str)), (false, .slice (.int .i64))]), (true, [(false, .int .i64), (false, .int .i64), (false, .int .i64), (false, .int .i64), (false, .slice (.pair (.int .i64) (.pair (.int .i64) (.pair (.int .i64) (.pair (.str) (.pair (.int .i64) (.pair (.str) (.int .i64))))))))])] [(false, [(false, .bool)])] law24_CommandChecks_un [⟨.int .i64, x0⟩, ⟨.int .i64, x1⟩, ⟨.int .i64, x2⟩, ⟨.str, x3⟩, ⟨.str, x4⟩, ⟨.int .i64, x5⟩, ⟨.slice (.str), x6⟩, ⟨.slice (.int .i64), x7⟩, ⟨.int .i64, x8⟩, ⟨.int .i64, x9⟩, ⟨.int .i64, x10⟩, ⟨.int .i64, x11⟩, ⟨.slice (.int .u8), x12⟩, ⟨.int .i64, x13⟩, ⟨.int .i64, x14⟩, ⟨.int .i64, x15⟩, ⟨.int .i64, x16⟩, ⟨.str, x17⟩, ⟨.int .i64, x18⟩, ⟨.slice (.str), x19⟩, ⟨.slice (.int .i64), x20⟩, ⟨.int .i64, x21⟩, ⟨.int .i64, x22⟩, ⟨.int .i64, x23⟩, ⟨.int .i64, x24⟩, ⟨.slice (.pair (.int .i64) (.pair (.int .i64) (.pair (.int .i64) (.pair (.str) (.pair (.int .i64) (.pair (.str) (.int .i64))))))), x25⟩] := congrFun (congrFun (congrFun (congrFun (congrFun (congrFun (congrFun (congrFun (congrFun (congrFun (congrFun (congrFun (congrFun (congrFun (congrFun (congrFun (congrFun (congrFun (congrFun (congrFun (congrFun (congrFun (congrFun (congrFun (congrFun (congrFun (law24_CommandChecks_ex.choose_spec) x0) x1) x2) x3) x4) x5) x6) x7) x8) x9) x10) x11) x12) x13) x14) x15) x16) x17) x18) x19) x20) x21) x22) x23) x24) x25
theorem law24_CommandChecks_eq (x0 : Int) (x1 : Int) (x2 : Int) (x3 : ByteArray) (x4 : ByteArray) (x5 : Int) (x6 : List ByteArray) (x7 : List Int) (x8 : Int) (x9 : Int) (x10 : Int) (x11 : Int) (x12 : List Int) (x13 : Int) (x14 : Int) (x15 : Int) (x16 : Int) (x17 : ByteArray) (x18 : Int) (x19 : List ByteArray) (x20 : List Int) (x21 : Int) (x22 : Int) (x23 : Int) (x24 : Int) (x25 : List (Int × Int × Int × ByteArray × Int × ByteArray × Int)) : law24_CommandChecks x0 x1 x2 x3 x4 x5 x6 x7 x8 x9 x10 x11 x12 x13 x14 x15 x16 x17 x18 x19 x20 x21 x22 x23 x24 x25 =
  (law24_light x0 x1 x2 x3 x4 x5 x6 x7 x8 x9 x10 x11 x12).bind fun val0 =>
  bif !val0
    then (law24_works).bind fun val4 =>
      some (val4)
    else bif decide (ilen x19 > 100)
      then (law24_works).bind fun val6 =>
        some (val6)
      else bif decide (ilen x20 > 100)
        then (law24_works).bind fun val8 =>
          some (val8)
        else bif decide (isize x17 > 100)
          then (law24_works).bind fun val10 =>
            some (val10)
          else bif decide (ilen x25 > 100)
            then (law24_works).bind fun val12 =>
              some (val12)
            else (cmd_Check x0 x1 x2 x3 x4 x5 x6 x7 x8 x9 x10 x11 x12).bind fun val12 =>
              (ref24_Check x0 x1 x2 x3 x4 x5 x6 x7 x8 x9 x10 x11 x12).bind fun val14 =>
                bif val12 == val14
                  then (command_CheckNote x13 x14 x15 x16 x17 x18 x19 x20).bind fun val18 =>
                    (ref24_CheckNote x13 x14 x15 x16 x17 x18 x19 x20).bind fun val20 =>
                      bif val18 == val20
                        then (command_CheckReply x21 x22 x23 x24 x25).bind fun val24 =>
                          (ref24_CheckReply x21 x22 x23 x24 x25).bind fun val26 =>
                            bif val24 == val26
                              then (law24_works).bind fun val30 =>
                                some (val30)
                              else some false
                        else some false
                  else some false := (law24_CommandChecks_raw x0 x1 x2 x3 x4 x5 x6 x7 x8 x9 x10 x11 x12 x13 x14 x15 x16 x17 x18 x19 x20 x21 x22 x23 x24 x25).trans (by kernel_rfl)
noncomputable def law24_CommandChecks_sig : Sig := { pm := [(true, [(false, .int .i64), (false, .int .i64), (false, .int .i64), (false, .str), (false, .str), (false, .int .i64), (false, .slice (.str)), (false, .slice (.int .i64)), (false, .int .i64), (false, .int .i64), (false, .int .i64), (false, .int .i64), (false, .slice (.int .u8))]), (true, [(false, .int .i64), (false, .int .i64), (false, .int .i64), (false, .int .i64), (false, .str), (false, .int .i64), (false, .slice (.str)), (false, .slice (.int .i64))]), (true, [(false, .int .i64), (false, .int .i64), (false, .int .i64), (false, .int .i64), (false, .slice (.pair (.int .i64) (.pair (.int .i64) (.pair (.int .i64) (.pair (.str) (.pair (.int .i64) (.pair (.str) (.int .i64))))))))])], rm := [(false, [(false, .bool)])], f := fun | [⟨.int .i64, x0⟩, ⟨.int .i64, x1⟩, ⟨.int .i64, x2⟩, ⟨.str, x3⟩, ⟨.str, x4⟩, ⟨.int .i64, x5⟩, ⟨.slice (.str), x6⟩, ⟨.slice (.int .i64), x7⟩, ⟨.int .i64, x8⟩, ⟨.int .i64, x9⟩, ⟨.int .i64, x10⟩, ⟨.int .i64, x11⟩, ⟨.slice (.int .u8), x12⟩, ⟨.int .i64, x13⟩, ⟨.int .i64, x14⟩, ⟨.int .i64, x15⟩, ⟨.int .i64, x16⟩, ⟨.str, x17⟩, ⟨.int .i64, x18⟩, ⟨.slice (.str), x19⟩, ⟨.slice (.int .i64), x20⟩, ⟨.int .i64, x21⟩, ⟨.int .i64, x22⟩, ⟨.int .i64, x23⟩, ⟨.int .i64, x24⟩, ⟨.slice (.pair (.int .i64) (.pair (.int .i64) (.pair (.int .i64) (.pair (.str) (.pair (.int .i64) (.pair (.str) (.int .i64))))))), x25⟩] => .yes _ (law24_CommandChecks x0 x1 x2 x3 x4 x5 x6 x7 x8 x9 x10 x11 x12 x13 x14 x15 x16 x17 x18 x19 x20 x21 x22 x23 x24 x25) law24_CommandChecks_mk | _ => .no }
theorem law24_CommandChecks_ok : SigOk Try.prog 3 law24_CommandChecks_sig := by
  refine contract_of (C := law24_CommandChecks_C) (d := 3) ⟨S63_ok, P33_ok⟩ (callable_ex (by kernel_rfl)) ?_
  intro dvs
  unfold law24_CommandChecks_sig
  dsimp only
  split
  · refine .inr ⟨_, law24_CommandChecks_un, law24_CommandChecks_mk, congrArg (fun o => Cl.yes _ o _) (law24_CommandChecks_raw _ _ _ _ _ _ _ _ _ _ _ _ _ _ _ _ _ _ _ _ _ _ _ _ _ _), ?_⟩
    intro ds x h
    unfold law24_CommandChecks_un at h
    split at h
    · cases h; rfl
    · cases h
  · exact .inl rfl
noncomputable def S64 : List (Nat × Sig) := (3, law24_CommandChecks_sig) :: S63
theorem S64_ok : ListOk Try.prog S64 := ListOk.cons S63_ok law24_CommandChecks_ok
noncomputable def law24_CommandPuts_C : Cfg := { P := Try.prog, sig := lookSig S64, hb := fun _ _ => none, hr := fun _ _ => none, ps := lookP P33 }
noncomputable def law24_CommandPuts_un : List DV → Option (Bool) := fun | [⟨.bool, r0⟩] => some r0 | _ => none
noncomputable def law24_CommandPuts_mk : Bool → List DV := fun r0 => [⟨.bool, r0⟩]
theorem law24_CommandPuts_ex : ∃ f : (Int) → (Int) → (Int) → (ByteArray) → (ByteArray) → (Int) → (List ByteArray) → (List Int) → (Int) → (Int) → (Int) → (Int) → (List Int) → Option (Bool), f = fun (x0 : Int) (x1 : Int) (x2 : Int) (x3 : ByteArray) (x4 : ByteArray) (x5 : Int) (x6 : List ByteArray) (x7 : List Int) (x8 : Int) (x9 : Int) (x10 : Int) (x11 : Int) (x12 : List Int) => funRun law24_CommandPuts_C 3 4 [(true, [(false, .int .i64), (false, .int .i64), (false, .int .i64), (false, .str), (false, .str), (false, .int .i64), (false, .slice (.str)), (false, .slice (.int .i64)), (false, .int .i64), (false, .int .i64), (false, .int .i64), (false, .int .i64), (false, .slice (.int .u8))])] [(false, [(false, .bool)])] law24_CommandPuts_un [⟨.int .i64, x0⟩, ⟨.int .i64, x1⟩, ⟨.int .i64, x2⟩, ⟨.str, x3⟩, ⟨.str, x4⟩, ⟨.int .i64, x5⟩, ⟨.slice (.str), x6⟩, ⟨.slice (.int .i64), x7⟩, ⟨.int .i64, x8⟩, ⟨.int .i64, x9⟩, ⟨.int .i64, x10⟩, ⟨.int .i64, x11⟩, ⟨.slice (.int .u8), x12⟩] := ⟨_, rfl⟩
noncomputable def law24_CommandPuts : (Int) → (Int) → (Int) → (ByteArray) → (ByteArray) → (Int) → (List ByteArray) → (List Int) → (Int) → (Int) → (Int) → (Int) → (List Int) → Option (Bool) := law24_CommandPuts_ex.choose
theorem law24_CommandPuts_raw (x0 : Int) (x1 : Int) (x2 : Int) (x3 : ByteArray) (x4 : ByteArray) (x5 : Int) (x6 : List ByteArray) (x7 : List Int) (x8 : Int) (x9 : Int) (x10 : Int) (x11 : Int) (x12 : List Int) : law24_CommandPuts x0 x1 x2 x3 x4 x5 x6 x7 x8 x9 x10 x11 x12 = funRun law24_CommandPuts_C 3 4 [(true, [(false, .int .i64), (false, .int .i64), (false, .int .i64), (false, .str), (false, .str), (false, .int .i64), (false, .slice (.str)), (false, .slice (.int .i64)), (false, .int .i64), (false, .int .i64), (false, .int .i64), (false, .int .i64), (false, .slice (.int .u8))])] [(false, [(false, .bool)])] law24_CommandPuts_un [⟨.int .i64, x0⟩, ⟨.int .i64, x1⟩, ⟨.int .i64, x2⟩, ⟨.str, x3⟩, ⟨.str, x4⟩, ⟨.int .i64, x5⟩, ⟨.slice (.str), x6⟩, ⟨.slice (.int .i64), x7⟩, ⟨.int .i64, x8⟩, ⟨.int .i64, x9⟩, ⟨.int .i64, x10⟩, ⟨.int .i64, x11⟩, ⟨.slice (.int .u8), x12⟩] := congrFun (congrFun (congrFun (congrFun (congrFun (congrFun (congrFun (congrFun (congrFun (congrFun (congrFun (congrFun (congrFun (law24_CommandPuts_ex.choose_spec) x0) x1) x2) x3) x4) x5) x6) x7) x8) x9) x10) x11) x12
theorem law24_CommandPuts_eq (x0 : Int) (x1 : Int) (x2 : Int) (x3 : ByteArray) (x4 : ByteArray) (x5 : Int) (x6 : List ByteArray) (x7 : List Int) (x8 : Int) (x9 : Int) (x10 : Int) (x11 : Int) (x12 : List Int) : law24_CommandPuts x0 x1 x2 x3 x4 x5 x6 x7 x8 x9 x10 x11 x12 =
  (law24_light x0 x1 x2 x3 x4 x5 x6 x7 x8 x9 x10 x11 x12).bind fun val0 =>
  bif !val0
    then (law24_works).bind fun val4 =>
      some (val4)
    else (cmd_Put x0 x1 x2 x3 x4 x5 x6 x7 x8 x9 x10 x11 x12).bind fun val4 =>
      (ref24_Put x0 x1 x2 x3 x4 x5 x6 x7 x8 x9 x10 x11 x12).bind fun val6 =>
        bif val4.2 != val6.2
          then some false
          else (ref02_Same val4.1 val6.1).bind fun val10 =>
            bif !val10
              then some false
              else bif val4.2 != 0
                then (law24_works).bind fun val16 =>
                  some (val16)
                else (cmd_Read val4.1).bind fun val16 =>
                  bif val16.2.2.2.2.2.2.2.2.2.2.2.2.2 == 0
                    then (ref24_Same val16.1 val16.2.1 val16.2.2.1 val16.2.2.2.1 val16.2.2.2.2.1 val16.2.2.2.2.2.1 val16.2.2.2.2.2.2.1 val16.2.2.2.2.2.2.2.1 val16.2.2.2.2.2.2.2.2.1 val16.2.2.2.2.2.2.2.2.2.1 val16.2.2.2.2.2.2.2.2.2.2.1 val16.2.2.2.2.2.2.2.2.2.2.2.1 val16.2.2.2.2.2.2.2.2.2.2.2.2.1 x0 x1 x2 x3 x4 x5 x6 x7 x8 x9 x10 x11 x12).bind fun val20 =>
                      bif val20
                        then (law24_works).bind fun val24 =>
                          some (val24)
                        else some false
                    else some false := (law24_CommandPuts_raw x0 x1 x2 x3 x4 x5 x6 x7 x8 x9 x10 x11 x12).trans (by kernel_rfl)
noncomputable def law24_CommandPuts_sig : Sig := { pm := [(true, [(false, .int .i64), (false, .int .i64), (false, .int .i64), (false, .str), (false, .str), (false, .int .i64), (false, .slice (.str)), (false, .slice (.int .i64)), (false, .int .i64), (false, .int .i64), (false, .int .i64), (false, .int .i64), (false, .slice (.int .u8))])], rm := [(false, [(false, .bool)])], f := fun | [⟨.int .i64, x0⟩, ⟨.int .i64, x1⟩, ⟨.int .i64, x2⟩, ⟨.str, x3⟩, ⟨.str, x4⟩, ⟨.int .i64, x5⟩, ⟨.slice (.str), x6⟩, ⟨.slice (.int .i64), x7⟩, ⟨.int .i64, x8⟩, ⟨.int .i64, x9⟩, ⟨.int .i64, x10⟩, ⟨.int .i64, x11⟩, ⟨.slice (.int .u8), x12⟩] => .yes _ (law24_CommandPuts x0 x1 x2 x3 x4 x5 x6 x7 x8 x9 x10 x11 x12) law24_CommandPuts_mk | _ => .no }
theorem law24_CommandPuts_ok : SigOk Try.prog 4 law24_CommandPuts_sig := by
  refine contract_of (C := law24_CommandPuts_C) (d := 3) ⟨S64_ok, P33_ok⟩ (callable_ex (by kernel_rfl)) ?_
  intro dvs
  unfold law24_CommandPuts_sig
  dsimp only
  split
  · refine .inr ⟨_, law24_CommandPuts_un, law24_CommandPuts_mk, congrArg (fun o => Cl.yes _ o _) (law24_CommandPuts_raw _ _ _ _ _ _ _ _ _ _ _ _ _), ?_⟩
    intro ds x h
    unfold law24_CommandPuts_un at h
    split at h
    · cases h; rfl
    · cases h
  · exact .inl rfl
noncomputable def S65 : List (Nat × Sig) := (4, law24_CommandPuts_sig) :: S64
theorem S65_ok : ListOk Try.prog S65 := ListOk.cons S64_ok law24_CommandPuts_ok
noncomputable def cmd_Read_D : Sig := { cmd_Read_sig with dr := true }
theorem cmd_Read_D_ok : SigOk Try.prog 17 cmd_Read_D := cmd_Read_ok
noncomputable def S66 : List (Nat × Sig) := (17, cmd_Read_D) :: S65
theorem S66_ok : ListOk Try.prog S66 := ListOk.cons S65_ok cmd_Read_D_ok
noncomputable def law24_CommandApart_C : Cfg := { P := Try.prog, sig := lookSig S66, hb := fun _ _ => none, hr := fun _ _ => none, ps := lookP P33 }
noncomputable def law24_CommandApart_un : List DV → Option (Bool) := fun | [⟨.bool, r0⟩] => some r0 | _ => none
noncomputable def law24_CommandApart_mk : Bool → List DV := fun r0 => [⟨.bool, r0⟩]
theorem law24_CommandApart_ex : ∃ f : (Int) → (Int) → (Int) → (ByteArray) → (ByteArray) → (Int) → (List ByteArray) → (List Int) → (Int) → (Int) → (Int) → (Int) → (List Int) → (Int) → (List Int) → Option (Bool), f = fun (x0 : Int) (x1 : Int) (x2 : Int) (x3 : ByteArray) (x4 : ByteArray) (x5 : Int) (x6 : List ByteArray) (x7 : List Int) (x8 : Int) (x9 : Int) (x10 : Int) (x11 : Int) (x12 : List Int) (x13 : Int) (x14 : List Int) => funRun law24_CommandApart_C 3 5 [(true, [(false, .int .i64), (false, .int .i64), (false, .int .i64), (false, .str), (false, .str), (false, .int .i64), (false, .slice (.str)), (false, .slice (.int .i64)), (false, .int .i64), (false, .int .i64), (false, .int .i64), (false, .int .i64), (false, .slice (.int .u8))]), (false, [(false, .int .i64)]), (false, [(false, .slice (.int .u8))])] [(false, [(false, .bool)])] law24_CommandApart_un [⟨.int .i64, x0⟩, ⟨.int .i64, x1⟩, ⟨.int .i64, x2⟩, ⟨.str, x3⟩, ⟨.str, x4⟩, ⟨.int .i64, x5⟩, ⟨.slice (.str), x6⟩, ⟨.slice (.int .i64), x7⟩, ⟨.int .i64, x8⟩, ⟨.int .i64, x9⟩, ⟨.int .i64, x10⟩, ⟨.int .i64, x11⟩, ⟨.slice (.int .u8), x12⟩, ⟨.int .i64, x13⟩, ⟨.slice (.int .u8), x14⟩] := ⟨_, rfl⟩
noncomputable def law24_CommandApart : (Int) → (Int) → (Int) → (ByteArray) → (ByteArray) → (Int) → (List ByteArray) → (List Int) → (Int) → (Int) → (Int) → (Int) → (List Int) → (Int) → (List Int) → Option (Bool) := law24_CommandApart_ex.choose
theorem law24_CommandApart_raw (x0 : Int) (x1 : Int) (x2 : Int) (x3 : ByteArray) (x4 : ByteArray) (x5 : Int) (x6 : List ByteArray) (x7 : List Int) (x8 : Int) (x9 : Int) (x10 : Int) (x11 : Int) (x12 : List Int) (x13 : Int) (x14 : List Int) : law24_CommandApart x0 x1 x2 x3 x4 x5 x6 x7 x8 x9 x10 x11 x12 x13 x14 = funRun law24_CommandApart_C 3 5 [(true, [(false, .int .i64), (false, .int .i64), (false, .int .i64), (false, .str), (false, .str), (false, .int .i64), (false, .slice (.str)), (false, .slice (.int .i64)), (false, .int .i64), (false, .int .i64), (false, .int .i64), (false, .int .i64), (false, .slice (.int .u8))]), (false, [(false, .int .i64)]), (false, [(false, .slice (.int .u8))])] [(false, [(false, .bool)])] law24_CommandApart_un [⟨.int .i64, x0⟩, ⟨.int .i64, x1⟩, ⟨.int .i64, x2⟩, ⟨.str, x3⟩, ⟨.str, x4⟩, ⟨.int .i64, x5⟩, ⟨.slice (.str), x6⟩, ⟨.slice (.int .i64), x7⟩, ⟨.int .i64, x8⟩, ⟨.int .i64, x9⟩, ⟨.int .i64, x10⟩, ⟨.int .i64, x11⟩, ⟨.slice (.int .u8), x12⟩, ⟨.int .i64, x13⟩, ⟨.slice (.int .u8), x14⟩] := congrFun (congrFun (congrFun (congrFun (congrFun (congrFun (congrFun (congrFun (congrFun (congrFun (congrFun (congrFun (congrFun (congrFun (congrFun (law24_CommandApart_ex.choose_spec) x0) x1) x2) x3) x4) x5) x6) x7) x8) x9) x10) x11) x12) x13) x14
theorem law24_CommandApart_eq (x0 : Int) (x1 : Int) (x2 : Int) (x3 : ByteArray) (x4 : ByteArray) (x5 : Int) (x6 : List ByteArray) (x7 : List Int) (x8 : Int) (x9 : Int) (x10 : Int) (x11 : Int) (x12 : List Int) (x13 : Int) (x14 : List Int) : law24_CommandApart x0 x1 x2 x3 x4 x5 x6 x7 x8 x9 x10 x11 x12 x13 x14 =
  (law24_light x0 x1 x2 x3 x4 x5 x6 x7 x8 x9 x10 x11 x12).bind fun val0 =>
  bif !val0
    then (law24_works).bind fun val4 =>
      some (val4)
    else bif decide (ilen x14 > 500)
      then (law24_works).bind fun val6 =>
        some (val6)
      else bif ilen x14 == 0
        then (law24_works).bind fun val8 =>
          some (val8)
        else (cmd_Put x0 x1 x2 x3 x4 x5 x6 x7 x8 x9 x10 x11 x12).bind fun val8 =>
          bif val8.2 != 0
            then (law24_works).bind fun val12 =>
              some (val12)
            else bif ilen val8.1 == 0
              then (law24_works).bind fun val14 =>
                some (val14)
              else bif decide (IntKind.u64.wrap (ilen val8.1) = 0)
                then none
                else bif decide (0 ≤ IntKind.i64.wrap ((IntKind.u64.wrap x13).tmod (IntKind.u64.wrap (ilen val8.1))))
                  then bif decide (IntKind.i64.wrap ((IntKind.u64.wrap x13).tmod (IntKind.u64.wrap (ilen val8.1))) ≤ ilen val8.1)
                    then bif (Int.toNat 0 + ((IntKind.i64.wrap ((IntKind.u64.wrap x13).tmod (IntKind.u64.wrap (ilen val8.1)))).toNat - Int.toNat 0)).ble val8.1.length
                      then (cmd_Read (List.take ((IntKind.i64.wrap ((IntKind.u64.wrap x13).tmod (IntKind.u64.wrap (ilen val8.1)))).toNat - Int.toNat 0) (List.drop (Int.toNat 0) val8.1))).bind fun val22 =>
                        bif decide ((ilen val8.1 + ilen x14) * 1 ≤ room)
                          then (cmd_Read (val8.1 ++ x14)).bind fun val26 =>
                            bif val22.2.2.2.2.2.2.2.2.2.2.2.2.2 != 0
                              then bif val26.2.2.2.2.2.2.2.2.2.2.2.2.2 != 0
                                then (law24_works).bind fun val32 =>
                                  some (val32)
                                else some false
                              else some false
                          else none
                      else none
                    else bif decide (IntKind.i64.wrap ((IntKind.u64.wrap x13).tmod (IntKind.u64.wrap (ilen val8.1))) ≤ ↑0)
                      then bif (Int.toNat 0 + ((IntKind.i64.wrap ((IntKind.u64.wrap x13).tmod (IntKind.u64.wrap (ilen val8.1)))).toNat - Int.toNat 0)).ble val8.1.length
                        then (cmd_Read (List.take ((IntKind.i64.wrap ((IntKind.u64.wrap x13).tmod (IntKind.u64.wrap (ilen val8.1)))).toNat - Int.toNat 0) (List.drop (Int.toNat 0) val8.1))).bind fun val24 =>
                          bif decide ((ilen val8.1 + ilen x14) * 1 ≤ room)
                            then (cmd_Read (val8.1 ++ x14)).bind fun val28 =>
                              bif val24.2.2.2.2.2.2.2.2.2.2.2.2.2 != 0
                                then bif val28.2.2.2.2.2.2.2.2.2.2.2.2.2 != 0
                                  then (law24_works).bind fun val34 =>
                                    some (val34)
                                  else some false
                                else some false
                            else none
                        else none
                      else none
                  else none := (law24_CommandApart_raw x0 x1 x2 x3 x4 x5 x6 x7 x8 x9 x10 x11 x12 x13 x14).trans (by kernel_rfl)
noncomputable def law24_CommandApart_sig : Sig := { pm := [(true, [(false, .int .i64), (false, .int .i64), (false, .int .i64), (false, .str), (false, .str), (false, .int .i64), (false, .slice (.str)), (false, .slice (.int .i64)), (false, .int .i64), (false, .int .i64), (false, .int .i64), (false, .int .i64), (false, .slice (.int .u8))]), (false, [(false, .int .i64)]), (false, [(false, .slice (.int .u8))])], rm := [(false, [(false, .bool)])], f := fun | [⟨.int .i64, x0⟩, ⟨.int .i64, x1⟩, ⟨.int .i64, x2⟩, ⟨.str, x3⟩, ⟨.str, x4⟩, ⟨.int .i64, x5⟩, ⟨.slice (.str), x6⟩, ⟨.slice (.int .i64), x7⟩, ⟨.int .i64, x8⟩, ⟨.int .i64, x9⟩, ⟨.int .i64, x10⟩, ⟨.int .i64, x11⟩, ⟨.slice (.int .u8), x12⟩, ⟨.int .i64, x13⟩, ⟨.slice (.int .u8), x14⟩] => .yes _ (law24_CommandApart x0 x1 x2 x3 x4 x5 x6 x7 x8 x9 x10 x11 x12 x13 x14) law24_CommandApart_mk | _ => .no }
theorem law24_CommandApart_ok : SigOk Try.prog 5 law24_CommandApart_sig := by
  refine contract_of (C := law24_CommandApart_C) (d := 3) ⟨S66_ok, P33_ok⟩ (callable_ex (by kernel_rfl)) ?_
  intro dvs
  unfold law24_CommandApart_sig
  dsimp only
  split
  · refine .inr ⟨_, law24_CommandApart_un, law24_CommandApart_mk, congrArg (fun o => Cl.yes _ o _) (law24_CommandApart_raw _ _ _ _ _ _ _ _ _ _ _ _ _ _ _), ?_⟩
    intro ds x h
    unfold law24_CommandApart_un at h
    split at h
    · cases h; rfl
    · cases h
  · exact .inl rfl
noncomputable def S67 : List (Nat × Sig) := (5, law24_CommandApart_sig) :: S66
theorem S67_ok : ListOk Try.prog S67 := ListOk.cons S66_ok law24_CommandApart_ok
end Go.Proofs.Ytgaihonnbdhbmaa.PE

