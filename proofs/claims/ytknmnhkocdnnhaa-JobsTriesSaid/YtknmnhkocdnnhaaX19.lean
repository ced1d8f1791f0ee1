import Derived.Test.YtknmnhkocdnnhaaEFun
import Derived.KernelRfl
namespace Go.Proofs.Ytknmnhkocdnnhaa.PE
set_option linter.unusedVariables false
open Go.Proofs
noncomputable def S0 : List (Nat × Sig) := []
theorem S0_ok : ListOk Try.prog S0 := ListOk.nil
noncomputable def jobs_Clone_C : Cfg := { P := Try.prog, sig := lookSig S0, hb := fun _ _ => none, hr := fun _ _ => none }
noncomputable def jobs_Clone_un : List DV → Option ((List (Int × Int × Int × ByteArray × Int × ByteArray × Int))) := fun | [⟨.slice (.pair (.int .i64) (.pair (.int .i64) (.pair (.int .i64) (.pair (.str) (.pair (.int .i64) (.pair (.str) (.int .i64))))))), r0⟩] => some r0 | _ => none
noncomputable def jobs_Clone_mk : (List (Int × Int × Int × ByteArray × Int × ByteArray × Int)) → List DV := fun r0 => [⟨.slice (.pair (.int .i64) (.pair (.int .i64) (.pair (.int .i64) (.pair (.str) (.pair (.int .i64) (.pair (.str) (.int .i64))))))), r0⟩]
theorem jobs_Clone_ex : ∃ f : (List (Int × Int × Int × ByteArray × Int × ByteArray × Int)) → Option ((List (Int × Int × Int × ByteArray × Int × ByteArray × Int))), f = fun (x0 : List (Int × Int × Int × ByteArray × Int × ByteArray × Int)) => avRun jobs_Clone_C 3 33 [(false, [(true, .slice (.pair (.int .i64) (.pair (.int .i64) (.pair (.int .i64) (.pair (.str) (.pair (.int .i64) (.pair (.str) (.int .i64))))))))])] jobs_Clone_un [.fz (.pair (.int .i64) (.pair (.int .i64) (.pair (.int .i64) (.pair (.str) (.pair (.int .i64) (.pair (.str) (.int .i64))))))) x0 false true] := ⟨_, rfl⟩
noncomputable def jobs_Clone : (List (Int × Int × Int × ByteArray × Int × ByteArray × Int)) → Option ((List (Int × Int × Int × ByteArray × Int × ByteArray × Int))) := jobs_Clone_ex.choose
theorem jobs_Clone_raw (x0 : List (Int × Int × Int × ByteArray × Int × ByteArray × Int)) : jobs_Clone x0 = avRun jobs_Clone_C 3 33 [(false, [(true, .slice (.pair (.int .i64) (.pair (.int .i64) (.pair (.int .i64) (.pair (.str) (.pair (.int .i64) (.pair (.str) (.int .i64))))))))])] jobs_Clone_un [.fz (.pair (.int .i64) (.pair (.int .i64) (.pair (.int .i64) (.pair (.str) (.pair (.int .i64) (.pair (.str) (.int .i64))))))) x0 false true] := congrFun (jobs_Clone_ex.choose_spec) x0
theorem jobs_Clone_eq (x0 : List (Int × Int × Int × ByteArray × Int × ByteArray × Int)) : jobs_Clone x0 =
  bif decide ((0 + ilen x0) * 72 ≤ room)
  then some ([] ++ x0)
  else none := (jobs_Clone_raw x0).trans (by kernel_rfl)
theorem jobs_Clone_nil : avRun jobs_Clone_C 3 33 [(false, [(true, .slice (.pair (.int .i64) (.pair (.int .i64) (.pair (.int .i64) (.pair (.str) (.pair (.int .i64) (.pair (.str) (.int .i64))))))))])] jobs_Clone_un [.nils] = some ([]) := by kernel_rfl
noncomputable def jobs_Clone_sig : Sig := { pm := [(false, [(false, .slice (.pair (.int .i64) (.pair (.int .i64) (.pair (.int .i64) (.pair (.str) (.pair (.int .i64) (.pair (.str) (.int .i64))))))))])], rm := [(false, [(true, .slice (.pair (.int .i64) (.pair (.int .i64) (.pair (.int .i64) (.pair (.str) (.pair (.int .i64) (.pair (.str) (.int .i64))))))))])], f := fun | [⟨.slice (.pair (.int .i64) (.pair (.int .i64) (.pair (.int .i64) (.pair (.str) (.pair (.int .i64) (.pair (.str) (.int .i64))))))), x0⟩] => .yes _ (jobs_Clone x0) jobs_Clone_mk | _ => .no }
theorem jobs_Clone_ok : SigOk Try.prog 33 jobs_Clone_sig := by
  refine contract_slice (C := jobs_Clone_C) (d := 3) S0_ok rfl (callable_ex (by kernel_rfl)) ?_
  intro dvs
  unfold jobs_Clone_sig
  dsimp only
  split
  · refine .inr ⟨_, jobs_Clone_un, jobs_Clone_mk, _, rfl, congrArg (fun o => Cl.yes _ o _) (jobs_Clone_raw _), ?_, ?_⟩
    · intro ds x h
      unfold jobs_Clone_un at h
      split at h
      · cases h; rfl
      · cases h
    · intro x hl ho
      subst hl
      rw [← jobs_Clone_raw, jobs_Clone_eq] at ho
      rw [jobs_Clone_nil]
      simpa [ilen, room] using ho
  · exact .inl rfl
noncomputable def S1 : List (Nat × Sig) := (33, jobs_Clone_sig) :: S0
theorem S1_ok : ListOk Try.prog S1 := ListOk.cons S0_ok jobs_Clone_ok
noncomputable def ref19_in_C : Cfg := { P := Try.prog, sig := lookSig S1, hb := fun _ _ => none, hr := fun _ _ => none }
noncomputable def ref19_in_un : List DV → Option (Bool) := fun | [⟨.bool, r0⟩] => some r0 | _ => none
noncomputable def ref19_in_mk : Bool → List DV := fun r0 => [⟨.bool, r0⟩]
theorem ref19_in_ex : ∃ f : (Int) → (Int) → (Int) → Option (Bool), f = fun (x0 : Int) (x1 : Int) (x2 : Int) => funRun ref19_in_C 3 36 [(false, [(false, .int .i64)]), (false, [(false, .int .i64)]), (false, [(false, .int .i64)])] [(false, [(false, .bool)])] ref19_in_un [⟨.int .i64, x0⟩, ⟨.int .i64, x1⟩, ⟨.int .i64, x2⟩] := ⟨_, rfl⟩
noncomputable def ref19_in : (Int) → (Int) → (Int) → Option (Bool) := ref19_in_ex.choose
theorem ref19_in_raw (x0 : Int) (x1 : Int) (x2 : Int) : ref19_in x0 x1 x2 = funRun ref19_in_C 3 36 [(false, [(false, .int .i64)]), (false, [(false, .int .i64)]), (false, [(false, .int .i64)])] [(false, [(false, .bool)])] ref19_in_un [⟨.int .i64, x0⟩, ⟨.int .i64, x1⟩, ⟨.int .i64, x2⟩] := congrFun (congrFun (congrFun (ref19_in_ex.choose_spec) x0) x1) x2
theorem ref19_in_eq (x0 : Int) (x1 : Int) (x2 : Int) : ref19_in x0 x1 x2 =
  bif decide (x0 ≥ x1)
  then some (decide (x0 ≤ x2))
  else some false := (ref19_in_raw x0 x1 x2).trans (by kernel_rfl)
noncomputable def ref19_in_sig : Sig := { pm := [(false, [(false, .int .i64)]), (false, [(false, .int .i64)]), (false, [(false, .int .i64)])], rm := [(false, [(false, .bool)])], f := fun | [⟨.int .i64, x0⟩, ⟨.int .i64, x1⟩, ⟨.int .i64, x2⟩] => .yes _ (ref19_in x0 x1 x2) ref19_in_mk | _ => .no }
theorem ref19_in_ok : SigOk Try.prog 36 ref19_in_sig := by
  refine contract_of (C := ref19_in_C) (d := 3) S1_ok (callable_ex (by kernel_rfl)) ?_
  intro dvs
  unfold ref19_in_sig
  dsimp only
  split
  · refine .inr ⟨_, ref19_in_un, ref19_in_mk, congrArg (fun o => Cl.yes _ o _) (ref19_in_raw _ _ _), ?_⟩
    intro ds x h
    unfold ref19_in_un at h
    split at h
    · cases h; rfl
    · cases h
  · exact .inl rfl
noncomputable def S2 : List (Nat × Sig) := (36, ref19_in_sig) :: S1
theorem S2_ok : ListOk Try.prog S2 := ListOk.cons S1_ok ref19_in_ok
noncomputable def ref02_Name_C : Cfg := { P := Try.prog, sig := lookSig S2, hb := fun f b => bif Nat.beq f 35 && Nat.beq b 0 then some { tmps := [0, 3], obs := [], nils := [], kl := [] } else none, hr := fun _ _ => none }
noncomputable def ref02_Name_un : List DV → Option (Bool) := fun | [⟨.bool, r0⟩] => some r0 | _ => none
noncomputable def ref02_Name_mk : Bool → List DV := fun r0 => [⟨.bool, r0⟩]
theorem ref02_Name_ex : ∃ f : (ByteArray) → Option (Bool), f = fun (x0 : ByteArray) => funRun ref02_Name_C 3 35 [(false, [(false, .str)])] [(false, [(false, .bool)])] ref02_Name_un [⟨.str, x0⟩] := ⟨_, rfl⟩
noncomputable def ref02_Name : (ByteArray) → Option (Bool) := ref02_Name_ex.choose
theorem ref02_Name_raw (x0 : ByteArray) : ref02_Name x0 = funRun ref02_Name_C 3 35 [(false, [(false, .str)])] [(false, [(false, .bool)])] ref02_Name_un [⟨.str, x0⟩] := congrFun (ref02_Name_ex.choose_spec) x0
noncomputable def ref02_Name_l0 (y0 : ByteArray) (y1 : Int) : Option (Bool) := loopAt ref02_Name_C 3 35 [(false, [(false, .bool)])] ref02_Name_un [true, true, false, true, false] (St.ofLists [(0, .str y0), (3, .int .i64 y1)] [] [])
theorem ref02_Name_eq (x0 : ByteArray) : ref02_Name x0 =
  bif isize x0 == 0
  then some false
  else bif decide (isize x0 > 32)
    then some false
    else (x0.data[Int.toNat 0]?).bind fun val4 =>
      bif decide ((val4.toNat : Int) < 97)
        then some false
        else ref02_Name_l0 (x0) (0) := (ref02_Name_raw x0).trans (by kernel_rfl)
theorem ref02_Name_l0_eq (y0 : ByteArray) (y1 : Int) : ref02_Name_l0 y0 y1 =
  bif decide (y1 < isize y0)
  then bif decide (0 ≤ y1)
    then (y0.data[y1.toNat]?).bind fun val4 =>
      bif decide ((val4.toNat : Int) ≥ 48)
        then bif decide (0 ≤ y1)
          then (y0.data[y1.toNat]?).bind fun val10 =>
            bif decide (0 ≤ y1)
              then (y0.data[y1.toNat]?).bind fun val14 =>
                bif decide ((val14.toNat : Int) ≥ 97)
                  then bif decide (0 ≤ y1)
                    then (y0.data[y1.toNat]?).bind fun val20 =>
                      bif !decide ((val10.toNat : Int) ≤ 57)
                        then bif !decide ((val20.toNat : Int) ≤ 122)
                          then some false
                          else ref02_Name_l0 (y0) (IntKind.i64.wrap (y1 + 1))
                        else ref02_Name_l0 (y0) (IntKind.i64.wrap (y1 + 1))
                    else none
                  else bif !decide ((val10.toNat : Int) ≤ 57)
                    then some false
                    else ref02_Name_l0 (y0) (IntKind.i64.wrap (y1 + 1))
              else none
          else none
        else bif decide (0 ≤ y1)
          then (y0.data[y1.toNat]?).bind fun val10 =>
            bif decide ((val10.toNat : Int) ≥ 97)
              then bif decide (0 ≤ y1)
                then (y0.data[y1.toNat]?).bind fun val16 =>
                  bif !decide ((val16.toNat : Int) ≤ 122)
                    then some false
                    else ref02_Name_l0 (y0) (IntKind.i64.wrap (y1 + 1))
                else none
              else some false
          else none
    else none
  else some true := (loopAt_step _ _ _ _ _ _ _).trans (by kernel_rfl)
noncomputable def ref02_Name_sig : Sig := { pm := [(false, [(false, .str)])], rm := [(false, [(false, .bool)])], f := fun | [⟨.str, x0⟩] => .yes _ (ref02_Name x0) ref02_Name_mk | _ => .no }
theorem ref02_Name_ok : SigOk Try.prog 35 ref02_Name_sig := by
  refine contract_of (C := ref02_Name_C) (d := 3) S2_ok (callable_ex (by kernel_rfl)) ?_
  intro dvs
  unfold ref02_Name_sig
  dsimp only
  split
  · refine .inr ⟨_, ref02_Name_un, ref02_Name_mk, congrArg (fun o => Cl.yes _ o _) (ref02_Name_raw _), ?_⟩
    intro ds x h
    unfold ref02_Name_un at h
    split at h
    · cases h; rfl
    · cases h
  · exact .inl rfl
noncomputable def S3 : List (Nat × Sig) := (35, ref02_Name_sig) :: S2
theorem S3_ok : ListOk Try.prog S3 := ListOk.cons S2_ok ref02_Name_ok
noncomputable def pack_Name_C : Cfg := { P := Try.prog, sig := lookSig S3, hb := fun f b => bif Nat.beq f 30 && Nat.beq b 0 then some { tmps := [0, 7, 8, 9], obs := [156], nils := [], kl := [156] } else none, hr := fun _ _ => none }
noncomputable def pack_Name_un : List DV → Option (Bool) := fun | [⟨.bool, r0⟩] => some r0 | _ => none
noncomputable def pack_Name_mk : Bool → List DV := fun r0 => [⟨.bool, r0⟩]
theorem pack_Name_ex : ∃ f : (ByteArray) → Option (Bool), f = fun (x0 : ByteArray) => funRun pack_Name_C 3 30 [(false, [(false, .str)])] [(false, [(false, .bool)])] pack_Name_un [⟨.str, x0⟩] := ⟨_, rfl⟩
noncomputable def pack_Name : (ByteArray) → Option (Bool) := pack_Name_ex.choose
theorem pack_Name_raw (x0 : ByteArray) : pack_Name x0 = funRun pack_Name_C 3 30 [(false, [(false, .str)])] [(false, [(false, .bool)])] pack_Name_un [⟨.str, x0⟩] := congrFun (pack_Name_ex.choose_spec) x0
noncomputable def pack_Name_l0 (y0 : ByteArray) (y1 : Int) (y2 : Int) (y3 : List (Int)) : Option (Bool) := loopAt pack_Name_C 3 30 [(false, [(false, .bool)])] pack_Name_un [true, false, true, false] (St.ofLists [(0, .str y0), (7, .ow 156), (8, .int .i64 y1), (9, .int .i64 y2)] [(156, some (.row (Ty.int IntKind.u8) y3 0 false))] [156])
theorem pack_Name_eq (x0 : ByteArray) : pack_Name x0 =
  pack_Name_l0 (x0) (ilen (bytesList x0)) (0) (bytesList x0) := (pack_Name_raw x0).trans (by kernel_rfl)
theorem pack_Name_l0_eq (y0 : ByteArray) (y1 : Int) (y2 : Int) (y3 : List (Int)) : pack_Name_l0 y0 y1 y2 y3 =
  bif decide (y2 < y1)
  then bif decide (0 ≤ y2)
    then bif decide (y2 < ilen y3)
      then (y3[y2.toNat]?).bind fun val6 =>
        bif decide (val6 ≥ 97)
          then bif !decide (val6 ≤ 122)
            then bif y2 == 0
              then some false
              else bif decide (val6 < 48)
                then some false
                else bif decide (val6 > 57)
                  then some false
                  else pack_Name_l0 (y0) (y1) (IntKind.i64.wrap (y2 + 1)) (y3)
            else pack_Name_l0 (y0) (y1) (IntKind.i64.wrap (y2 + 1)) (y3)
          else bif y2 == 0
            then some false
            else bif decide (val6 < 48)
              then some false
              else bif decide (val6 > 57)
                then some false
                else pack_Name_l0 (y0) (y1) (IntKind.i64.wrap (y2 + 1)) (y3)
      else none
    else none
  else bif decide (isize y0 ≥ 1)
    then some (decide (isize y0 ≤ 32))
    else some false := (loopAt_step _ _ _ _ _ _ _).trans (by kernel_rfl)
noncomputable def pack_Name_sig : Sig := { pm := [(false, [(false, .str)])], rm := [(false, [(false, .bool)])], f := fun | [⟨.str, x0⟩] => .yes _ (pack_Name x0) pack_Name_mk | _ => .no }
theorem pack_Name_ok : SigOk Try.prog 30 pack_Name_sig := by
  refine contract_of (C := pack_Name_C) (d := 3) S3_ok (callable_ex (by kernel_rfl)) ?_
  intro dvs
  unfold pack_Name_sig
  dsimp only
  split
  · refine .inr ⟨_, pack_Name_un, pack_Name_mk, congrArg (fun o => Cl.yes _ o _) (pack_Name_raw _), ?_⟩
    intro ds x h
    unfold pack_Name_un at h
    split at h
    · cases h; rfl
    · cases h
  · exact .inl rfl
noncomputable def S4 : List (Nat × Sig) := (30, pack_Name_sig) :: S3
theorem S4_ok : ListOk Try.prog S4 := ListOk.cons S3_ok pack_Name_ok
noncomputable def ref19_Job_C : Cfg := { P := Try.prog, sig := lookSig S4, hb := fun _ _ => none, hr := fun _ _ => none }
noncomputable def ref19_Job_un : List DV → Option (Bool) := fun | [⟨.bool, r0⟩] => some r0 | _ => none
noncomputable def ref19_Job_mk : Bool → List DV := fun r0 => [⟨.bool, r0⟩]
theorem ref19_Job_ex : ∃ f : (Int) → (Int) → (Int) → (ByteArray) → (Int) → (ByteArray) → (Int) → Option (Bool), f = fun (x0 : Int) (x1 : Int) (x2 : Int) (x3 : ByteArray) (x4 : Int) (x5 : ByteArray) (x6 : Int) => funRun ref19_Job_C 3 31 [(true, [(false, .int .i64), (false, .int .i64), (false, .int .i64), (false, .str), (false, .int .i64), (false, .str), (false, .int .i64)])] [(false, [(false, .bool)])] ref19_Job_un [⟨.int .i64, x0⟩, ⟨.int .i64, x1⟩, ⟨.int .i64, x2⟩, ⟨.str, x3⟩, ⟨.int .i64, x4⟩, ⟨.str, x5⟩, ⟨.int .i64, x6⟩] := ⟨_, rfl⟩
noncomputable def ref19_Job : (Int) → (Int) → (Int) → (ByteArray) → (Int) → (ByteArray) → (Int) → Option (Bool) := ref19_Job_ex.choose
theorem ref19_Job_raw (x0 : Int) (x1 : Int) (x2 : Int) (x3 : ByteArray) (x4 : Int) (x5 : ByteArray) (x6 : Int) : ref19_Job x0 x1 x2 x3 x4 x5 x6 = funRun ref19_Job_C 3 31 [(true, [(false, .int .i64), (false, .int .i64), (false, .int .i64), (false, .str), (false, .int .i64), (false, .str), (false, .int .i64)])] [(false, [(false, .bool)])] ref19_Job_un [⟨.int .i64, x0⟩, ⟨.int .i64, x1⟩, ⟨.int .i64, x2⟩, ⟨.str, x3⟩, ⟨.int .i64, x4⟩, ⟨.str, x5⟩, ⟨.int .i64, x6⟩] := congrFun (congrFun (congrFun (congrFun (congrFun (congrFun (congrFun (ref19_Job_ex.choose_spec) x0) x1) x2) x3) x4) x5) x6
theorem ref19_Job_eq (x0 : Int) (x1 : Int) (x2 : Int) (x3 : ByteArray) (x4 : Int) (x5 : ByteArray) (x6 : Int) : ref19_Job x0 x1 x2 x3 x4 x5 x6 =
  (ref19_in x0 1 1099511627776).bind fun val0 =>
  bif !val0
    then some false
    else (ref19_in x1 1 1099511627776).bind fun val4 =>
      bif !val4
        then some false
        else (ref19_in x2 1 1099511627776).bind fun val8 =>
          bif !val8
            then some false
            else (ref19_in x4 0 9).bind fun val12 =>
              bif !val12
                then some false
                else (ref19_in x6 0 1099511627776).bind fun val16 =>
                  bif !val16
                    then some false
                    else (ref02_Name x3).bind fun val20 =>
                      bif !val20
                        then some false
                        else bif x5.toList == (⟨#[]⟩ : ByteArray).toList
                          then some (x6 == 0)
                          else (ref02_Name x5).bind fun val26 =>
                            bif val26
                              then some (decide (x4 > 0))
                              else some false := (ref19_Job_raw x0 x1 x2 x3 x4 x5 x6).trans (by kernel_rfl)
noncomputable def ref19_Job_sig : Sig := { pm := [(true, [(false, .int .i64), (false, .int .i64), (false, .int .i64), (false, .str), (false, .int .i64), (false, .str), (false, .int .i64)])], rm := [(false, [(false, .bool)])], f := fun | [⟨.int .i64, x0⟩, ⟨.int .i64, x1⟩, ⟨.int .i64, x2⟩, ⟨.str, x3⟩, ⟨.int .i64, x4⟩, ⟨.str, x5⟩, ⟨.int .i64, x6⟩] => .yes _ (ref19_Job x0 x1 x2 x3 x4 x5 x6) ref19_Job_mk | _ => .no }
theorem ref19_Job_ok : SigOk Try.prog 31 ref19_Job_sig := by
  refine contract_of (C := ref19_Job_C) (d := 3) S4_ok (callable_ex (by kernel_rfl)) ?_
  intro dvs
  unfold ref19_Job_sig
  dsimp only
  split
  · refine .inr ⟨_, ref19_Job_un, ref19_Job_mk, congrArg (fun o => Cl.yes _ o _) (ref19_Job_raw _ _ _ _ _ _ _), ?_⟩
    intro ds x h
    unfold ref19_Job_un at h
    split at h
    · cases h; rfl
    · cases h
  · exact .inl rfl
noncomputable def S5 : List (Nat × Sig) := (31, ref19_Job_sig) :: S4
theorem S5_ok : ListOk Try.prog S5 := ListOk.cons S4_ok ref19_Job_ok
noncomputable def ref19_Check_C : Cfg := { P := Try.prog, sig := lookSig S5, hb := fun f b => bif Nat.beq f 11 && Nat.beq b 0 then some { tmps := [0, 3], obs := [], nils := [], kl := [] } else none, hr := fun _ _ => none }
noncomputable def ref19_Check_un : List DV → Option (Int) := fun | [⟨.int .i64, r0⟩] => some r0 | _ => none
noncomputable def ref19_Check_mk : Int → List DV := fun r0 => [⟨.int .i64, r0⟩]
theorem ref19_Check_ex : ∃ f : (List (Int × Int × Int × ByteArray × Int × ByteArray × Int)) → Option (Int), f = fun (x0 : List (Int × Int × Int × ByteArray × Int × ByteArray × Int)) => funRun ref19_Check_C 3 11 [(false, [(false, .slice (.pair (.int .i64) (.pair (.int .i64) (.pair (.int .i64) (.pair (.str) (.pair (.int .i64) (.pair (.str) (.int .i64))))))))])] [(false, [(false, .int .i64)])] ref19_Check_un [⟨.slice (.pair (.int .i64) (.pair (.int .i64) (.pair (.int .i64) (.pair (.str) (.pair (.int .i64) (.pair (.str) (.int .i64))))))), x0⟩] := ⟨_, rfl⟩
noncomputable def ref19_Check : (List (Int × Int × Int × ByteArray × Int × ByteArray × Int)) → Option (Int) := ref19_Check_ex.choose
theorem ref19_Check_raw (x0 : List (Int × Int × Int × ByteArray × Int × ByteArray × Int)) : ref19_Check x0 = funRun ref19_Check_C 3 11 [(false, [(false, .slice (.pair (.int .i64) (.pair (.int .i64) (.pair (.int .i64) (.pair (.str) (.pair (.int .i64) (.pair (.str) (.int .i64))))))))])] [(false, [(false, .int .i64)])] ref19_Check_un [⟨.slice (.pair (.int .i64) (.pair (.int .i64) (.pair (.int .i64) (.pair (.str) (.pair (.int .i64) (.pair (.str) (.int .i64))))))), x0⟩] := congrFun (ref19_Check_ex.choose_spec) x0
noncomputable def ref19_Check_l0 (y0 : List ((Int) × ((Int) × ((Int) × ((ByteArray) × ((Int) × ((ByteArray) × (Int)))))))) (y1 : Int) : Option (Int) := loopAt ref19_Check_C 3 11 [(false, [(false, .int .i64)])] ref19_Check_un [true, false, true, false] (St.ofLists [(0, .fz ((Ty.int IntKind.i64).pair ((Ty.int IntKind.i64).pair ((Ty.int IntKind.i64).pair (Ty.str.pair ((Ty.int IntKind.i64).pair (Ty.str.pair (Ty.int IntKind.i64))))))) y0 false false), (3, .int .i64 y1)] [] [])
theorem ref19_Check_eq (x0 : List (Int × Int × Int × ByteArray × Int × ByteArray × Int)) : ref19_Check x0 =
  ref19_Check_l0 (x0) (0) := (ref19_Check_raw x0).trans (by kernel_rfl)
theorem ref19_Check_l0_eq (y0 : List ((Int) × ((Int) × ((Int) × ((ByteArray) × ((Int) × ((ByteArray) × (Int)))))))) (y1 : Int) : ref19_Check_l0 y0 y1 =
  bif decide (y1 < ilen y0)
  then bif decide (0 ≤ y1)
    then (y0[y1.toNat]?).bind fun val4 =>
      (ref19_Job val4.fst val4.snd.fst val4.snd.snd.fst val4.snd.snd.snd.fst val4.snd.snd.snd.snd.fst val4.snd.snd.snd.snd.snd.fst val4.snd.snd.snd.snd.snd.snd).bind fun val6 =>
        bif !val6
          then some (1)
          else bif decide (y1 > 0)
            then bif decide (0 ≤ IntKind.i64.wrap (y1 - 1))
              then (y0[(IntKind.i64.wrap (y1 - 1)).toNat]?).bind fun val14 =>
                bif decide (0 ≤ y1)
                  then (y0[y1.toNat]?).bind fun val18 =>
                    bif decide (val14.fst ≥ val18.fst)
                      then some (1)
                      else ref19_Check_l0 (y0) (IntKind.i64.wrap (y1 + 1))
                  else none
              else none
            else ref19_Check_l0 (y0) (IntKind.i64.wrap (y1 + 1))
    else none
  else some (0) := (loopAt_step _ _ _ _ _ _ _).trans (by kernel_rfl)
noncomputable def ref19_Check_sig : Sig := { pm := [(false, [(false, .slice (.pair (.int .i64) (.pair (.int .i64) (.pair (.int .i64) (.pair (.str) (.pair (.int .i64) (.pair (.str) (.int .i64))))))))])], rm := [(false, [(false, .int .i64)])], f := fun | [⟨.slice (.pair (.int .i64) (.pair (.int .i64) (.pair (.int .i64) (.pair (.str) (.pair (.int .i64) (.pair (.str) (.int .i64))))))), x0⟩] => .yes _ (ref19_Check x0) ref19_Check_mk | _ => .no }
theorem ref19_Check_ok : SigOk Try.prog 11 ref19_Check_sig := by
  refine contract_of (C := ref19_Check_C) (d := 3) S5_ok (callable_ex (by kernel_rfl)) ?_
  intro dvs
  unfold ref19_Check_sig
  dsimp only
  split
  · refine .inr ⟨_, ref19_Check_un, ref19_Check_mk, congrArg (fun o => Cl.yes _ o _) (ref19_Check_raw _), ?_⟩
    intro ds x h
    unfold ref19_Check_un at h
    split at h
    · cases h; rfl
    · cases h
  · exact .inl rfl
noncomputable def S6 : List (Nat × Sig) := (11, ref19_Check_sig) :: S5
theorem S6_ok : ListOk Try.prog S6 := ListOk.cons S5_ok ref19_Check_ok
noncomputable def jobs_Check_C : Cfg := { P := Try.prog, sig := lookSig S6, hb := fun f b => bif Nat.beq f 10 && Nat.beq b 0 then some { tmps := [3, 6, 7, 8], obs := [], nils := [], kl := [140] } else none, hr := fun _ _ => none }
noncomputable def jobs_Check_un : List DV → Option (Int) := fun | [⟨.int .i64, r0⟩] => some r0 | _ => none
noncomputable def jobs_Check_mk : Int → List DV := fun r0 => [⟨.int .i64, r0⟩]
theorem jobs_Check_ex : ∃ f : (List (Int × Int × Int × ByteArray × Int × ByteArray × Int)) → Option (Int), f = fun (x0 : List (Int × Int × Int × ByteArray × Int × ByteArray × Int)) => funRun jobs_Check_C 3 10 [(false, [(false, .slice (.pair (.int .i64) (.pair (.int .i64) (.pair (.int .i64) (.pair (.str) (.pair (.int .i64) (.pair (.str) (.int .i64))))))))])] [(false, [(false, .int .i64)])] jobs_Check_un [⟨.slice (.pair (.int .i64) (.pair (.int .i64) (.pair (.int .i64) (.pair (.str) (.pair (.int .i64) (.pair (.str) (.int .i64))))))), x0⟩] := ⟨_, rfl⟩
noncomputable def jobs_Check : (List (Int × Int × Int × ByteArray × Int × ByteArray × Int)) → Option (Int) := jobs_Check_ex.choose
theorem jobs_Check_raw (x0 : List (Int × Int × Int × ByteArray × Int × ByteArray × Int)) : jobs_Check x0 = funRun jobs_Check_C 3 10 [(false, [(false, .slice (.pair (.int .i64) (.pair (.int .i64) (.pair (.int .i64) (.pair (.str) (.pair (.int .i64) (.pair (.str) (.int .i64))))))))])] [(false, [(false, .int .i64)])] jobs_Check_un [⟨.slice (.pair (.int .i64) (.pair (.int .i64) (.pair (.int .i64) (.pair (.str) (.pair (.int .i64) (.pair (.str) (.int .i64))))))), x0⟩] := congrFun (jobs_Check_ex.choose_spec) x0
noncomputable def jobs_Check_l0 (y0 : Int) (y1 : List ((Int) × ((Int) × ((Int) × ((ByteArray) × ((Int) × ((ByteArray) × (Int)))))))) (y2 : Int) (y3 : Int) : Option (Int) := loopAt jobs_Check_C 3 10 [(false, [(false, .int .i64)])] jobs_Check_un [true, true, false, true, false] (St.ofLists [(3, .int .i64 y0), (6, .fz ((Ty.int IntKind.i64).pair ((Ty.int IntKind.i64).pair ((Ty.int IntKind.i64).pair (Ty.str.pair ((Ty.int IntKind.i64).pair (Ty.str.pair (Ty.int IntKind.i64))))))) y1 false false), (7, .int .i64 y2), (8, .int .i64 y3)] [] [140])
theorem jobs_Check_eq (x0 : List (Int × Int × Int × ByteArray × Int × ByteArray × Int)) : jobs_Check x0 =
  jobs_Check_l0 (0) (x0) (ilen x0) (0) := (jobs_Check_raw x0).trans (by kernel_rfl)
theorem jobs_Check_l0_eq (y0 : Int) (y1 : List ((Int) × ((Int) × ((Int) × ((ByteArray) × ((Int) × ((ByteArray) × (Int)))))))) (y2 : Int) (y3 : Int) : jobs_Check_l0 y0 y1 y2 y3 =
  bif decide (y3 < y2)
  then bif decide (0 ≤ y3)
    then (y1[y3.toNat]?).bind fun val4 =>
      bif decide (val4.fst ≤ y0)
        then some (1)
        else bif decide (val4.fst > 1099511627776)
          then some (1)
          else bif decide (val4.snd.fst < 1)
            then some (1)
            else bif decide (val4.snd.fst > 1099511627776)
              then some (1)
              else bif decide (val4.snd.snd.fst < 1)
                then some (1)
                else bif decide (val4.snd.snd.fst > 1099511627776)
                  then some (1)
                  else (pack_Name val4.snd.snd.snd.fst).bind fun val18 =>
                    bif !val18
                      then some (1)
                      else bif !ByteArray.toList val4.snd.snd.snd.snd.snd.fst == (⟨#[]⟩ : ByteArray).toList
                        then (pack_Name val4.snd.snd.snd.snd.snd.fst).bind fun val24 =>
                          bif !val24
                            then some (1)
                            else bif decide (val4.snd.snd.snd.snd.fst < 0)
                              then some (1)
                              else bif decide (val4.snd.snd.snd.snd.fst > 9)
                                then some (1)
                                else bif decide (val4.snd.snd.snd.snd.snd.snd < 0)
                                  then some (1)
                                  else bif decide (val4.snd.snd.snd.snd.snd.snd > 1099511627776)
                                    then some (1)
                                    else bif ByteArray.toList val4.snd.snd.snd.snd.snd.fst == (⟨#[]⟩ : ByteArray).toList
                                      then bif val4.snd.snd.snd.snd.snd.snd != 0
                                        then some (1)
                                        else bif !ByteArray.toList val4.snd.snd.snd.snd.snd.fst == (⟨#[]⟩ : ByteArray).toList
                                          then bif val4.snd.snd.snd.snd.fst == 0
                                            then some (1)
                                            else jobs_Check_l0 (val4.fst) (y1) (y2) (IntKind.i64.wrap (y3 + 1))
                                          else jobs_Check_l0 (val4.fst) (y1) (y2) (IntKind.i64.wrap (y3 + 1))
                                      else bif !ByteArray.toList val4.snd.snd.snd.snd.snd.fst == (⟨#[]⟩ : ByteArray).toList
                                        then bif val4.snd.snd.snd.snd.fst == 0
                                          then some (1)
                                          else jobs_Check_l0 (val4.fst) (y1) (y2) (IntKind.i64.wrap (y3 + 1))
                                        else jobs_Check_l0 (val4.fst) (y1) (y2) (IntKind.i64.wrap (y3 + 1))
                        else bif decide (val4.snd.snd.snd.snd.fst < 0)
                          then some (1)
                          else bif decide (val4.snd.snd.snd.snd.fst > 9)
                            then some (1)
                            else bif decide (val4.snd.snd.snd.snd.snd.snd < 0)
                              then some (1)
                              else bif decide (val4.snd.snd.snd.snd.snd.snd > 1099511627776)
                                then some (1)
                                else bif ByteArray.toList val4.snd.snd.snd.snd.snd.fst == (⟨#[]⟩ : ByteArray).toList
                                  then bif val4.snd.snd.snd.snd.snd.snd != 0
                                    then some (1)
                                    else bif !ByteArray.toList val4.snd.snd.snd.snd.snd.fst == (⟨#[]⟩ : ByteArray).toList
                                      then bif val4.snd.snd.snd.snd.fst == 0
                                        then some (1)
                                        else jobs_Check_l0 (val4.fst) (y1) (y2) (IntKind.i64.wrap (y3 + 1))
                                      else jobs_Check_l0 (val4.fst) (y1) (y2) (IntKind.i64.wrap (y3 + 1))
                                  else bif !ByteArray.toList val4.snd.snd.snd.snd.snd.fst == (⟨#[]⟩ : ByteArray).toList
                                    then bif val4.snd.snd.snd.snd.fst == 0
                                      then some (1)
                                      else jobs_Check_l0 (val4.fst) (y1) (y2) (IntKind.i64.wrap (y3 + 1))
                                    else jobs_Check_l0 (val4.fst) (y1) (y2) (IntKind.i64.wrap (y3 + 1))
    else none
  else some (0) := (loopAt_step _ _ _ _ _ _ _).trans (by kernel_rfl)
noncomputable def jobs_Check_sig : Sig := { pm := [(false, [(false, .slice (.pair (.int .i64) (.pair (.int .i64) (.pair (.int .i64) (.pair (.str) (.pair (.int .i64) (.pair (.str) (.int .i64))))))))])], rm := [(false, [(false, .int .i64)])], f := fun | [⟨.slice (.pair (.int .i64) (.pair (.int .i64) (.pair (.int .i64) (.pair (.str) (.pair (.int .i64) (.pair (.str) (.int .i64))))))), x0⟩] => .yes _ (jobs_Check x0) jobs_Check_mk | _ => .no }
theorem jobs_Check_ok : SigOk Try.prog 10 jobs_Check_sig := by
  refine contract_of (C := jobs_Check_C) (d := 3) S6_ok (callable_ex (by kernel_rfl)) ?_
  intro dvs
  unfold jobs_Check_sig
  dsimp only
  split
  · refine .inr ⟨_, jobs_Check_un, jobs_Check_mk, congrArg (fun o => Cl.yes _ o _) (jobs_Check_raw _), ?_⟩
    intro ds x h
    unfold jobs_Check_un at h
    split at h
    · cases h; rfl
    · cases h
  · exact .inl rfl
noncomputable def S7 : List (Nat × Sig) := (10, jobs_Check_sig) :: S6
theorem S7_ok : ListOk Try.prog S7 := ListOk.cons S6_ok jobs_Check_ok
noncomputable def law19_light_C : Cfg := { P := Try.prog, sig := lookSig S7, hb := fun f b => bif Nat.beq f 8 && Nat.beq b 0 then some { tmps := [0, 3], obs := [], nils := [], kl := [] } else none, hr := fun _ _ => none }
noncomputable def law19_light_un : List DV → Option (Bool) := fun | [⟨.bool, r0⟩] => some r0 | _ => none
noncomputable def law19_light_mk : Bool → List DV := fun r0 => [⟨.bool, r0⟩]
theorem law19_light_ex : ∃ f : (List (Int × Int × Int × ByteArray × Int × ByteArray × Int)) → Option (Bool), f = fun (x0 : List (Int × Int × Int × ByteArray × Int × ByteArray × Int)) => funRun law19_light_C 3 8 [(false, [(false, .slice (.pair (.int .i64) (.pair (.int .i64) (.pair (.int .i64) (.pair (.str) (.pair (.int .i64) (.pair (.str) (.int .i64))))))))])] [(false, [(false, .bool)])] law19_light_un [⟨.slice (.pair (.int .i64) (.pair (.int .i64) (.pair (.int .i64) (.pair (.str) (.pair (.int .i64) (.pair (.str) (.int .i64))))))), x0⟩] := ⟨_, rfl⟩
noncomputable def law19_light : (List (Int × Int × Int × ByteArray × Int × ByteArray × Int)) → Option (Bool) := law19_light_ex.choose
theorem law19_light_raw (x0 : List (Int × Int × Int × ByteArray × Int × ByteArray × Int)) : law19_light x0 = funRun law19_light_C 3 8 [(false, [(false, .slice (.pair (.int .i64) (.pair (.int .i64) (.pair (.int .i64) (.pair (.str) (.pair (.int .i64) (.pair (.str) (.int .i64))))))))])] [(false, [(false, .bool)])] law19_light_un [⟨.slice (.pair (.int .i64) (.pair (.int .i64) (.pair (.int .i64) (.pair (.str) (.pair (.int .i64) (.pair (.str) (.int .i64))))))), x0⟩] := congrFun (law19_light_ex.choose_spec) x0
noncomputable def law19_light_l0 (y0 : List ((Int) × ((Int) × ((Int) × ((ByteArray) × ((Int) × ((ByteArray) × (Int)))))))) (y1 : Int) : Option (Bool) := loopAt law19_light_C 3 8 [(false, [(false, .bool)])] law19_light_un [true, true, false, true, false] (St.ofLists [(0, .fz ((Ty.int IntKind.i64).pair ((Ty.int IntKind.i64).pair ((Ty.int IntKind.i64).pair (Ty.str.pair ((Ty.int IntKind.i64).pair (Ty.str.pair (Ty.int IntKind.i64))))))) y0 false false), (3, .int .i64 y1)] [] [])
theorem law19_light_eq (x0 : List (Int × Int × Int × ByteArray × Int × ByteArray × Int)) : law19_light x0 =
  bif decide (ilen x0 > 200)
  then some false
  else law19_light_l0 (x0) (0) := (law19_light_raw x0).trans (by kernel_rfl)
theorem law19_light_l0_eq (y0 : List ((Int) × ((Int) × ((Int) × ((ByteArray) × ((Int) × ((ByteArray) × (Int)))))))) (y1 : Int) : law19_light_l0 y0 y1 =
  bif decide (y1 < ilen y0)
  then bif decide (0 ≤ y1)
    then (y0[y1.toNat]?).bind fun val4 =>
      bif decide (isize val4.snd.snd.snd.fst > 60)
        then some false
        else bif decide (0 ≤ y1)
          then (y0[y1.toNat]?).bind fun val10 =>
            bif decide (isize val10.snd.snd.snd.snd.snd.fst > 60)
              then some false
              else law19_light_l0 (y0) (IntKind.i64.wrap (y1 + 1))
          else none
    else none
  else some true := (loopAt_step _ _ _ _ _ _ _).trans (by kernel_rfl)
noncomputable def law19_light_sig : Sig := { pm := [(false, [(false, .slice (.pair (.int .i64) (.pair (.int .i64) (.pair (.int .i64) (.pair (.str) (.pair (.int .i64) (.pair (.str) (.int .i64))))))))])], rm := [(false, [(false, .bool)])], f := fun | [⟨.slice (.pair (.int .i64) (.pair (.int .i64) (.pair (.int .i64) (.pair (.str) (.pair (.int .i64) (.pair (.str) (.int .i64))))))), x0⟩] => .yes _ (law19_light x0) law19_light_mk | _ => .no }
theorem law19_light_ok : SigOk Try.prog 8 law19_light_sig := by
  refine contract_of (C := law19_light_C) (d := 3) S7_ok (callable_ex (by kernel_rfl)) ?_
  intro dvs
  unfold law19_light_sig
  dsimp only
  split
  · refine .inr ⟨_, law19_light_un, law19_light_mk, congrArg (fun o => Cl.yes _ o _) (law19_light_raw _), ?_⟩
    intro ds x h
    unfold law19_light_un at h
    split at h
    · cases h; rfl
    · cases h
  · exact .inl rfl
noncomputable def S8 : List (Nat × Sig) := (8, law19_light_sig) :: S7
theorem S8_ok : ListOk Try.prog S8 := ListOk.cons S7_ok law19_light_ok
noncomputable def law19_may_C : Cfg := { P := Try.prog, sig := lookSig S8, hb := fun _ _ => none, hr := fun _ _ => none }
noncomputable def law19_may_un : List DV → Option (Bool) := fun | [⟨.bool, r0⟩] => some r0 | _ => none
noncomputable def law19_may_mk : Bool → List DV := fun r0 => [⟨.bool, r0⟩]
theorem law19_may_ex : ∃ f : (List (Int × Int × Int × ByteArray × Int × ByteArray × Int)) → Option (Bool), f = fun (x0 : List (Int × Int × Int × ByteArray × Int × ByteArray × Int)) => funRun law19_may_C 3 17 [(false, [(false, .slice (.pair (.int .i64) (.pair (.int .i64) (.pair (.int .i64) (.pair (.str) (.pair (.int .i64) (.pair (.str) (.int .i64))))))))])] [(false, [(false, .bool)])] law19_may_un [⟨.slice (.pair (.int .i64) (.pair (.int .i64) (.pair (.int .i64) (.pair (.str) (.pair (.int .i64) (.pair (.str) (.int .i64))))))), x0⟩] := ⟨_, rfl⟩
noncomputable def law19_may : (List (Int × Int × Int × ByteArray × Int × ByteArray × Int)) → Option (Bool) := law19_may_ex.choose
theorem law19_may_raw (x0 : List (Int × Int × Int × ByteArray × Int × ByteArray × Int)) : law19_may x0 = funRun law19_may_C 3 17 [(false, [(false, .slice (.pair (.int .i64) (.pair (.int .i64) (.pair (.int .i64) (.pair (.str) (.pair (.int .i64) (.pair (.str) (.int .i64))))))))])] [(false, [(false, .bool)])] law19_may_un [⟨.slice (.pair (.int .i64) (.pair (.int .i64) (.pair (.int .i64) (.pair (.str) (.pair (.int .i64) (.pair (.str) (.int .i64))))))), x0⟩] := congrFun (law19_may_ex.choose_spec) x0
theorem law19_may_eq (x0 : List (Int × Int × Int × ByteArray × Int × ByteArray × Int)) : law19_may x0 =
  (law19_light x0).bind fun val0 =>
  bif val0
    then (ref19_Check x0).bind fun val4 =>
      some (val4 == 0)
    else some false := (law19_may_raw x0).trans (by kernel_rfl)
noncomputable def law19_may_sig : Sig := { pm := [(false, [(false, .slice (.pair (.int .i64) (.pair (.int .i64) (.pair (.int .i64) (.pair (.str) (.pair (.int .i64) (.pair (.str) (.int .i64))))))))])], rm := [(false, [(false, .bool)])], f := fun | [⟨.slice (.pair (.int .i64) (.pair (.int .i64) (.pair (.int .i64) (.pair (.str) (.pair (.int .i64) (.pair (.str) (.int .i64))))))), x0⟩] => .yes _ (law19_may x0) law19_may_mk | _ => .no }
theorem law19_may_ok : SigOk Try.prog 17 law19_may_sig := by
  refine contract_of (C := law19_may_C) (d := 3) S8_ok (callable_ex (by kernel_rfl)) ?_
  intro dvs
  unfold law19_may_sig
  dsimp only
  split
  · refine .inr ⟨_, law19_may_un, law19_may_mk, congrArg (fun o => Cl.yes _ o _) (law19_may_raw _), ?_⟩
    intro ds x h
    unfold law19_may_un at h
    split at h
    · cases h; rfl
    · cases h
  · exact .inl rfl
noncomputable def S9 : List (Nat × Sig) := (17, law19_may_sig) :: S8
theorem S9_ok : ListOk Try.prog S9 := ListOk.cons S8_ok law19_may_ok
noncomputable def jobs_IndexFunc_C : Cfg := { P := Try.prog, sig := lookSig S9, hb := fun f b => bif Nat.beq f 49 && Nat.beq b 0 then some { tmps := [0, 1, 7, 8], obs := [], nils := [], kl := [] } else none, hr := fun _ _ => none }
noncomputable def jobs_IndexFunc_un : List DV → Option (Int) := fun | [⟨.int .i64, r0⟩] => some r0 | _ => none
noncomputable def jobs_IndexFunc_mk : Int → List DV := fun r0 => [⟨.int .i64, r0⟩]
theorem jobs_IndexFunc_ex : ∃ f : (List (Int × Int × Int × ByteArray × Int × ByteArray × Int)) → (Int) → Option (Int), f = fun (x0 : List (Int × Int × Int × ByteArray × Int × ByteArray × Int)) (x1 : Int) => funRun jobs_IndexFunc_C 3 49 [(false, [(false, .slice (.pair (.int .i64) (.pair (.int .i64) (.pair (.int .i64) (.pair (.str) (.pair (.int .i64) (.pair (.str) (.int .i64))))))))]), (false, [(false, .fn 42 (.ref (.int .i64)))])] [(false, [(false, .int .i64)])] jobs_IndexFunc_un [⟨.slice (.pair (.int .i64) (.pair (.int .i64) (.pair (.int .i64) (.pair (.str) (.pair (.int .i64) (.pair (.str) (.int .i64))))))), x0⟩, ⟨.fn 42 (.ref (.int .i64)), x1⟩] := ⟨_, rfl⟩
noncomputable def jobs_IndexFunc : (List (Int × Int × Int × ByteArray × Int × ByteArray × Int)) → (Int) → Option (Int) := jobs_IndexFunc_ex.choose
theorem jobs_IndexFunc_raw (x0 : List (Int × Int × Int × ByteArray × Int × ByteArray × Int)) (x1 : Int) : jobs_IndexFunc x0 x1 = funRun jobs_IndexFunc_C 3 49 [(false, [(false, .slice (.pair (.int .i64) (.pair (.int .i64) (.pair (.int .i64) (.pair (.str) (.pair (.int .i64) (.pair (.str) (.int .i64))))))))]), (false, [(false, .fn 42 (.ref (.int .i64)))])] [(false, [(false, .int .i64)])] jobs_IndexFunc_un [⟨.slice (.pair (.int .i64) (.pair (.int .i64) (.pair (.int .i64) (.pair (.str) (.pair (.int .i64) (.pair (.str) (.int .i64))))))), x0⟩, ⟨.fn 42 (.ref (.int .i64)), x1⟩] := congrFun (congrFun (jobs_IndexFunc_ex.choose_spec) x0) x1
noncomputable def jobs_IndexFunc_l0 (y0 : List ((Int) × ((Int) × ((Int) × ((ByteArray) × ((Int) × ((ByteArray) × (Int)))))))) (y1 : (Int)) (y2 : Int) (y3 : Int) : Option (Int) := loopAt jobs_IndexFunc_C 3 49 [(false, [(false, .int .i64)])] jobs_IndexFunc_un [true, false, true, false] (St.ofLists [(0, .fz ((Ty.int IntKind.i64).pair ((Ty.int IntKind.i64).pair ((Ty.int IntKind.i64).pair (Ty.str.pair ((Ty.int IntKind.i64).pair (Ty.str.pair (Ty.int IntKind.i64))))))) y0 false false), (1, .func 42 [.fptr (Ty.int IntKind.i64) y1 0]), (7, .int .i64 y2), (8, .int .i64 y3)] [] [])
theorem jobs_IndexFunc_eq (x0 : List (Int × Int × Int × ByteArray × Int × ByteArray × Int)) (x1 : Int) : jobs_IndexFunc x0 x1 =
  jobs_IndexFunc_l0 (x0) (x1) (ilen x0) (0) := (jobs_IndexFunc_raw x0 x1).trans (by kernel_rfl)
theorem jobs_IndexFunc_l0_eq (y0 : List ((Int) × ((Int) × ((Int) × ((ByteArray) × ((Int) × ((ByteArray) × (Int)))))))) (y1 : (Int)) (y2 : Int) (y3 : Int) : jobs_IndexFunc_l0 y0 y1 y2 y3 =
  bif decide (y3 < y2)
  then bif decide (0 ≤ y3)
    then (y0[y3.toNat]?).bind fun val4 =>
      bif val4.snd.fst == y1
        then some (y3)
        else jobs_IndexFunc_l0 (y0) (y1) (y2) (IntKind.i64.wrap (y3 + 1))
    else none
  else some (-1) := (loopAt_step _ _ _ _ _ _ _).trans (by kernel_rfl)
noncomputable def jobs_IndexFunc_sig : Sig := { pm := [(false, [(false, .slice (.pair (.int .i64) (.pair (.int .i64) (.pair (.int .i64) (.pair (.str) (.pair (.int .i64) (.pair (.str) (.int .i64))))))))]), (false, [(false, .fn 42 (.ref (.int .i64)))])], rm := [(false, [(false, .int .i64)])], f := fun | [⟨.slice (.pair (.int .i64) (.pair (.int .i64) (.pair (.int .i64) (.pair (.str) (.pair (.int .i64) (.pair (.str) (.int .i64))))))), x0⟩, ⟨.fn 42 (.ref (.int .i64)), x1⟩] => .yes _ (jobs_IndexFunc x0 x1) jobs_IndexFunc_mk | _ => .no }
theorem jobs_IndexFunc_ok : SigOk Try.prog 49 jobs_IndexFunc_sig := by
  refine contract_of (C := jobs_IndexFunc_C) (d := 3) S9_ok (callable_ex (by kernel_rfl)) ?_
  intro dvs
  unfold jobs_IndexFunc_sig
  dsimp only
  split
  · refine .inr ⟨_, jobs_IndexFunc_un, jobs_IndexFunc_mk, congrArg (fun o => Cl.yes _ o _) (jobs_IndexFunc_raw _ _), ?_⟩
    intro ds x h
    unfold jobs_IndexFunc_un at h
    split at h
    · cases h; rfl
    · cases h
  · exact .inl rfl
noncomputable def S10 : List (Nat × Sig) := (49, jobs_IndexFunc_sig) :: S9
theorem S10_ok : ListOk Try.prog S10 := ListOk.cons S9_ok jobs_IndexFunc_ok
noncomputable def jobs_DeleteFunc_C : Cfg := { P := Try.prog, sig := lookSig S10, hb := fun f b => bif Nat.beq f 41 && Nat.beq b 0 then some { tmps := [0, 1, 5, 6], obs := [0], nils := [], kl := [156] } else none, hr := fun _ _ => none }
noncomputable def jobs_DeleteFunc_un : List DV → Option ((List (Int × Int × Int × ByteArray × Int × ByteArray × Int))) := fun | [⟨.slice (.pair (.int .i64) (.pair (.int .i64) (.pair (.int .i64) (.pair (.str) (.pair (.int .i64) (.pair (.str) (.int .i64))))))), r0⟩] => some r0 | _ => none
noncomputable def jobs_DeleteFunc_mk : (List (Int × Int × Int × ByteArray × Int × ByteArray × Int)) → List DV := fun r0 => [⟨.slice (.pair (.int .i64) (.pair (.int .i64) (.pair (.int .i64) (.pair (.str) (.pair (.int .i64) (.pair (.str) (.int .i64))))))), r0⟩]
theorem jobs_DeleteFunc_ex : ∃ f : (List (Int × Int × Int × ByteArray × Int × ByteArray × Int)) → (Int) → Option ((List (Int × Int × Int × ByteArray × Int × ByteArray × Int))), f = fun (x0 : List (Int × Int × Int × ByteArray × Int × ByteArray × Int)) (x1 : Int) => funRun jobs_DeleteFunc_C 3 41 [(false, [(true, .slice (.pair (.int .i64) (.pair (.int .i64) (.pair (.int .i64) (.pair (.str) (.pair (.int .i64) (.pair (.str) (.int .i64))))))))]), (false, [(false, .fn 42 (.ref (.int .i64)))])] [(false, [(true, .slice (.pair (.int .i64) (.pair (.int .i64) (.pair (.int .i64) (.pair (.str) (.pair (.int .i64) (.pair (.str) (.int .i64))))))))])] jobs_DeleteFunc_un [⟨.slice (.pair (.int .i64) (.pair (.int .i64) (.pair (.int .i64) (.pair (.str) (.pair (.int .i64) (.pair (.str) (.int .i64))))))), x0⟩, ⟨.fn 42 (.ref (.int .i64)), x1⟩] := ⟨_, rfl⟩
noncomputable def jobs_DeleteFunc : (List (Int × Int × Int × ByteArray × Int × ByteArray × Int)) → (Int) → Option ((List (Int × Int × Int × ByteArray × Int × ByteArray × Int))) := jobs_DeleteFunc_ex.choose
theorem jobs_DeleteFunc_raw (x0 : List (Int × Int × Int × ByteArray × Int × ByteArray × Int)) (x1 : Int) : jobs_DeleteFunc x0 x1 = funRun jobs_DeleteFunc_C 3 41 [(false, [(true, .slice (.pair (.int .i64) (.pair (.int .i64) (.pair (.int .i64) (.pair (.str) (.pair (.int .i64) (.pair (.str) (.int .i64))))))))]), (false, [(false, .fn 42 (.ref (.int .i64)))])] [(false, [(true, .slice (.pair (.int .i64) (.pair (.int .i64) (.pair (.int .i64) (.pair (.str) (.pair (.int .i64) (.pair (.str) (.int .i64))))))))])] jobs_DeleteFunc_un [⟨.slice (.pair (.int .i64) (.pair (.int .i64) (.pair (.int .i64) (.pair (.str) (.pair (.int .i64) (.pair (.str) (.int .i64))))))), x0⟩, ⟨.fn 42 (.ref (.int .i64)), x1⟩] := congrFun (congrFun (jobs_DeleteFunc_ex.choose_spec) x0) x1
noncomputable def jobs_DeleteFunc_l0 (y0 : (Int)) (y1 : Int) (y2 : Int) (y3 : List ((Int) × ((Int) × ((Int) × ((ByteArray) × ((Int) × ((ByteArray) × (Int)))))))) : Option ((List (Int × Int × Int × ByteArray × Int × ByteArray × Int))) := loopAt jobs_DeleteFunc_C 3 41 [(false, [(true, .slice (.pair (.int .i64) (.pair (.int .i64) (.pair (.int .i64) (.pair (.str) (.pair (.int .i64) (.pair (.str) (.int .i64))))))))])] jobs_DeleteFunc_un [true, true, true, false, true, false] (St.ofLists [(0, .ow 0), (1, .func 42 [.fptr (Ty.int IntKind.i64) y0 0]), (5, .int .i64 y1), (6, .int .i64 y2)] [(0, some (.row ((Ty.int IntKind.i64).pair ((Ty.int IntKind.i64).pair ((Ty.int IntKind.i64).pair (Ty.str.pair ((Ty.int IntKind.i64).pair (Ty.str.pair (Ty.int IntKind.i64))))))) y3 0 false))] [156])
theorem jobs_DeleteFunc_eq (x0 : List (Int × Int × Int × ByteArray × Int × ByteArray × Int)) (x1 : Int) : jobs_DeleteFunc x0 x1 =
  (jobs_IndexFunc x0 x1).bind fun val0 =>
  bif val0 == -1
    then some (x0)
    else jobs_DeleteFunc_l0 (x1) (val0) (IntKind.i64.wrap (val0 + 1)) (x0) := (jobs_DeleteFunc_raw x0 x1).trans (by kernel_rfl)
theorem jobs_DeleteFunc_l0_eq (y0 : (Int)) (y1 : Int) (y2 : Int) (y3 : List ((Int) × ((Int) × ((Int) × ((ByteArray) × ((Int) × ((ByteArray) × (Int)))))))) : jobs_DeleteFunc_l0 y0 y1 y2 y3 =
  bif decide (y2 < ilen y3)
  then bif decide (0 ≤ y2)
    then bif decide (y2 < ilen y3)
      then (y3[y2.toNat]?).bind fun val6 =>
        bif !val6.snd.fst == y0
          then bif decide (0 ≤ y1)
            then bif decide (y1 < ilen y3)
              then (y3[y1.toNat]?).bind fun val14 =>
                jobs_DeleteFunc_l0 (y0) (IntKind.i64.wrap (y1 + 1)) (IntKind.i64.wrap (y2 + 1)) (y3.set y1.toNat val6)
              else none
            else none
          else jobs_DeleteFunc_l0 (y0) (y1) (IntKind.i64.wrap (y2 + 1)) (y3)
      else none
    else none
  else bif decide (0 ≤ y1)
    then bif decide (y1 ≤ ilen y3)
      then bif decide (ilen y3 ≤ ilen y3)
        then bif (y1.toNat + ((ilen y3).toNat - y1.toNat)).ble (max 0 y3.length)
          then bif decide (0 ≤ y1)
            then bif decide (y1 ≤ ilen (List.take y1.toNat y3 ++ List.replicate (min ((ilen y3).toNat - y1.toNat) (y3.length - y1.toNat)) (zeroOf ((Ty.int IntKind.i64).pair ((Ty.int IntKind.i64).pair ((Ty.int IntKind.i64).pair (Ty.str.pair ((Ty.int IntKind.i64).pair (Ty.str.pair (Ty.int IntKind.i64)))))))) ++ List.drop (y1.toNat + ((ilen y3).toNat - y1.toNat)) y3))
              then bif (y1.toNat - Int.toNat 0).ble (List.take y1.toNat y3 ++ List.replicate (min ((ilen y3).toNat - y1.toNat) (y3.length - y1.toNat)) (zeroOf ((Ty.int IntKind.i64).pair ((Ty.int IntKind.i64).pair ((Ty.int IntKind.i64).pair (Ty.str.pair ((Ty.int IntKind.i64).pair (Ty.str.pair (Ty.int IntKind.i64)))))))) ++ List.drop (y1.toNat + ((ilen y3).toNat - y1.toNat)) y3).length
                then some (List.take (y1.toNat - Int.toNat 0) (List.take y1.toNat y3 ++ List.replicate (min ((ilen y3).toNat - y1.toNat) (y3.length - y1.toNat)) (zeroOf ((Ty.int IntKind.i64).pair ((Ty.int IntKind.i64).pair ((Ty.int IntKind.i64).pair (Ty.str.pair ((Ty.int IntKind.i64).pair (Ty.str.pair (Ty.int IntKind.i64)))))))) ++ List.drop (y1.toNat + ((ilen y3).toNat - y1.toNat)) y3))
                else none
              else bif decide (y1 ≤ ↑0)
                then bif (y1.toNat - Int.toNat 0).ble (List.take y1.toNat y3 ++ List.replicate (min ((ilen y3).toNat - y1.toNat) (y3.length - y1.toNat)) (zeroOf ((Ty.int IntKind.i64).pair ((Ty.int IntKind.i64).pair ((Ty.int IntKind.i64).pair (Ty.str.pair ((Ty.int IntKind.i64).pair (Ty.str.pair (Ty.int IntKind.i64)))))))) ++ List.drop (y1.toNat + ((ilen y3).toNat - y1.toNat)) y3).length
                  then some (List.take (y1.toNat - Int.toNat 0) (List.take y1.toNat y3 ++ List.replicate (min ((ilen y3).toNat - y1.toNat) (y3.length - y1.toNat)) (zeroOf ((Ty.int IntKind.i64).pair ((Ty.int IntKind.i64).pair ((Ty.int IntKind.i64).pair (Ty.str.pair ((Ty.int IntKind.i64).pair (Ty.str.pair (Ty.int IntKind.i64)))))))) ++ List.drop (y1.toNat + ((ilen y3).toNat - y1.toNat)) y3))
                  else none
                else none
            else none
          else none
        else bif decide (ilen y3 ≤ ↑0)
          then bif (y1.toNat + ((ilen y3).toNat - y1.toNat)).ble (max 0 y3.length)
            then bif decide (0 ≤ y1)
              then bif decide (y1 ≤ ilen (List.take y1.toNat y3 ++ List.replicate (min ((ilen y3).toNat - y1.toNat) (y3.length - y1.toNat)) (zeroOf ((Ty.int IntKind.i64).pair ((Ty.int IntKind.i64).pair ((Ty.int IntKind.i64).pair (Ty.str.pair ((Ty.int IntKind.i64).pair (Ty.str.pair (Ty.int IntKind.i64)))))))) ++ List.drop (y1.toNat + ((ilen y3).toNat - y1.toNat)) y3))
                then bif (y1.toNat - Int.toNat 0).ble (List.take y1.toNat y3 ++ List.replicate (min ((ilen y3).toNat - y1.toNat) (y3.length - y1.toNat)) (zeroOf ((Ty.int IntKind.i64).pair ((Ty.int IntKind.i64).pair ((Ty.int IntKind.i64).pair (Ty.str.pair ((Ty.int IntKind.i64).pair (Ty.str.pair (Ty.int IntKind.i64)))))))) ++ List.drop (y1.toNat + ((ilen y3).toNat - y1.toNat)) y3).length
                  then some (List.take (y1.toNat - Int.toNat 0) (List.take y1.toNat y3 ++ List.replicate (min ((ilen y3).toNat - y1.toNat) (y3.length - y1.toNat)) (zeroOf ((Ty.int IntKind.i64).pair ((Ty.int IntKind.i64).pair ((Ty.int IntKind.i64).pair (Ty.str.pair ((Ty.int IntKind.i64).pair (Ty.str.pair (Ty.int IntKind.i64)))))))) ++ List.drop (y1.toNat + ((ilen y3).toNat - y1.toNat)) y3))
                  else none
                else bif decide (y1 ≤ ↑0)
                  then bif (y1.toNat - Int.toNat 0).ble (List.take y1.toNat y3 ++ List.replicate (min ((ilen y3).toNat - y1.toNat) (y3.length - y1.toNat)) (zeroOf ((Ty.int IntKind.i64).pair ((Ty.int IntKind.i64).pair ((Ty.int IntKind.i64).pair (Ty.str.pair ((Ty.int IntKind.i64).pair (Ty.str.pair (Ty.int IntKind.i64)))))))) ++ List.drop (y1.toNat + ((ilen y3).toNat - y1.toNat)) y3).length
                    then some (List.take (y1.toNat - Int.toNat 0) (List.take y1.toNat y3 ++ List.replicate (min ((ilen y3).toNat - y1.toNat) (y3.length - y1.toNat)) (zeroOf ((Ty.int IntKind.i64).pair ((Ty.int IntKind.i64).pair ((Ty.int IntKind.i64).pair (Ty.str.pair ((Ty.int IntKind.i64).pair (Ty.str.pair (Ty.int IntKind.i64)))))))) ++ List.drop (y1.toNat + ((ilen y3).toNat - y1.toNat)) y3))
                    else none
                  else none
              else none
            else none
          else none
      else none
    else none := (loopAt_step _ _ _ _ _ _ _).trans (by kernel_rfl)
noncomputable def jobs_DeleteFunc_sig : Sig := { pm := [(false, [(true, .slice (.pair (.int .i64) (.pair (.int .i64) (.pair (.int .i64) (.pair (.str) (.pair (.int .i64) (.pair (.str) (.int .i64))))))))]), (false, [(false, .fn 42 (.ref (.int .i64)))])], rm := [(false, [(true, .slice (.pair (.int .i64) (.pair (.int .i64) (.pair (.int .i64) (.pair (.str) (.pair (.int .i64) (.pair (.str) (.int .i64))))))))])], f := fun | [⟨.slice (.pair (.int .i64) (.pair (.int .i64) (.pair (.int .i64) (.pair (.str) (.pair (.int .i64) (.pair (.str) (.int .i64))))))), x0⟩, ⟨.fn 42 (.ref (.int .i64)), x1⟩] => .yes _ (jobs_DeleteFunc x0 x1) jobs_DeleteFunc_mk | _ => .no }
theorem jobs_DeleteFunc_ok : SigOk Try.prog 41 jobs_DeleteFunc_sig := by
  refine contract_of (C := jobs_DeleteFunc_C) (d := 3) S10_ok (callable_ex (by kernel_rfl)) ?_
  intro dvs
  unfold jobs_DeleteFunc_sig
  dsimp only
  split
  · refine .inr ⟨_, jobs_DeleteFunc_un, jobs_DeleteFunc_mk, congrArg (fun o => Cl.yes _ o _) (jobs_DeleteFunc_raw _ _), ?_⟩
    intro ds x h
    unfold jobs_DeleteFunc_un at h
    split at h
    · cases h; rfl
    · cases h
  · exact .inl rfl
noncomputable def S11 : List (Nat × Sig) := (41, jobs_DeleteFunc_sig) :: S10
theorem S11_ok : ListOk Try.prog S11 := ListOk.cons S10_ok jobs_DeleteFunc_ok
noncomputable def jobs_Without_C : Cfg := { P := Try.prog, sig := lookSig S11, hb := fun _ _ => none, hr := fun _ _ => none }
noncomputable def jobs_Without_un : List DV → Option ((List (Int × Int × Int × ByteArray × Int × ByteArray × Int))) := fun | [⟨.slice (.pair (.int .i64) (.pair (.int .i64) (.pair (.int .i64) (.pair (.str) (.pair (.int .i64) (.pair (.str) (.int .i64))))))), r0⟩] => some r0 | _ => none
noncomputable def jobs_Without_mk : (List (Int × Int × Int × ByteArray × Int × ByteArray × Int)) → List DV := fun r0 => [⟨.slice (.pair (.int .i64) (.pair (.int .i64) (.pair (.int .i64) (.pair (.str) (.pair (.int .i64) (.pair (.str) (.int .i64))))))), r0⟩]
theorem jobs_Without_ex : ∃ f : (List (Int × Int × Int × ByteArray × Int × ByteArray × Int)) → (Int) → Option ((List (Int × Int × Int × ByteArray × Int × ByteArray × Int))), f = fun (x0 : List (Int × Int × Int × ByteArray × Int × ByteArray × Int)) (x1 : Int) => funRun jobs_Without_C 3 26 [(false, [(false, .slice (.pair (.int .i64) (.pair (.int .i64) (.pair (.int .i64) (.pair (.str) (.pair (.int .i64) (.pair (.str) (.int .i64))))))))]), (false, [(false, .int .i64)])] [(false, [(true, .slice (.pair (.int .i64) (.pair (.int .i64) (.pair (.int .i64) (.pair (.str) (.pair (.int .i64) (.pair (.str) (.int .i64))))))))])] jobs_Without_un [⟨.slice (.pair (.int .i64) (.pair (.int .i64) (.pair (.int .i64) (.pair (.str) (.pair (.int .i64) (.pair (.str) (.int .i64))))))), x0⟩, ⟨.int .i64, x1⟩] := ⟨_, rfl⟩
noncomputable def jobs_Without : (List (Int × Int × Int × ByteArray × Int × ByteArray × Int)) → (Int) → Option ((List (Int × Int × Int × ByteArray × Int × ByteArray × Int))) := jobs_Without_ex.choose
theorem jobs_Without_raw (x0 : List (Int × Int × Int × ByteArray × Int × ByteArray × Int)) (x1 : Int) : jobs_Without x0 x1 = funRun jobs_Without_C 3 26 [(false, [(false, .slice (.pair (.int .i64) (.pair (.int .i64) (.pair (.int .i64) (.pair (.str) (.pair (.int .i64) (.pair (.str) (.int .i64))))))))]), (false, [(false, .int .i64)])] [(false, [(true, .slice (.pair (.int .i64) (.pair (.int .i64) (.pair (.int .i64) (.pair (.str) (.pair (.int .i64) (.pair (.str) (.int .i64))))))))])] jobs_Without_un [⟨.slice (.pair (.int .i64) (.pair (.int .i64) (.pair (.int .i64) (.pair (.str) (.pair (.int .i64) (.pair (.str) (.int .i64))))))), x0⟩, ⟨.int .i64, x1⟩] := congrFun (congrFun (jobs_Without_ex.choose_spec) x0) x1
theorem jobs_Without_eq (x0 : List (Int × Int × Int × ByteArray × Int × ByteArray × Int)) (x1 : Int) : jobs_Without x0 x1 =
  (jobs_Clone x0).bind fun val0 =>
  (jobs_DeleteFunc val0 x1).bind fun val2 =>
    some (val2) := (jobs_Without_raw x0 x1).trans (by kernel_rfl)
noncomputable def jobs_Without_sig : Sig := { pm := [(false, [(false, .slice (.pair (.int .i64) (.pair (.int .i64) (.pair (.int .i64) (.pair (.str) (.pair (.int .i64) (.pair (.str) (.int .i64))))))))]), (false, [(false, .int .i64)])], rm := [(false, [(true, .slice (.pair (.int .i64) (.pair (.int .i64) (.pair (.int .i64) (.pair (.str) (.pair (.int .i64) (.pair (.str) (.int .i64))))))))])], f := fun | [⟨.slice (.pair (.int .i64) (.pair (.int .i64) (.pair (.int .i64) (.pair (.str) (.pair (.int .i64) (.pair (.str) (.int .i64))))))), x0⟩, ⟨.int .i64, x1⟩] => .yes _ (jobs_Without x0 x1) jobs_Without_mk | _ => .no }
theorem jobs_Without_ok : SigOk Try.prog 26 jobs_Without_sig := by
  refine contract_of (C := jobs_Without_C) (d := 3) S11_ok (callable_ex (by kernel_rfl)) ?_
  intro dvs
  unfold jobs_Without_sig
  dsimp only
  split
  · refine .inr ⟨_, jobs_Without_un, jobs_Without_mk, congrArg (fun o => Cl.yes _ o _) (jobs_Without_raw _ _), ?_⟩
    intro ds x h
    unfold jobs_Without_un at h
    split at h
    · cases h; rfl
    · cases h
  · exact .inl rfl
noncomputable def S12 : List (Nat × Sig) := (26, jobs_Without_sig) :: S11
theorem S12_ok : ListOk Try.prog S12 := ListOk.cons S11_ok jobs_Without_ok
noncomputable def jobs_Search_C : Cfg := { P := Try.prog, sig := lookSig S12, hb := fun f b => bif Nat.beq f 47 && Nat.beq b 0 then some { tmps := [0, 1, 2, 8, 9, 10], obs := [], nils := [], kl := [] } else none, hr := fun _ _ => none }
noncomputable def jobs_Search_un : List DV → Option (Int × Bool) := fun | [⟨.int .i64, r0⟩, ⟨.bool, r1⟩] => some (r0, r1) | _ => none
noncomputable def jobs_Search_mk : (Int × Bool) → List DV := fun ⟨r0, r1⟩ => [⟨.int .i64, r0⟩, ⟨.bool, r1⟩]
theorem jobs_Search_ex : ∃ f : (List (Int × Int × Int × ByteArray × Int × ByteArray × Int)) → (Int) → Option (Int × Bool), f = fun (x0 : List (Int × Int × Int × ByteArray × Int × ByteArray × Int)) (x1 : Int) => funRun jobs_Search_C 3 47 [(false, [(false, .slice (.pair (.int .i64) (.pair (.int .i64) (.pair (.int .i64) (.pair (.str) (.pair (.int .i64) (.pair (.str) (.int .i64))))))))]), (false, [(false, .int .i64)]), (false, [(false, .fn 48 (.unit))])] [(false, [(false, .int .i64)]), (false, [(false, .bool)])] jobs_Search_un [⟨.slice (.pair (.int .i64) (.pair (.int .i64) (.pair (.int .i64) (.pair (.str) (.pair (.int .i64) (.pair (.str) (.int .i64))))))), x0⟩, ⟨.int .i64, x1⟩, ⟨.fn 48 (.unit), ()⟩] := ⟨_, rfl⟩
noncomputable def jobs_Search : (List (Int × Int × Int × ByteArray × Int × ByteArray × Int)) → (Int) → Option (Int × Bool) := jobs_Search_ex.choose
theorem jobs_Search_raw (x0 : List (Int × Int × Int × ByteArray × Int × ByteArray × Int)) (x1 : Int) : jobs_Search x0 x1 = funRun jobs_Search_C 3 47 [(false, [(false, .slice (.pair (.int .i64) (.pair (.int .i64) (.pair (.int .i64) (.pair (.str) (.pair (.int .i64) (.pair (.str) (.int .i64))))))))]), (false, [(false, .int .i64)]), (false, [(false, .fn 48 (.unit))])] [(false, [(false, .int .i64)]), (false, [(false, .bool)])] jobs_Search_un [⟨.slice (.pair (.int .i64) (.pair (.int .i64) (.pair (.int .i64) (.pair (.str) (.pair (.int .i64) (.pair (.str) (.int .i64))))))), x0⟩, ⟨.int .i64, x1⟩, ⟨.fn 48 (.unit), ()⟩] := congrFun (congrFun (jobs_Search_ex.choose_spec) x0) x1
noncomputable def jobs_Search_l0 (y0 : List ((Int) × ((Int) × ((Int) × ((ByteArray) × ((Int) × ((ByteArray) × (Int)))))))) (y1 : Int) (y2 : Int) (y3 : Int) (y4 : Int) : Option (Int × Bool) := loopAt jobs_Search_C 3 47 [(false, [(false, .int .i64)]), (false, [(false, .bool)])] jobs_Search_un [true, true, true, false, false] (St.ofLists [(0, .fz ((Ty.int IntKind.i64).pair ((Ty.int IntKind.i64).pair ((Ty.int IntKind.i64).pair (Ty.str.pair ((Ty.int IntKind.i64).pair (Ty.str.pair (Ty.int IntKind.i64))))))) y0 false false), (1, .int .i64 y1), (2, .func 48 []), (8, .int .i64 y2), (9, .int .i64 y3), (10, .int .i64 y4)] [] [])
theorem jobs_Search_eq (x0 : List (Int × Int × Int × ByteArray × Int × ByteArray × Int)) (x1 : Int) : jobs_Search x0 x1 =
  jobs_Search_l0 (x0) (x1) (ilen x0) (0) (ilen x0) := (jobs_Search_raw x0 x1).trans (by kernel_rfl)
theorem jobs_Search_l0_eq (y0 : List ((Int) × ((Int) × ((Int) × ((ByteArray) × ((Int) × ((ByteArray) × (Int)))))))) (y1 : Int) (y2 : Int) (y3 : Int) (y4 : Int) : jobs_Search_l0 y0 y1 y2 y3 y4 =
  bif decide (y3 < y4)
  then bif decide (0 ≤ IntKind.i64.wrap ((IntKind.u64.wrap (IntKind.i64.wrap (y3 + y4))).fdiv (2 ^ min (Int.toNat 1) IntKind.u64.bits)))
    then (y0[(IntKind.i64.wrap ((IntKind.u64.wrap (IntKind.i64.wrap (y3 + y4))).fdiv (2 ^ min (Int.toNat 1) IntKind.u64.bits))).toNat]?).bind fun val4 =>
      bif decide (val4.fst < y1)
        then jobs_Search_l0 (y0) (y1) (y2) (IntKind.i64.wrap (IntKind.i64.wrap ((IntKind.u64.wrap (IntKind.i64.wrap (y3 + y4))).fdiv (2 ^ min (Int.toNat 1) IntKind.u64.bits)) + 1)) (y4)
        else bif decide (val4.fst > y1)
          then jobs_Search_l0 (y0) (y1) (y2) (y3) (IntKind.i64.wrap ((IntKind.u64.wrap (IntKind.i64.wrap (y3 + y4))).fdiv (2 ^ min (Int.toNat 1) IntKind.u64.bits)))
          else jobs_Search_l0 (y0) (y1) (y2) (y3) (IntKind.i64.wrap ((IntKind.u64.wrap (IntKind.i64.wrap (y3 + y4))).fdiv (2 ^ min (Int.toNat 1) IntKind.u64.bits)))
    else none
  else bif decide (y3 < y2)
    then bif decide (0 ≤ y3)
      then (y0[y3.toNat]?).bind fun val6 =>
        bif decide (val6.fst < y1)
          then some ((y3), false)
          else bif decide (val6.fst > y1)
            then some ((y3), false)
            else some ((y3), true)
      else none
    else some ((y3), false) := (loopAt_step _ _ _ _ _ _ _).trans (by kernel_rfl)
noncomputable def jobs_Search_sig : Sig := { pm := [(false, [(false, .slice (.pair (.int .i64) (.pair (.int .i64) (.pair (.int .i64) (.pair (.str) (.pair (.int .i64) (.pair (.str) (.int .i64))))))))]), (false, [(false, .int .i64)]), (false, [(false, .fn 48 (.unit))])], rm := [(false, [(false, .int .i64)]), (false, [(false, .bool)])], f := fun | [⟨.slice (.pair (.int .i64) (.pair (.int .i64) (.pair (.int .i64) (.pair (.str) (.pair (.int .i64) (.pair (.str) (.int .i64))))))), x0⟩, ⟨.int .i64, x1⟩, ⟨.fn 48 (.unit), ()⟩] => .yes _ (jobs_Search x0 x1) jobs_Search_mk | _ => .no }
theorem jobs_Search_ok : SigOk Try.prog 47 jobs_Search_sig := by
  refine contract_of (C := jobs_Search_C) (d := 3) S12_ok (callable_ex (by kernel_rfl)) ?_
  intro dvs
  unfold jobs_Search_sig
  dsimp only
  split
  · refine .inr ⟨_, jobs_Search_un, jobs_Search_mk, congrArg (fun o => Cl.yes _ o _) (jobs_Search_raw _ _), ?_⟩
    intro ds x h
    unfold jobs_Search_un at h
    split at h
    · cases h; rfl
    · cases h
  · exact .inl rfl
noncomputable def S13 : List (Nat × Sig) := (47, jobs_Search_sig) :: S12
theorem S13_ok : ListOk Try.prog S13 := ListOk.cons S12_ok jobs_Search_ok
noncomputable def jobs_find_C : Cfg := { P := Try.prog, sig := lookSig S13, hb := fun _ _ => none, hr := fun _ _ => none }
noncomputable def jobs_find_un : List DV → Option (Int × Bool) := fun | [⟨.int .i64, r0⟩, ⟨.bool, r1⟩] => some (r0, r1) | _ => none
noncomputable def jobs_find_mk : (Int × Bool) → List DV := fun ⟨r0, r1⟩ => [⟨.int .i64, r0⟩, ⟨.bool, r1⟩]
theorem jobs_find_ex : ∃ f : (List (Int × Int × Int × ByteArray × Int × ByteArray × Int)) → (Int) → Option (Int × Bool), f = fun (x0 : List (Int × Int × Int × ByteArray × Int × ByteArray × Int)) (x1 : Int) => funRun jobs_find_C 3 32 [(false, [(false, .slice (.pair (.int .i64) (.pair (.int .i64) (.pair (.int .i64) (.pair (.str) (.pair (.int .i64) (.pair (.str) (.int .i64))))))))]), (false, [(false, .int .i64)])] [(false, [(false, .int .i64)]), (false, [(false, .bool)])] jobs_find_un [⟨.slice (.pair (.int .i64) (.pair (.int .i64) (.pair (.int .i64) (.pair (.str) (.pair (.int .i64) (.pair (.str) (.int .i64))))))), x0⟩, ⟨.int .i64, x1⟩] := ⟨_, rfl⟩
noncomputable def jobs_find : (List (Int × Int × Int × ByteArray × Int × ByteArray × Int)) → (Int) → Option (Int × Bool) := jobs_find_ex.choose
theorem jobs_find_raw (x0 : List (Int × Int × Int × ByteArray × Int × ByteArray × Int)) (x1 : Int) : jobs_find x0 x1 = funRun jobs_find_C 3 32 [(false, [(false, .slice (.pair (.int .i64) (.pair (.int .i64) (.pair (.int .i64) (.pair (.str) (.pair (.int .i64) (.pair (.str) (.int .i64))))))))]), (false, [(false, .int .i64)])] [(false, [(false, .int .i64)]), (false, [(false, .bool)])] jobs_find_un [⟨.slice (.pair (.int .i64) (.pair (.int .i64) (.pair (.int .i64) (.pair (.str) (.pair (.int .i64) (.pair (.str) (.int .i64))))))), x0⟩, ⟨.int .i64, x1⟩] := congrFun (congrFun (jobs_find_ex.choose_spec) x0) x1
theorem jobs_find_eq (x0 : List (Int × Int × Int × ByteArray × Int × ByteArray × Int)) (x1 : Int) : jobs_find x0 x1 =
  (jobs_Search x0 x1).bind fun val0 =>
  some ((val0.1), (val0.2)) := (jobs_find_raw x0 x1).trans (by kernel_rfl)
noncomputable def jobs_find_sig : Sig := { pm := [(false, [(false, .slice (.pair (.int .i64) (.pair (.int .i64) (.pair (.int .i64) (.pair (.str) (.pair (.int .i64) (.pair (.str) (.int .i64))))))))]), (false, [(false, .int .i64)])], rm := [(false, [(false, .int .i64)]), (false, [(false, .bool)])], f := fun | [⟨.slice (.pair (.int .i64) (.pair (.int .i64) (.pair (.int .i64) (.pair (.str) (.pair (.int .i64) (.pair (.str) (.int .i64))))))), x0⟩, ⟨.int .i64, x1⟩] => .yes _ (jobs_find x0 x1) jobs_find_mk | _ => .no }
theorem jobs_find_ok : SigOk Try.prog 32 jobs_find_sig := by
  refine contract_of (C := jobs_find_C) (d := 3) S13_ok (callable_ex (by kernel_rfl)) ?_
  intro dvs
  unfold jobs_find_sig
  dsimp only
  split
  · refine .inr ⟨_, jobs_find_un, jobs_find_mk, congrArg (fun o => Cl.yes _ o _) (jobs_find_raw _ _), ?_⟩
    intro ds x h
    unfold jobs_find_un at h
    split at h
    · cases h; rfl
    · cases h
  · exact .inl rfl
noncomputable def S14 : List (Nat × Sig) := (32, jobs_find_sig) :: S13
theorem S14_ok : ListOk Try.prog S14 := ListOk.cons S13_ok jobs_find_ok
noncomputable def ref19_Get_C : Cfg := { P := Try.prog, sig := lookSig S14, hb := fun f b => bif Nat.beq f 13 && Nat.beq b 0 then some { tmps := [0, 1, 4, 6], obs := [132], nils := [], kl := [132] } else none, hr := fun _ _ => none }
noncomputable def ref19_Get_un : List DV → Option (Int × Int × Int × ByteArray × Int × ByteArray × Int × Bool) := fun | [⟨.int .i64, r0⟩, ⟨.int .i64, r1⟩, ⟨.int .i64, r2⟩, ⟨.str, r3⟩, ⟨.int .i64, r4⟩, ⟨.str, r5⟩, ⟨.int .i64, r6⟩, ⟨.bool, r7⟩] => some (r0, r1, r2, r3, r4, r5, r6, r7) | _ => none
noncomputable def ref19_Get_mk : (Int × Int × Int × ByteArray × Int × ByteArray × Int × Bool) → List DV := fun ⟨r0, r1, r2, r3, r4, r5, r6, r7⟩ => [⟨.int .i64, r0⟩, ⟨.int .i64, r1⟩, ⟨.int .i64, r2⟩, ⟨.str, r3⟩, ⟨.int .i64, r4⟩, ⟨.str, r5⟩, ⟨.int .i64, r6⟩, ⟨.bool, r7⟩]
theorem ref19_Get_ex : ∃ f : (List (Int × Int × Int × ByteArray × Int × ByteArray × Int)) → (Int) → Option (Int × Int × Int × ByteArray × Int × ByteArray × Int × Bool), f = fun (x0 : List (Int × Int × Int × ByteArray × Int × ByteArray × Int)) (x1 : Int) => funRun ref19_Get_C 3 13 [(false, [(false, .slice (.pair (.int .i64) (.pair (.int .i64) (.pair (.int .i64) (.pair (.str) (.pair (.int .i64) (.pair (.str) (.int .i64))))))))]), (false, [(false, .int .i64)])] [(true, [(false, .int .i64), (false, .int .i64), (false, .int .i64), (false, .str), (false, .int .i64), (false, .str), (false, .int .i64)]), (false, [(false, .bool)])] ref19_Get_un [⟨.slice (.pair (.int .i64) (.pair (.int .i64) (.pair (.int .i64) (.pair (.str) (.pair (.int .i64) (.pair (.str) (.int .i64))))))), x0⟩, ⟨.int .i64, x1⟩] := ⟨_, rfl⟩
noncomputable def ref19_Get : (List (Int × Int × Int × ByteArray × Int × ByteArray × Int)) → (Int) → Option (Int × Int × Int × ByteArray × Int × ByteArray × Int × Bool) := ref19_Get_ex.choose
theorem ref19_Get_raw (x0 : List (Int × Int × Int × ByteArray × Int × ByteArray × Int)) (x1 : Int) : ref19_Get x0 x1 = funRun ref19_Get_C 3 13 [(false, [(false, .slice (.pair (.int .i64) (.pair (.int .i64) (.pair (.int .i64) (.pair (.str) (.pair (.int .i64) (.pair (.str) (.int .i64))))))))]), (false, [(false, .int .i64)])] [(true, [(false, .int .i64), (false, .int .i64), (false, .int .i64), (false, .str), (false, .int .i64), (false, .str), (false, .int .i64)]), (false, [(false, .bool)])] ref19_Get_un [⟨.slice (.pair (.int .i64) (.pair (.int .i64) (.pair (.int .i64) (.pair (.str) (.pair (.int .i64) (.pair (.str) (.int .i64))))))), x0⟩, ⟨.int .i64, x1⟩] := congrFun (congrFun (ref19_Get_ex.choose_spec) x0) x1
noncomputable def ref19_Get_l0 (y0 : List ((Int) × ((Int) × ((Int) × ((ByteArray) × ((Int) × ((ByteArray) × (Int)))))))) (y1 : Int) (y2 : Int) (y3 : Int) (y4 : Int) (y5 : Int) (y6 : ByteArray) (y7 : Int) (y8 : ByteArray) (y9 : Int) : Option (Int × Int × Int × ByteArray × Int × ByteArray × Int × Bool) := loopAt ref19_Get_C 3 13 [(true, [(false, .int .i64), (false, .int .i64), (false, .int .i64), (false, .str), (false, .int .i64), (false, .str), (false, .int .i64)]), (false, [(false, .bool)])] ref19_Get_un [true, false, true, false] (St.ofLists [(0, .fz ((Ty.int IntKind.i64).pair ((Ty.int IntKind.i64).pair ((Ty.int IntKind.i64).pair (Ty.str.pair ((Ty.int IntKind.i64).pair (Ty.str.pair (Ty.int IntKind.i64))))))) y0 false false), (1, .int .i64 y1), (4, .ptr 132 0), (6, .int .i64 y2)] [(132, some (.cells [.int .i64 y3, .int .i64 y4, .int .i64 y5, .str y6, .int .i64 y7, .str y8, .int .i64 y9]))] [132])
theorem ref19_Get_eq (x0 : List (Int × Int × Int × ByteArray × Int × ByteArray × Int)) (x1 : Int) : ref19_Get x0 x1 =
  ref19_Get_l0 (x0) (x1) (0) (0) (0) (0) ((⟨#[]⟩ : ByteArray)) (0) ((⟨#[]⟩ : ByteArray)) (0) := (ref19_Get_raw x0 x1).trans (by kernel_rfl)
theorem ref19_Get_l0_eq (y0 : List ((Int) × ((Int) × ((Int) × ((ByteArray) × ((Int) × ((ByteArray) × (Int)))))))) (y1 : Int) (y2 : Int) (y3 : Int) (y4 : Int) (y5 : Int) (y6 : ByteArray) (y7 : Int) (y8 : ByteArray) (y9 : Int) : ref19_Get_l0 y0 y1 y2 y3 y4 y5 y6 y7 y8 y9 =
  bif decide (y2 < ilen y0)
  then bif decide (0 ≤ y2)
    then (y0[y2.toNat]?).bind fun val4 =>
      bif val4.fst == y1
        then bif decide (0 ≤ y2)
          then (y0[y2.toNat]?).bind fun val10 =>
            some ((val10.fst), ((val10.snd.fst), ((val10.snd.snd.fst), ((val10.snd.snd.snd.fst), ((val10.snd.snd.snd.snd.fst), ((val10.snd.snd.snd.snd.snd.fst), ((val10.snd.snd.snd.snd.snd.snd), true)))))))
          else none
        else ref19_Get_l0 (y0) (y1) (IntKind.i64.wrap (y2 + 1)) (y3) (y4) (y5) (y6) (y7) (y8) (y9)
    else none
  else some ((0), ((0), ((0), (((⟨#[]⟩ : ByteArray)), ((0), (((⟨#[]⟩ : ByteArray)), ((0), false))))))) := (loopAt_step _ _ _ _ _ _ _).trans (by kernel_rfl)
noncomputable def ref19_Get_sig : Sig := { pm := [(false, [(false, .slice (.pair (.int .i64) (.pair (.int .i64) (.pair (.int .i64) (.pair (.str) (.pair (.int .i64) (.pair (.str) (.int .i64))))))))]), (false, [(false, .int .i64)])], rm := [(true, [(false, .int .i64), (false, .int .i64), (false, .int .i64), (false, .str), (false, .int .i64), (false, .str), (false, .int .i64)]), (false, [(false, .bool)])], f := fun | [⟨.slice (.pair (.int .i64) (.pair (.int .i64) (.pair (.int .i64) (.pair (.str) (.pair (.int .i64) (.pair (.str) (.int .i64))))))), x0⟩, ⟨.int .i64, x1⟩] => .yes _ (ref19_Get x0 x1) ref19_Get_mk | _ => .no }
theorem ref19_Get_ok : SigOk Try.prog 13 ref19_Get_sig := by
  refine contract_of (C := ref19_Get_C) (d := 3) S14_ok (callable_ex (by kernel_rfl)) ?_
  intro dvs
  unfold ref19_Get_sig
  dsimp only
  split
  · refine .inr ⟨_, ref19_Get_un, ref19_Get_mk, congrArg (fun o => Cl.yes _ o _) (ref19_Get_raw _ _), ?_⟩
    intro ds x h
    unfold ref19_Get_un at h
    split at h
    · cases h; rfl
    · cases h
  · exact .inl rfl
noncomputable def S15 : List (Nat × Sig) := (13, ref19_Get_sig) :: S14
theorem S15_ok : ListOk Try.prog S15 := ListOk.cons S14_ok ref19_Get_ok
noncomputable def ref19_Same_C : Cfg := { P := Try.prog, sig := lookSig S15, hb := fun f b => bif Nat.beq f 16 && Nat.beq b 0 then some { tmps := [0, 1, 5], obs := [], nils := [], kl := [] } else none, hr := fun _ _ => none }
noncomputable def ref19_Same_un : List DV → Option (Bool) := fun | [⟨.bool, r0⟩] => some r0 | _ => none
noncomputable def ref19_Same_mk : Bool → List DV := fun r0 => [⟨.bool, r0⟩]
theorem ref19_Same_ex : ∃ f : (List (Int × Int × Int × ByteArray × Int × ByteArray × Int)) → (List (Int × Int × Int × ByteArray × Int × ByteArray × Int)) → Option (Bool), f = fun (x0 : List (Int × Int × Int × ByteArray × Int × ByteArray × Int)) (x1 : List (Int × Int × Int × ByteArray × Int × ByteArray × Int)) => funRun ref19_Same_C 3 16 [(false, [(false, .slice (.pair (.int .i64) (.pair (.int .i64) (.pair (.int .i64) (.pair (.str) (.pair (.int .i64) (.pair (.str) (.int .i64))))))))]), (false, [(false, .slice (.pair (.int .i64) (.pair (.int .i64) (.pair (.int .i64) (.pair (.str) (.pair (.int .i64) (.pair (.str) (.int .i64))))))))])] [(false, [(false, .bool)])] ref19_Same_un [⟨.slice (.pair (.int .i64) (.pair (.int .i64) (.pair (.int .i64) (.pair (.str) (.pair (.int .i64) (.pair (.str) (.int .i64))))))), x0⟩, ⟨.slice (.pair (.int .i64) (.pair (.int .i64) (.pair (.int .i64) (.pair (.str) (.pair (.int .i64) (.pair (.str) (.int .i64))))))), x1⟩] := ⟨_, rfl⟩
noncomputable def ref19_Same : (List (Int × Int × Int × ByteArray × Int × ByteArray × Int)) → (List (Int × Int × Int × ByteArray × Int × ByteArray × Int)) → Option (Bool) := ref19_Same_ex.choose
theorem ref19_Same_raw (x0 : List (Int × Int × Int × ByteArray × Int × ByteArray × Int)) (x1 : List (Int × Int × Int × ByteArray × Int × ByteArray × Int)) : ref19_Same x0 x1 = funRun ref19_Same_C 3 16 [(false, [(false, .slice (.pair (.int .i64) (.pair (.int .i64) (.pair (.int .i64) (.pair (.str) (.pair (.int .i64) (.pair (.str) (.int .i64))))))))]), (false, [(false, .slice (.pair (.int .i64) (.pair (.int .i64) (.pair (.int .i64) (.pair (.str) (.pair (.int .i64) (.pair (.str) (.int .i64))))))))])] [(false, [(false, .bool)])] ref19_Same_un [⟨.slice (.pair (.int .i64) (.pair (.int .i64) (.pair (.int .i64) (.pair (.str) (.pair (.int .i64) (.pair (.str) (.int .i64))))))), x0⟩, ⟨.slice (.pair (.int .i64) (.pair (.int .i64) (.pair (.int .i64) (.pair (.str) (.pair (.int .i64) (.pair (.str) (.int .i64))))))), x1⟩] := congrFun (congrFun (ref19_Same_ex.choose_spec) x0) x1
noncomputable def ref19_Same_l0 (y0 : List ((Int) × ((Int) × ((Int) × ((ByteArray) × ((Int) × ((ByteArray) × (Int)))))))) (y1 : List ((Int) × ((Int) × ((Int) × ((ByteArray) × ((Int) × ((ByteArray) × (Int)))))))) (y2 : Int) : Option (Bool) := loopAt ref19_Same_C 3 16 [(false, [(false, .bool)])] ref19_Same_un [true, true, false, true, false] (St.ofLists [(0, .fz ((Ty.int IntKind.i64).pair ((Ty.int IntKind.i64).pair ((Ty.int IntKind.i64).pair (Ty.str.pair ((Ty.int IntKind.i64).pair (Ty.str.pair (Ty.int IntKind.i64))))))) y0 false false), (1, .fz ((Ty.int IntKind.i64).pair ((Ty.int IntKind.i64).pair ((Ty.int IntKind.i64).pair (Ty.str.pair ((Ty.int IntKind.i64).pair (Ty.str.pair (Ty.int IntKind.i64))))))) y1 false false), (5, .int .i64 y2)] [] [])
theorem ref19_Same_eq (x0 : List (Int × Int × Int × ByteArray × Int × ByteArray × Int)) (x1 : List (Int × Int × Int × ByteArray × Int × ByteArray × Int)) : ref19_Same x0 x1 =
  bif ilen x0 != ilen x1
  then some false
  else ref19_Same_l0 (x0) (x1) (0) := (ref19_Same_raw x0 x1).trans (by kernel_rfl)
theorem ref19_Same_l0_eq (y0 : List ((Int) × ((Int) × ((Int) × ((ByteArray) × ((Int) × ((ByteArray) × (Int)))))))) (y1 : List ((Int) × ((Int) × ((Int) × ((ByteArray) × ((Int) × ((ByteArray) × (Int)))))))) (y2 : Int) : ref19_Same_l0 y0 y1 y2 =
  bif decide (y2 < ilen y0)
  then bif decide (0 ≤ y2)
    then (y0[y2.toNat]?).bind fun val4 =>
      bif decide (0 ≤ y2)
        then (y1[y2.toNat]?).bind fun val8 =>
          bif !(val4.fst == val8.fst && (val4.snd.fst == val8.snd.fst && (val4.snd.snd.fst == val8.snd.snd.fst && (ByteArray.toList val4.snd.snd.snd.fst == ByteArray.toList val8.snd.snd.snd.fst && (val4.snd.snd.snd.snd.fst == val8.snd.snd.snd.snd.fst && (ByteArray.toList val4.snd.snd.snd.snd.snd.fst == ByteArray.toList val8.snd.snd.snd.snd.snd.fst && (val4.snd.snd.snd.snd.snd.snd == val8.snd.snd.snd.snd.snd.snd && true)))))))
            then some false
            else ref19_Same_l0 (y0) (y1) (IntKind.i64.wrap (y2 + 1))
        else none
    else none
  else some true := (loopAt_step _ _ _ _ _ _ _).trans (by kernel_rfl)
noncomputable def ref19_Same_sig : Sig := { pm := [(false, [(false, .slice (.pair (.int .i64) (.pair (.int .i64) (.pair (.int .i64) (.pair (.str) (.pair (.int .i64) (.pair (.str) (.int .i64))))))))]), (false, [(false, .slice (.pair (.int .i64) (.pair (.int .i64) (.pair (.int .i64) (.pair (.str) (.pair (.int .i64) (.pair (.str) (.int .i64))))))))])], rm := [(false, [(false, .bool)])], f := fun | [⟨.slice (.pair (.int .i64) (.pair (.int .i64) (.pair (.int .i64) (.pair (.str) (.pair (.int .i64) (.pair (.str) (.int .i64))))))), x0⟩, ⟨.slice (.pair (.int .i64) (.pair (.int .i64) (.pair (.int .i64) (.pair (.str) (.pair (.int .i64) (.pair (.str) (.int .i64))))))), x1⟩] => .yes _ (ref19_Same x0 x1) ref19_Same_mk | _ => .no }
theorem ref19_Same_ok : SigOk Try.prog 16 ref19_Same_sig := by
  refine contract_of (C := ref19_Same_C) (d := 3) S15_ok (callable_ex (by kernel_rfl)) ?_
  intro dvs
  unfold ref19_Same_sig
  dsimp only
  split
  · refine .inr ⟨_, ref19_Same_un, ref19_Same_mk, congrArg (fun o => Cl.yes _ o _) (ref19_Same_raw _ _), ?_⟩
    intro ds x h
    unfold ref19_Same_un at h
    split at h
    · cases h; rfl
    · cases h
  · exact .inl rfl
noncomputable def S16 : List (Nat × Sig) := (16, ref19_Same_sig) :: S15
theorem S16_ok : ListOk Try.prog S16 := ListOk.cons S15_ok ref19_Same_ok
noncomputable def ref19_Add_C : Cfg := { P := Try.prog, sig := lookSig S16, hb := fun f b => bif Nat.beq f 15 && Nat.beq b 0 then some { tmps := [0, 3, 6], obs := [124], nils := [], kl := [124] } else none, hr := fun _ _ => none }
noncomputable def ref19_Add_un : List DV → Option ((List (Int × Int × Int × ByteArray × Int × ByteArray × Int)) × Int) := fun | [⟨.slice (.pair (.int .i64) (.pair (.int .i64) (.pair (.int .i64) (.pair (.str) (.pair (.int .i64) (.pair (.str) (.int .i64))))))), r0⟩, ⟨.int .i64, r1⟩] => some (r0, r1) | _ => none
noncomputable def ref19_Add_mk : ((List (Int × Int × Int × ByteArray × Int × ByteArray × Int)) × Int) → List DV := fun ⟨r0, r1⟩ => [⟨.slice (.pair (.int .i64) (.pair (.int .i64) (.pair (.int .i64) (.pair (.str) (.pair (.int .i64) (.pair (.str) (.int .i64))))))), r0⟩, ⟨.int .i64, r1⟩]
theorem ref19_Add_ex : ∃ f : (List (Int × Int × Int × ByteArray × Int × ByteArray × Int)) → (Int) → (Int) → (Int) → (ByteArray) → (Int) → (ByteArray) → (Int) → Option ((List (Int × Int × Int × ByteArray × Int × ByteArray × Int)) × Int), f = fun (x0 : List (Int × Int × Int × ByteArray × Int × ByteArray × Int)) (x1 : Int) (x2 : Int) (x3 : Int) (x4 : ByteArray) (x5 : Int) (x6 : ByteArray) (x7 : Int) => funRun ref19_Add_C 3 15 [(false, [(false, .slice (.pair (.int .i64) (.pair (.int .i64) (.pair (.int .i64) (.pair (.str) (.pair (.int .i64) (.pair (.str) (.int .i64))))))))]), (true, [(false, .int .i64), (false, .int .i64), (false, .int .i64), (false, .str), (false, .int .i64), (false, .str), (false, .int .i64)])] [(false, [(true, .slice (.pair (.int .i64) (.pair (.int .i64) (.pair (.int .i64) (.pair (.str) (.pair (.int .i64) (.pair (.str) (.int .i64))))))))]), (false, [(false, .int .i64)])] ref19_Add_un [⟨.slice (.pair (.int .i64) (.pair (.int .i64) (.pair (.int .i64) (.pair (.str) (.pair (.int .i64) (.pair (.str) (.int .i64))))))), x0⟩, ⟨.int .i64, x1⟩, ⟨.int .i64, x2⟩, ⟨.int .i64, x3⟩, ⟨.str, x4⟩, ⟨.int .i64, x5⟩, ⟨.str, x6⟩, ⟨.int .i64, x7⟩] := ⟨_, rfl⟩
noncomputable def ref19_Add : (List (Int × Int × Int × ByteArray × Int × ByteArray × Int)) → (Int) → (Int) → (Int) → (ByteArray) → (Int) → (ByteArray) → (Int) → Option ((List (Int × Int × Int × ByteArray × Int × ByteArray × Int)) × Int) := ref19_Add_ex.choose
theorem ref19_Add_raw (x0 : List (Int × Int × Int × ByteArray × Int × ByteArray × Int)) (x1 : Int) (x2 : Int) (x3 : Int) (x4 : ByteArray) (x5 : Int) (x6 : ByteArray) (x7 : Int) : ref19_Add x0 x1 x2 x3 x4 x5 x6 x7 = funRun ref19_Add_C 3 15 [(false, [(false, .slice (.pair (.int .i64) (.pair (.int .i64) (.pair (.int .i64) (.pair (.str) (.pair (.int .i64) (.pair (.str) (.int .i64))))))))]), (true, [(false, .int .i64), (false, .int .i64), (false, .int .i64), (false, .str), (false, .int .i64), (false, .str), (false, .int .i64)])] [(false, [(true, .slice (.pair (.int .i64) (.pair (.int .i64) (.pair (.int .i64) (.pair (.str) (.pair (.int .i64) (.pair (.str) (.int .i64))))))))]), (false, [(false, .int .i64)])] ref19_Add_un [⟨.slice (.pair (.int .i64) (.pair (.int .i64) (.pair (.int .i64) (.pair (.str) (.pair (.int .i64) (.pair (.str) (.int .i64))))))), x0⟩, ⟨.int .i64, x1⟩, ⟨.int .i64, x2⟩, ⟨.int .i64, x3⟩, ⟨.str, x4⟩, ⟨.int .i64, x5⟩, ⟨.str, x6⟩, ⟨.int .i64, x7⟩] := congrFun (congrFun (congrFun (congrFun (congrFun (congrFun (congrFun (congrFun (ref19_Add_ex.choose_spec) x0) x1) x2) x3) x4) x5) x6) x7
noncomputable def ref19_Add_l0 (y0 : List ((Int) × ((Int) × ((Int) × ((ByteArray) × ((Int) × ((ByteArray) × (Int)))))))) (y1 : Int) (y2 : Int) (y3 : Int) (y4 : Int) (y5 : ByteArray) (y6 : Int) (y7 : ByteArray) (y8 : Int) : Option ((List (Int × Int × Int × ByteArray × Int × ByteArray × Int)) × Int) := loopAt ref19_Add_C 3 15 [(false, [(true, .slice (.pair (.int .i64) (.pair (.int .i64) (.pair (.int .i64) (.pair (.str) (.pair (.int .i64) (.pair (.str) (.int .i64))))))))]), (false, [(false, .int .i64)])] ref19_Add_un [true, false, true, false] (St.ofLists [(0, .fz ((Ty.int IntKind.i64).pair ((Ty.int IntKind.i64).pair ((Ty.int IntKind.i64).pair (Ty.str.pair ((Ty.int IntKind.i64).pair (Ty.str.pair (Ty.int IntKind.i64))))))) y0 false false), (3, .ptr 124 0), (6, .int .i64 y1)] [(124, some (.cells [.int .i64 y2, .int .i64 y3, .int .i64 y4, .str y5, .int .i64 y6, .str y7, .int .i64 y8]))] [124])
theorem ref19_Add_eq (x0 : List (Int × Int × Int × ByteArray × Int × ByteArray × Int)) (x1 : Int) (x2 : Int) (x3 : Int) (x4 : ByteArray) (x5 : Int) (x6 : ByteArray) (x7 : Int) : ref19_Add x0 x1 x2 x3 x4 x5 x6 x7 =
  ref19_Add_l0 (x0) (0) (x1) (x2) (x3) (x4) (x5) (x6) (x7) := (ref19_Add_raw x0 x1 x2 x3 x4 x5 x6 x7).trans (by kernel_rfl)
theorem ref19_Add_l0_eq (y0 : List ((Int) × ((Int) × ((Int) × ((ByteArray) × ((Int) × ((ByteArray) × (Int)))))))) (y1 : Int) (y2 : Int) (y3 : Int) (y4 : Int) (y5 : ByteArray) (y6 : Int) (y7 : ByteArray) (y8 : Int) : ref19_Add_l0 y0 y1 y2 y3 y4 y5 y6 y7 y8 =
  bif decide (y1 < ilen y0)
  then bif decide (0 ≤ y1)
    then (y0[y1.toNat]?).bind fun val4 =>
      bif decide (val4.fst ≥ y2)
        then some (([]), (10))
        else ref19_Add_l0 (y0) (IntKind.i64.wrap (y1 + 1)) (y2) (y3) (y4) (y5) (y6) (y7) (y8)
    else none
  else (ref19_Job y2 y3 y4 y5 y6 y7 y8).bind fun val2 =>
    bif !val2
      then some (([]), (1))
      else bif decide ((0 + ilen y0) * 72 ≤ room)
        then bif decide ((ilen ([] ++ y0) + ilen [(y2, y3, y4, y5, y6, y7, y8)]) * 72 ≤ room)
          then some (([] ++ y0 ++ [(y2, y3, y4, y5, y6, y7, y8)]), (0))
          else none
        else none := (loopAt_step _ _ _ _ _ _ _).trans (by kernel_rfl)
noncomputable def ref19_Add_sig : Sig := { pm := [(false, [(false, .slice (.pair (.int .i64) (.pair (.int .i64) (.pair (.int .i64) (.pair (.str) (.pair (.int .i64) (.pair (.str) (.int .i64))))))))]), (true, [(false, .int .i64), (false, .int .i64), (false, .int .i64), (false, .str), (false, .int .i64), (false, .str), (false, .int .i64)])], rm := [(false, [(true, .slice (.pair (.int .i64) (.pair (.int .i64) (.pair (.int .i64) (.pair (.str) (.pair (.int .i64) (.pair (.str) (.int .i64))))))))]), (false, [(false, .int .i64)])], f := fun | [⟨.slice (.pair (.int .i64) (.pair (.int .i64) (.pair (.int .i64) (.pair (.str) (.pair (.int .i64) (.pair (.str) (.int .i64))))))), x0⟩, ⟨.int .i64, x1⟩, ⟨.int .i64, x2⟩, ⟨.int .i64, x3⟩, ⟨.str, x4⟩, ⟨.int .i64, x5⟩, ⟨.str, x6⟩, ⟨.int .i64, x7⟩] => .yes _ (ref19_Add x0 x1 x2 x3 x4 x5 x6 x7) ref19_Add_mk | _ => .no }
theorem ref19_Add_ok : SigOk Try.prog 15 ref19_Add_sig := by
  refine contract_of (C := ref19_Add_C) (d := 3) S16_ok (callable_ex (by kernel_rfl)) ?_
  intro dvs
  unfold ref19_Add_sig
  dsimp only
  split
  · refine .inr ⟨_, ref19_Add_un, ref19_Add_mk, congrArg (fun o => Cl.yes _ o _) (ref19_Add_raw _ _ _ _ _ _ _ _), ?_⟩
    intro ds x h
    unfold ref19_Add_un at h
    split at h
    · cases h; rfl
    · cases h
  · exact .inl rfl
noncomputable def S17 : List (Nat × Sig) := (15, ref19_Add_sig) :: S16
theorem S17_ok : ListOk Try.prog S17 := ListOk.cons S16_ok ref19_Add_ok
noncomputable def ref19_Lend_C : Cfg := { P := Try.prog, sig := lookSig S17, hb := fun f b => bif Nat.beq f 19 && Nat.beq b 0 then some { tmps := [0, 1, 2, 3, 4, 5, 15, 16, 17], obs := [66, 70], nils := [(15, 60, (.pair (.int .i64) (.pair (.int .i64) (.pair (.int .i64) (.pair (.str) (.pair (.int .i64) (.pair (.str) (.int .i64)))))))), (16, 61, (.pair (.int .i64) (.pair (.int .i64) (.pair (.int .i64) (.pair (.str) (.pair (.int .i64) (.pair (.str) (.int .i64)))))))), (15, 62, (.pair (.int .i64) (.pair (.int .i64) (.pair (.int .i64) (.pair (.str) (.pair (.int .i64) (.pair (.str) (.int .i64)))))))), (15, 63, (.pair (.int .i64) (.pair (.int .i64) (.pair (.int .i64) (.pair (.str) (.pair (.int .i64) (.pair (.str) (.int .i64)))))))), (15, 64, (.pair (.int .i64) (.pair (.int .i64) (.pair (.int .i64) (.pair (.str) (.pair (.int .i64) (.pair (.str) (.int .i64)))))))), (15, 65, (.pair (.int .i64) (.pair (.int .i64) (.pair (.int .i64) (.pair (.str) (.pair (.int .i64) (.pair (.str) (.int .i64)))))))), (16, 66, (.pair (.int .i64) (.pair (.int .i64) (.pair (.int .i64) (.pair (.str) (.pair (.int .i64) (.pair (.str) (.int .i64)))))))), (15, 67, (.pair (.int .i64) (.pair (.int .i64) (.pair (.int .i64) (.pair (.str) (.pair (.int .i64) (.pair (.str) (.int .i64)))))))), (15, 68, (.pair (.int .i64) (.pair (.int .i64) (.pair (.int .i64) (.pair (.str) (.pair (.int .i64) (.pair (.str) (.int .i64)))))))), (15, 69, (.pair (.int .i64) (.pair (.int .i64) (.pair (.int .i64) (.pair (.str) (.pair (.int .i64) (.pair (.str) (.int .i64)))))))), (15, 70, (.pair (.int .i64) (.pair (.int .i64) (.pair (.int .i64) (.pair (.str) (.pair (.int .i64) (.pair (.str) (.int .i64))))))))], kl := [836, 828, 804, 796, 244, 69, 70, 68, 69, 67, 68, 65, 67, 61, 66, 64, 65, 63, 64, 62, 63, 60, 62, 61, 60] } else none, hr := fun _ _ => none }
noncomputable def ref19_Lend_un : List DV → Option ((List (Int × Int × Int × ByteArray × Int × ByteArray × Int)) × (List (Int × Int × Int × ByteArray × Int × ByteArray × Int)) × Int) := fun | [⟨.slice (.pair (.int .i64) (.pair (.int .i64) (.pair (.int .i64) (.pair (.str) (.pair (.int .i64) (.pair (.str) (.int .i64))))))), r0⟩, ⟨.slice (.pair (.int .i64) (.pair (.int .i64) (.pair (.int .i64) (.pair (.str) (.pair (.int .i64) (.pair (.str) (.int .i64))))))), r1⟩, ⟨.int .i64, r2⟩] => some (r0, r1, r2) | _ => none
noncomputable def ref19_Lend_mk : ((List (Int × Int × Int × ByteArray × Int × ByteArray × Int)) × (List (Int × Int × Int × ByteArray × Int × ByteArray × Int)) × Int) → List DV := fun ⟨r0, r1, r2⟩ => [⟨.slice (.pair (.int .i64) (.pair (.int .i64) (.pair (.int .i64) (.pair (.str) (.pair (.int .i64) (.pair (.str) (.int .i64))))))), r0⟩, ⟨.slice (.pair (.int .i64) (.pair (.int .i64) (.pair (.int .i64) (.pair (.str) (.pair (.int .i64) (.pair (.str) (.int .i64))))))), r1⟩, ⟨.int .i64, r2⟩]
theorem ref19_Lend_ex : ∃ f : (List (Int × Int × Int × ByteArray × Int × ByteArray × Int)) → (ByteArray) → (ByteArray) → (Int) → (Int) → (Int) → Option ((List (Int × Int × Int × ByteArray × Int × ByteArray × Int)) × (List (Int × Int × Int × ByteArray × Int × ByteArray × Int)) × Int), f = fun (x0 : List (Int × Int × Int × ByteArray × Int × ByteArray × Int)) (x1 : ByteArray) (x2 : ByteArray) (x3 : Int) (x4 : Int) (x5 : Int) => funRun ref19_Lend_C 3 19 [(false, [(false, .slice (.pair (.int .i64) (.pair (.int .i64) (.pair (.int .i64) (.pair (.str) (.pair (.int .i64) (.pair (.str) (.int .i64))))))))]), (false, [(false, .str)]), (false, [(false, .str)]), (false, [(false, .int .i64)]), (false, [(false, .int .i64)]), (false, [(false, .int .i64)])] [(false, [(true, .slice (.pair (.int .i64) (.pair (.int .i64) (.pair (.int .i64) (.pair (.str) (.pair (.int .i64) (.pair (.str) (.int .i64))))))))]), (false, [(true, .slice (.pair (.int .i64) (.pair (.int .i64) (.pair (.int .i64) (.pair (.str) (.pair (.int .i64) (.pair (.str) (.int .i64))))))))]), (false, [(false, .int .i64)])] ref19_Lend_un [⟨.slice (.pair (.int .i64) (.pair (.int .i64) (.pair (.int .i64) (.pair (.str) (.pair (.int .i64) (.pair (.str) (.int .i64))))))), x0⟩, ⟨.str, x1⟩, ⟨.str, x2⟩, ⟨.int .i64, x3⟩, ⟨.int .i64, x4⟩, ⟨.int .i64, x5⟩] := ⟨_, rfl⟩
noncomputable def ref19_Lend : (List (Int × Int × Int × ByteArray × Int × ByteArray × Int)) → (ByteArray) → (ByteArray) → (Int) → (Int) → (Int) → Option ((List (Int × Int × Int × ByteArray × Int × ByteArray × Int)) × (List (Int × Int × Int × ByteArray × Int × ByteArray × Int)) × Int) := ref19_Lend_ex.choose
theorem ref19_Lend_raw (x0 : List (Int × Int × Int × ByteArray × Int × ByteArray × Int)) (x1 : ByteArray) (x2 : ByteArray) (x3 : Int) (x4 : Int) (x5 : Int) : ref19_Lend x0 x1 x2 x3 x4 x5 = funRun ref19_Lend_C 3 19 [(false, [(false, .slice (.pair (.int .i64) (.pair (.int .i64) (.pair (.int .i64) (.pair (.str) (.pair (.int .i64) (.pair (.str) (.int .i64))))))))]), (false, [(false, .str)]), (false, [(false, .str)]), (false, [(false, .int .i64)]), (false, [(false, .int .i64)]), (false, [(false, .int .i64)])] [(false, [(true, .slice (.pair (.int .i64) (.pair (.int .i64) (.pair (.int .i64) (.pair (.str) (.pair (.int .i64) (.pair (.str) (.int .i64))))))))]), (false, [(true, .slice (.pair (.int .i64) (.pair (.int .i64) (.pair (.int .i64) (.pair (.str) (.pair (.int .i64) (.pair (.str) (.int .i64))))))))]), (false, [(false, .int .i64)])] ref19_Lend_un [⟨.slice (.pair (.int .i64) (.pair (.int .i64) (.pair (.int .i64) (.pair (.str) (.pair (.int .i64) (.pair (.str) (.int .i64))))))), x0⟩, ⟨.str, x1⟩, ⟨.str, x2⟩, ⟨.int .i64, x3⟩, ⟨.int .i64, x4⟩, ⟨.int .i64, x5⟩] := congrFun (congrFun (congrFun (congrFun (congrFun (congrFun (ref19_Lend_ex.choose_spec) x0) x1) x2) x3) x4) x5
noncomputable def ref19_Lend_l0 (y0 : List ((Int) × ((Int) × ((Int) × ((ByteArray) × ((Int) × ((ByteArray) × (Int)))))))) (y1 : ByteArray) (y2 : ByteArray) (y3 : Int) (y4 : Int) (y5 : Int) (y6 : Int) (y7 : List ((Int) × ((Int) × ((Int) × ((ByteArray) × ((Int) × ((ByteArray) × (Int)))))))) (y8 : List ((Int) × ((Int) × ((Int) × ((ByteArray) × ((Int) × ((ByteArray) × (Int)))))))) : Option ((List (Int × Int × Int × ByteArray × Int × ByteArray × Int)) × (List (Int × Int × Int × ByteArray × Int × ByteArray × Int)) × Int) := loopAt ref19_Lend_C 3 19 [(false, [(true, .slice (.pair (.int .i64) (.pair (.int .i64) (.pair (.int .i64) (.pair (.str) (.pair (.int .i64) (.pair (.str) (.int .i64))))))))]), (false, [(true, .slice (.pair (.int .i64) (.pair (.int .i64) (.pair (.int .i64) (.pair (.str) (.pair (.int .i64) (.pair (.str) (.int .i64))))))))]), (false, [(false, .int .i64)])] ref19_Lend_un [true, true, true, true, false, true, false] (St.ofLists [(0, .fz ((Ty.int IntKind.i64).pair ((Ty.int IntKind.i64).pair ((Ty.int IntKind.i64).pair (Ty.str.pair ((Ty.int IntKind.i64).pair (Ty.str.pair (Ty.int IntKind.i64))))))) y0 false false), (1, .str y1), (2, .str y2), (3, .int .i64 y3), (4, .int .i64 y4), (5, .int .i64 y5), (15, .ow 70), (16, .ow 66), (17, .int .i64 y6)] [(66, some (.row ((Ty.int IntKind.i64).pair ((Ty.int IntKind.i64).pair ((Ty.int IntKind.i64).pair (Ty.str.pair ((Ty.int IntKind.i64).pair (Ty.str.pair (Ty.int IntKind.i64))))))) y7 0 false)), (70, some (.row ((Ty.int IntKind.i64).pair ((Ty.int IntKind.i64).pair ((Ty.int IntKind.i64).pair (Ty.str.pair ((Ty.int IntKind.i64).pair (Ty.str.pair (Ty.int IntKind.i64))))))) y8 0 false))] [836, 828, 804, 796, 244, 69, 70, 68, 69, 67, 68, 65, 67, 61, 66, 64, 65, 63, 64, 62, 63, 60, 62, 61, 60])
theorem ref19_Lend_eq (x0 : List (Int × Int × Int × ByteArray × Int × ByteArray × Int)) (x1 : ByteArray) (x2 : ByteArray) (x3 : Int) (x4 : Int) (x5 : Int) : ref19_Lend x0 x1 x2 x3 x4 x5 =
  (ref02_Name x1).bind fun val0 =>
  bif !val0
    then some (([]), (([]), (1)))
    else (ref02_Name x2).bind fun val4 =>
      bif !val4
        then some (([]), (([]), (1)))
        else bif decide (x3 < 0)
          then some (([]), (([]), (2)))
          else bif decide (x4 ≤ x3)
            then some (([]), (([]), (2)))
            else bif decide (x4 > 1099511627776)
              then some (([]), (([]), (2)))
              else (ref19_in x5 1 8).bind fun val14 =>
                bif !val14
                  then some (([]), (([]), (2)))
                  else ref19_Lend_l0 (x0) (x1) (x2) (x3) (x4) (x5) (0) ([]) ([]) := (ref19_Lend_raw x0 x1 x2 x3 x4 x5).trans (by kernel_rfl)
theorem ref19_Lend_l0_eq (y0 : List ((Int) × ((Int) × ((Int) × ((ByteArray) × ((Int) × ((ByteArray) × (Int)))))))) (y1 : ByteArray) (y2 : ByteArray) (y3 : Int) (y4 : Int) (y5 : Int) (y6 : Int) (y7 : List ((Int) × ((Int) × ((Int) × ((ByteArray) × ((Int) × ((ByteArray) × (Int)))))))) (y8 : List ((Int) × ((Int) × ((Int) × ((ByteArray) × ((Int) × ((ByteArray) × (Int)))))))) : ref19_Lend_l0 y0 y1 y2 y3 y4 y5 y6 y7 y8 =
  bif decide (y6 < ilen y0)
  then bif decide (0 ≤ y6)
    then (y0[y6.toNat]?).bind fun val4 =>
      bif ByteArray.toList val4.snd.snd.snd.snd.snd.fst == (⟨#[]⟩ : ByteArray).toList
        then bif decide (ilen y7 < y5)
          then bif ByteArray.toList val4.snd.snd.snd.fst == y1.toList
            then bif decide (val4.snd.snd.snd.snd.fst > 0)
              then bif decide ((ilen y7 + ilen [(val4.fst, val4.snd.fst, val4.snd.snd.fst, val4.snd.snd.snd.fst, val4.snd.snd.snd.snd.fst, y2, y4)]) * 72 ≤ room)
                then bif decide ((ilen y8 + ilen [(val4.fst, val4.snd.fst, val4.snd.snd.fst, val4.snd.snd.snd.fst, val4.snd.snd.snd.snd.fst, y2, y4)]) * 72 ≤ room)
                  then ref19_Lend_l0 (y0) (y1) (y2) (y3) (y4) (y5) (IntKind.i64.wrap (y6 + 1)) (y7 ++ [(val4.fst, val4.snd.fst, val4.snd.snd.fst, val4.snd.snd.snd.fst, val4.snd.snd.snd.snd.fst, y2, y4)]) (y8 ++ [(val4.fst, val4.snd.fst, val4.snd.snd.fst, val4.snd.snd.snd.fst, val4.snd.snd.snd.snd.fst, y2, y4)])
                  else none
                else none
              else bif decide ((ilen y8 + ilen [val4]) * 72 ≤ room)
                then ref19_Lend_l0 (y0) (y1) (y2) (y3) (y4) (y5) (IntKind.i64.wrap (y6 + 1)) (y7) (y8 ++ [val4])
                else none
            else bif decide ((ilen y8 + ilen [val4]) * 72 ≤ room)
              then ref19_Lend_l0 (y0) (y1) (y2) (y3) (y4) (y5) (IntKind.i64.wrap (y6 + 1)) (y7) (y8 ++ [val4])
              else none
          else bif decide ((ilen y8 + ilen [val4]) * 72 ≤ room)
            then ref19_Lend_l0 (y0) (y1) (y2) (y3) (y4) (y5) (IntKind.i64.wrap (y6 + 1)) (y7) (y8 ++ [val4])
            else none
        else bif decide (ilen y7 < y5)
          then bif ByteArray.toList val4.snd.snd.snd.fst == y1.toList
            then bif decide (val4.snd.snd.snd.snd.fst > 0)
              then bif decide (val4.snd.snd.snd.snd.snd.snd ≤ y3)
                then bif decide ((ilen y7 + ilen [(val4.fst, val4.snd.fst, val4.snd.snd.fst, val4.snd.snd.snd.fst, val4.snd.snd.snd.snd.fst, y2, y4)]) * 72 ≤ room)
                  then bif decide ((ilen y8 + ilen [(val4.fst, val4.snd.fst, val4.snd.snd.fst, val4.snd.snd.snd.fst, val4.snd.snd.snd.snd.fst, y2, y4)]) * 72 ≤ room)
                    then ref19_Lend_l0 (y0) (y1) (y2) (y3) (y4) (y5) (IntKind.i64.wrap (y6 + 1)) (y7 ++ [(val4.fst, val4.snd.fst, val4.snd.snd.fst, val4.snd.snd.snd.fst, val4.snd.snd.snd.snd.fst, y2, y4)]) (y8 ++ [(val4.fst, val4.snd.fst, val4.snd.snd.fst, val4.snd.snd.snd.fst, val4.snd.snd.snd.snd.fst, y2, y4)])
                    else none
                  else none
                else bif decide ((ilen y8 + ilen [val4]) * 72 ≤ room)
                  then ref19_Lend_l0 (y0) (y1) (y2) (y3) (y4) (y5) (IntKind.i64.wrap (y6 + 1)) (y7) (y8 ++ [val4])
                  else none
              else bif decide ((ilen y8 + ilen [val4]) * 72 ≤ room)
                then ref19_Lend_l0 (y0) (y1) (y2) (y3) (y4) (y5) (IntKind.i64.wrap (y6 + 1)) (y7) (y8 ++ [val4])
                else none
            else bif decide ((ilen y8 + ilen [val4]) * 72 ≤ room)
              then ref19_Lend_l0 (y0) (y1) (y2) (y3) (y4) (y5) (IntKind.i64.wrap (y6 + 1)) (y7) (y8 ++ [val4])
              else none
          else bif decide ((ilen y8 + ilen [val4]) * 72 ≤ room)
            then ref19_Lend_l0 (y0) (y1) (y2) (y3) (y4) (y5) (IntKind.i64.wrap (y6 + 1)) (y7) (y8 ++ [val4])
            else none
    else none
  else some ((y8), ((y7), (0))) := (loopAt_step _ _ _ _ _ _ _).trans (by kernel_rfl)
noncomputable def ref19_Lend_sig : Sig := { pm := [(false, [(false, .slice (.pair (.int .i64) (.pair (.int .i64) (.pair (.int .i64) (.pair (.str) (.pair (.int .i64) (.pair (.str) (.int .i64))))))))]), (false, [(false, .str)]), (false, [(false, .str)]), (false, [(false, .int .i64)]), (false, [(false, .int .i64)]), (false, [(false, .int .i64)])], rm := [(false, [(true, .slice (.pair (.int .i64) (.pair (.int .i64) (.pair (.int .i64) (.pair (.str) (.pair (.int .i64) (.pair (.str) (.int .i64))))))))]), (false, [(true, .slice (.pair (.int .i64) (.pair (.int .i64) (.pair (.int .i64) (.pair (.str) (.pair (.int .i64) (.pair (.str) (.int .i64))))))))]), (false, [(false, .int .i64)])], f := fun | [⟨.slice (.pair (.int .i64) (.pair (.int .i64) (.pair (.int .i64) (.pair (.str) (.pair (.int .i64) (.pair (.str) (.int .i64))))))), x0⟩, ⟨.str, x1⟩, ⟨.str, x2⟩, ⟨.int .i64, x3⟩, ⟨.int .i64, x4⟩, ⟨.int .i64, x5⟩] => .yes _ (ref19_Lend x0 x1 x2 x3 x4 x5) ref19_Lend_mk | _ => .no }
theorem ref19_Lend_ok : SigOk Try.prog 19 ref19_Lend_sig := by
  refine contract_of (C := ref19_Lend_C) (d := 3) S17_ok (callable_ex (by kernel_rfl)) ?_
  intro dvs
  unfold ref19_Lend_sig
  dsimp only
  split
  · refine .inr ⟨_, ref19_Lend_un, ref19_Lend_mk, congrArg (fun o => Cl.yes _ o _) (ref19_Lend_raw _ _ _ _ _ _), ?_⟩
    intro ds x h
    unfold ref19_Lend_un at h
    split at h
    · cases h; rfl
    · cases h
  · exact .inl rfl
noncomputable def S18 : List (Nat × Sig) := (19, ref19_Lend_sig) :: S17
theorem S18_ok : ListOk Try.prog S18 := ListOk.cons S17_ok ref19_Lend_ok
noncomputable def ref19_has_C : Cfg := { P := Try.prog, sig := lookSig S18, hb := fun _ _ => none, hr := fun _ _ => none }
noncomputable def ref19_has_un : List DV → Option (Int) := fun | [⟨.int .i64, r0⟩] => some r0 | _ => none
noncomputable def ref19_has_mk : Int → List DV := fun r0 => [⟨.int .i64, r0⟩]
theorem ref19_has_ex : ∃ f : (List (Int × Int × Int × ByteArray × Int × ByteArray × Int)) → (Int) → (ByteArray) → (Int) → Option (Int), f = fun (x0 : List (Int × Int × Int × ByteArray × Int × ByteArray × Int)) (x1 : Int) (x2 : ByteArray) (x3 : Int) => funRun ref19_has_C 3 39 [(false, [(false, .slice (.pair (.int .i64) (.pair (.int .i64) (.pair (.int .i64) (.pair (.str) (.pair (.int .i64) (.pair (.str) (.int .i64))))))))]), (false, [(false, .int .i64)]), (false, [(false, .str)]), (false, [(false, .int .i64)])] [(false, [(false, .int .i64)])] ref19_has_un [⟨.slice (.pair (.int .i64) (.pair (.int .i64) (.pair (.int .i64) (.pair (.str) (.pair (.int .i64) (.pair (.str) (.int .i64))))))), x0⟩, ⟨.int .i64, x1⟩, ⟨.str, x2⟩, ⟨.int .i64, x3⟩] := ⟨_, rfl⟩
noncomputable def ref19_has : (List (Int × Int × Int × ByteArray × Int × ByteArray × Int)) → (Int) → (ByteArray) → (Int) → Option (Int) := ref19_has_ex.choose
theorem ref19_has_raw (x0 : List (Int × Int × Int × ByteArray × Int × ByteArray × Int)) (x1 : Int) (x2 : ByteArray) (x3 : Int) : ref19_has x0 x1 x2 x3 = funRun ref19_has_C 3 39 [(false, [(false, .slice (.pair (.int .i64) (.pair (.int .i64) (.pair (.int .i64) (.pair (.str) (.pair (.int .i64) (.pair (.str) (.int .i64))))))))]), (false, [(false, .int .i64)]), (false, [(false, .str)]), (false, [(false, .int .i64)])] [(false, [(false, .int .i64)])] ref19_has_un [⟨.slice (.pair (.int .i64) (.pair (.int .i64) (.pair (.int .i64) (.pair (.str) (.pair (.int .i64) (.pair (.str) (.int .i64))))))), x0⟩, ⟨.int .i64, x1⟩, ⟨.str, x2⟩, ⟨.int .i64, x3⟩] := congrFun (congrFun (congrFun (congrFun (ref19_has_ex.choose_spec) x0) x1) x2) x3
theorem ref19_has_eq (x0 : List (Int × Int × Int × ByteArray × Int × ByteArray × Int)) (x1 : Int) (x2 : ByteArray) (x3 : Int) : ref19_has x0 x1 x2 x3 =
  (ref19_Get x0 x1).bind fun val0 =>
  bif !val0.2.2.2.2.2.2.2
    then some (9)
    else bif x2.toList == (⟨#[]⟩ : ByteArray).toList
      then some (11)
      else bif !val0.2.2.2.2.2.1.toList == x2.toList
        then some (11)
        else bif decide (x3 ≥ val0.2.2.2.2.2.2.1)
          then some (11)
          else some (0) := (ref19_has_raw x0 x1 x2 x3).trans (by kernel_rfl)
noncomputable def ref19_has_sig : Sig := { pm := [(false, [(false, .slice (.pair (.int .i64) (.pair (.int .i64) (.pair (.int .i64) (.pair (.str) (.pair (.int .i64) (.pair (.str) (.int .i64))))))))]), (false, [(false, .int .i64)]), (false, [(false, .str)]), (false, [(false, .int .i64)])], rm := [(false, [(false, .int .i64)])], f := fun | [⟨.slice (.pair (.int .i64) (.pair (.int .i64) (.pair (.int .i64) (.pair (.str) (.pair (.int .i64) (.pair (.str) (.int .i64))))))), x0⟩, ⟨.int .i64, x1⟩, ⟨.str, x2⟩, ⟨.int .i64, x3⟩] => .yes _ (ref19_has x0 x1 x2 x3) ref19_has_mk | _ => .no }
theorem ref19_has_ok : SigOk Try.prog 39 ref19_has_sig := by
  refine contract_of (C := ref19_has_C) (d := 3) S18_ok (callable_ex (by kernel_rfl)) ?_
  intro dvs
  unfold ref19_has_sig
  dsimp only
  split
  · refine .inr ⟨_, ref19_has_un, ref19_has_mk, congrArg (fun o => Cl.yes _ o _) (ref19_has_raw _ _ _ _), ?_⟩
    intro ds x h
    unfold ref19_has_un at h
    split at h
    · cases h; rfl
    · cases h
  · exact .inl rfl
noncomputable def S19 : List (Nat × Sig) := (39, ref19_has_sig) :: S18
theorem S19_ok : ListOk Try.prog S19 := ListOk.cons S18_ok ref19_has_ok
noncomputable def ref19_put_C : Cfg := { P := Try.prog, sig := lookSig S19, hb := fun f b => bif Nat.beq f 40 && Nat.beq b 0 then some { tmps := [0, 1, 2, 7, 8], obs := [61], nils := [(7, 60, (.pair (.int .i64) (.pair (.int .i64) (.pair (.int .i64) (.pair (.str) (.pair (.int .i64) (.pair (.str) (.int .i64)))))))), (7, 61, (.pair (.int .i64) (.pair (.int .i64) (.pair (.int .i64) (.pair (.str) (.pair (.int .i64) (.pair (.str) (.int .i64))))))))], kl := [292, 348, 340, 60, 61, 60] } else none, hr := fun _ _ => none }
noncomputable def ref19_put_un : List DV → Option ((List (Int × Int × Int × ByteArray × Int × ByteArray × Int))) := fun | [⟨.slice (.pair (.int .i64) (.pair (.int .i64) (.pair (.int .i64) (.pair (.str) (.pair (.int .i64) (.pair (.str) (.int .i64))))))), r0⟩] => some r0 | _ => none
noncomputable def ref19_put_mk : (List (Int × Int × Int × ByteArray × Int × ByteArray × Int)) → List DV := fun r0 => [⟨.slice (.pair (.int .i64) (.pair (.int .i64) (.pair (.int .i64) (.pair (.str) (.pair (.int .i64) (.pair (.str) (.int .i64))))))), r0⟩]
theorem ref19_put_ex : ∃ f : (List (Int × Int × Int × ByteArray × Int × ByteArray × Int)) → (Int) → (List (Int × Int × Int × ByteArray × Int × ByteArray × Int)) → Option ((List (Int × Int × Int × ByteArray × Int × ByteArray × Int))), f = fun (x0 : List (Int × Int × Int × ByteArray × Int × ByteArray × Int)) (x1 : Int) (x2 : List (Int × Int × Int × ByteArray × Int × ByteArray × Int)) => funRun ref19_put_C 3 40 [(false, [(false, .slice (.pair (.int .i64) (.pair (.int .i64) (.pair (.int .i64) (.pair (.str) (.pair (.int .i64) (.pair (.str) (.int .i64))))))))]), (false, [(false, .int .i64)]), (false, [(false, .slice (.pair (.int .i64) (.pair (.int .i64) (.pair (.int .i64) (.pair (.str) (.pair (.int .i64) (.pair (.str) (.int .i64))))))))])] [(false, [(true, .slice (.pair (.int .i64) (.pair (.int .i64) (.pair (.int .i64) (.pair (.str) (.pair (.int .i64) (.pair (.str) (.int .i64))))))))])] ref19_put_un [⟨.slice (.pair (.int .i64) (.pair (.int .i64) (.pair (.int .i64) (.pair (.str) (.pair (.int .i64) (.pair (.str) (.int .i64))))))), x0⟩, ⟨.int .i64, x1⟩, ⟨.slice (.pair (.int .i64) (.pair (.int .i64) (.pair (.int .i64) (.pair (.str) (.pair (.int .i64) (.pair (.str) (.int .i64))))))), x2⟩] := ⟨_, rfl⟩
noncomputable def ref19_put : (List (Int × Int × Int × ByteArray × Int × ByteArray × Int)) → (Int) → (List (Int × Int × Int × ByteArray × Int × ByteArray × Int)) → Option ((List (Int × Int × Int × ByteArray × Int × ByteArray × Int))) := ref19_put_ex.choose
theorem ref19_put_raw (x0 : List (Int × Int × Int × ByteArray × Int × ByteArray × Int)) (x1 : Int) (x2 : List (Int × Int × Int × ByteArray × Int × ByteArray × Int)) : ref19_put x0 x1 x2 = funRun ref19_put_C 3 40 [(false, [(false, .slice (.pair (.int .i64) (.pair (.int .i64) (.pair (.int .i64) (.pair (.str) (.pair (.int .i64) (.pair (.str) (.int .i64))))))))]), (false, [(false, .int .i64)]), (false, [(false, .slice (.pair (.int .i64) (.pair (.int .i64) (.pair (.int .i64) (.pair (.str) (.pair (.int .i64) (.pair (.str) (.int .i64))))))))])] [(false, [(true, .slice (.pair (.int .i64) (.pair (.int .i64) (.pair (.int .i64) (.pair (.str) (.pair (.int .i64) (.pair (.str) (.int .i64))))))))])] ref19_put_un [⟨.slice (.pair (.int .i64) (.pair (.int .i64) (.pair (.int .i64) (.pair (.str) (.pair (.int .i64) (.pair (.str) (.int .i64))))))), x0⟩, ⟨.int .i64, x1⟩, ⟨.slice (.pair (.int .i64) (.pair (.int .i64) (.pair (.int .i64) (.pair (.str) (.pair (.int .i64) (.pair (.str) (.int .i64))))))), x2⟩] := congrFun (congrFun (congrFun (ref19_put_ex.choose_spec) x0) x1) x2
noncomputable def ref19_put_l0 (y0 : List ((Int) × ((Int) × ((Int) × ((ByteArray) × ((Int) × ((ByteArray) × (Int)))))))) (y1 : Int) (y2 : List ((Int) × ((Int) × ((Int) × ((ByteArray) × ((Int) × ((ByteArray) × (Int)))))))) (y3 : Int) (y4 : List ((Int) × ((Int) × ((Int) × ((ByteArray) × ((Int) × ((ByteArray) × (Int)))))))) : Option ((List (Int × Int × Int × ByteArray × Int × ByteArray × Int))) := loopAt ref19_put_C 3 40 [(false, [(true, .slice (.pair (.int .i64) (.pair (.int .i64) (.pair (.int .i64) (.pair (.str) (.pair (.int .i64) (.pair (.str) (.int .i64))))))))])] ref19_put_un [true, true, false, true, false] (St.ofLists [(0, .fz ((Ty.int IntKind.i64).pair ((Ty.int IntKind.i64).pair ((Ty.int IntKind.i64).pair (Ty.str.pair ((Ty.int IntKind.i64).pair (Ty.str.pair (Ty.int IntKind.i64))))))) y0 false false), (1, .int .i64 y1), (2, .fz ((Ty.int IntKind.i64).pair ((Ty.int IntKind.i64).pair ((Ty.int IntKind.i64).pair (Ty.str.pair ((Ty.int IntKind.i64).pair (Ty.str.pair (Ty.int IntKind.i64))))))) y2 false false), (7, .ow 61), (8, .int .i64 y3)] [(61, some (.row ((Ty.int IntKind.i64).pair ((Ty.int IntKind.i64).pair ((Ty.int IntKind.i64).pair (Ty.str.pair ((Ty.int IntKind.i64).pair (Ty.str.pair (Ty.int IntKind.i64))))))) y4 0 false))] [292, 348, 340, 60, 61, 60])
theorem ref19_put_eq (x0 : List (Int × Int × Int × ByteArray × Int × ByteArray × Int)) (x1 : Int) (x2 : List (Int × Int × Int × ByteArray × Int × ByteArray × Int)) : ref19_put x0 x1 x2 =
  ref19_put_l0 (x0) (x1) (x2) (0) ([]) := (ref19_put_raw x0 x1 x2).trans (by kernel_rfl)
theorem ref19_put_l0_eq (y0 : List ((Int) × ((Int) × ((Int) × ((ByteArray) × ((Int) × ((ByteArray) × (Int)))))))) (y1 : Int) (y2 : List ((Int) × ((Int) × ((Int) × ((ByteArray) × ((Int) × ((ByteArray) × (Int)))))))) (y3 : Int) (y4 : List ((Int) × ((Int) × ((Int) × ((ByteArray) × ((Int) × ((ByteArray) × (Int)))))))) : ref19_put_l0 y0 y1 y2 y3 y4 =
  bif decide (y3 < ilen y0)
  then bif decide (0 ≤ y3)
    then (y0[y3.toNat]?).bind fun val4 =>
      bif val4.fst == y1
        then bif decide ((ilen y4 + ilen y2) * 72 ≤ room)
          then ref19_put_l0 (y0) (y1) (y2) (IntKind.i64.wrap (y3 + 1)) (y4 ++ y2)
          else none
        else bif decide (0 ≤ y3)
          then (y0[y3.toNat]?).bind fun val10 =>
            bif decide ((ilen y4 + ilen [val10]) * 72 ≤ room)
              then ref19_put_l0 (y0) (y1) (y2) (IntKind.i64.wrap (y3 + 1)) (y4 ++ [val10])
              else none
          else none
    else none
  else some (y4) := (loopAt_step _ _ _ _ _ _ _).trans (by kernel_rfl)
noncomputable def ref19_put_sig : Sig := { pm := [(false, [(false, .slice (.pair (.int .i64) (.pair (.int .i64) (.pair (.int .i64) (.pair (.str) (.pair (.int .i64) (.pair (.str) (.int .i64))))))))]), (false, [(false, .int .i64)]), (false, [(false, .slice (.pair (.int .i64) (.pair (.int .i64) (.pair (.int .i64) (.pair (.str) (.pair (.int .i64) (.pair (.str) (.int .i64))))))))])], rm := [(false, [(true, .slice (.pair (.int .i64) (.pair (.int .i64) (.pair (.int .i64) (.pair (.str) (.pair (.int .i64) (.pair (.str) (.int .i64))))))))])], f := fun | [⟨.slice (.pair (.int .i64) (.pair (.int .i64) (.pair (.int .i64) (.pair (.str) (.pair (.int .i64) (.pair (.str) (.int .i64))))))), x0⟩, ⟨.int .i64, x1⟩, ⟨.slice (.pair (.int .i64) (.pair (.int .i64) (.pair (.int .i64) (.pair (.str) (.pair (.int .i64) (.pair (.str) (.int .i64))))))), x2⟩] => .yes _ (ref19_put x0 x1 x2) ref19_put_mk | _ => .no }
theorem ref19_put_ok : SigOk Try.prog 40 ref19_put_sig := by
  refine contract_of (C := ref19_put_C) (d := 3) S19_ok (callable_ex (by kernel_rfl)) ?_
  intro dvs
  unfold ref19_put_sig
  dsimp only
  split
  · refine .inr ⟨_, ref19_put_un, ref19_put_mk, congrArg (fun o => Cl.yes _ o _) (ref19_put_raw _ _ _), ?_⟩
    intro ds x h
    unfold ref19_put_un at h
    split at h
    · cases h; rfl
    · cases h
  · exact .inl rfl
noncomputable def S20 : List (Nat × Sig) := (40, ref19_put_sig) :: S19
theorem S20_ok : ListOk Try.prog S20 := ListOk.cons S19_ok ref19_put_ok
noncomputable def ref19_Done_C : Cfg := { P := Try.prog, sig := lookSig S20, hb := fun _ _ => none, hr := fun _ _ => none }
noncomputable def ref19_Done_un : List DV → Option ((List (Int × Int × Int × ByteArray × Int × ByteArray × Int)) × Int × Int × Int × ByteArray × Int × ByteArray × Int × Int) := fun | [⟨.slice (.pair (.int .i64) (.pair (.int .i64) (.pair (.int .i64) (.pair (.str) (.pair (.int .i64) (.pair (.str) (.int .i64))))))), r0⟩, ⟨.int .i64, r1⟩, ⟨.int .i64, r2⟩, ⟨.int .i64, r3⟩, ⟨.str, r4⟩, ⟨.int .i64, r5⟩, ⟨.str, r6⟩, ⟨.int .i64, r7⟩, ⟨.int .i64, r8⟩] => some (r0, r1, r2, r3, r4, r5, r6, r7, r8) | _ => none
noncomputable def ref19_Done_mk : ((List (Int × Int × Int × ByteArray × Int × ByteArray × Int)) × Int × Int × Int × ByteArray × Int × ByteArray × Int × Int) → List DV := fun ⟨r0, r1, r2, r3, r4, r5, r6, r7, r8⟩ => [⟨.slice (.pair (.int .i64) (.pair (.int .i64) (.pair (.int .i64) (.pair (.str) (.pair (.int .i64) (.pair (.str) (.int .i64))))))), r0⟩, ⟨.int .i64, r1⟩, ⟨.int .i64, r2⟩, ⟨.int .i64, r3⟩, ⟨.str, r4⟩, ⟨.int .i64, r5⟩, ⟨.str, r6⟩, ⟨.int .i64, r7⟩, ⟨.int .i64, r8⟩]
theorem ref19_Done_ex : ∃ f : (List (Int × Int × Int × ByteArray × Int × ByteArray × Int)) → (Int) → (ByteArray) → (Int) → Option ((List (Int × Int × Int × ByteArray × Int × ByteArray × Int)) × Int × Int × Int × ByteArray × Int × ByteArray × Int × Int), f = fun (x0 : List (Int × Int × Int × ByteArray × Int × ByteArray × Int)) (x1 : Int) (x2 : ByteArray) (x3 : Int) => funRun ref19_Done_C 3 21 [(false, [(false, .slice (.pair (.int .i64) (.pair (.int .i64) (.pair (.int .i64) (.pair (.str) (.pair (.int .i64) (.pair (.str) (.int .i64))))))))]), (false, [(false, .int .i64)]), (false, [(false, .str)]), (false, [(false, .int .i64)])] [(false, [(true, .slice (.pair (.int .i64) (.pair (.int .i64) (.pair (.int .i64) (.pair (.str) (.pair (.int .i64) (.pair (.str) (.int .i64))))))))]), (true, [(false, .int .i64), (false, .int .i64), (false, .int .i64), (false, .str), (false, .int .i64), (false, .str), (false, .int .i64)]), (false, [(false, .int .i64)])] ref19_Done_un [⟨.slice (.pair (.int .i64) (.pair (.int .i64) (.pair (.int .i64) (.pair (.str) (.pair (.int .i64) (.pair (.str) (.int .i64))))))), x0⟩, ⟨.int .i64, x1⟩, ⟨.str, x2⟩, ⟨.int .i64, x3⟩] := ⟨_, rfl⟩
noncomputable def ref19_Done : (List (Int × Int × Int × ByteArray × Int × ByteArray × Int)) → (Int) → (ByteArray) → (Int) → Option ((List (Int × Int × Int × ByteArray × Int × ByteArray × Int)) × Int × Int × Int × ByteArray × Int × ByteArray × Int × Int) := ref19_Done_ex.choose
theorem ref19_Done_raw (x0 : List (Int × Int × Int × ByteArray × Int × ByteArray × Int)) (x1 : Int) (x2 : ByteArray) (x3 : Int) : ref19_Done x0 x1 x2 x3 = funRun ref19_Done_C 3 21 [(false, [(false, .slice (.pair (.int .i64) (.pair (.int .i64) (.pair (.int .i64) (.pair (.str) (.pair (.int .i64) (.pair (.str) (.int .i64))))))))]), (false, [(false, .int .i64)]), (false, [(false, .str)]), (false, [(false, .int .i64)])] [(false, [(true, .slice (.pair (.int .i64) (.pair (.int .i64) (.pair (.int .i64) (.pair (.str) (.pair (.int .i64) (.pair (.str) (.int .i64))))))))]), (true, [(false, .int .i64), (false, .int .i64), (false, .int .i64), (false, .str), (false, .int .i64), (false, .str), (false, .int .i64)]), (false, [(false, .int .i64)])] ref19_Done_un [⟨.slice (.pair (.int .i64) (.pair (.int .i64) (.pair (.int .i64) (.pair (.str) (.pair (.int .i64) (.pair (.str) (.int .i64))))))), x0⟩, ⟨.int .i64, x1⟩, ⟨.str, x2⟩, ⟨.int .i64, x3⟩] := congrFun (congrFun (congrFun (congrFun (ref19_Done_ex.choose_spec) x0) x1) x2) x3
theorem ref19_Done_eq (x0 : List (Int × Int × Int × ByteArray × Int × ByteArray × Int)) (x1 : Int) (x2 : ByteArray) (x3 : Int) : ref19_Done x0 x1 x2 x3 =
  (ref19_has x0 x1 x2 x3).bind fun val0 =>
  bif val0 != 0
    then some (([]), ((0), ((0), ((0), (((⟨#[]⟩ : ByteArray)), ((0), (((⟨#[]⟩ : ByteArray)), ((0), (val0)))))))))
    else (ref19_Get x0 x1).bind fun val4 =>
      (ref19_put x0 x1 []).bind fun val6 =>
        some ((val6), ((val4.1), ((val4.2.1), ((val4.2.2.1), ((val4.2.2.2.1), ((val4.2.2.2.2.1), ((val4.2.2.2.2.2.1), ((val4.2.2.2.2.2.2.1), (0))))))))) := (ref19_Done_raw x0 x1 x2 x3).trans (by kernel_rfl)
noncomputable def ref19_Done_sig : Sig := { pm := [(false, [(false, .slice (.pair (.int .i64) (.pair (.int .i64) (.pair (.int .i64) (.pair (.str) (.pair (.int .i64) (.pair (.str) (.int .i64))))))))]), (false, [(false, .int .i64)]), (false, [(false, .str)]), (false, [(false, .int .i64)])], rm := [(false, [(true, .slice (.pair (.int .i64) (.pair (.int .i64) (.pair (.int .i64) (.pair (.str) (.pair (.int .i64) (.pair (.str) (.int .i64))))))))]), (true, [(false, .int .i64), (false, .int .i64), (false, .int .i64), (false, .str), (false, .int .i64), (false, .str), (false, .int .i64)]), (false, [(false, .int .i64)])], f := fun | [⟨.slice (.pair (.int .i64) (.pair (.int .i64) (.pair (.int .i64) (.pair (.str) (.pair (.int .i64) (.pair (.str) (.int .i64))))))), x0⟩, ⟨.int .i64, x1⟩, ⟨.str, x2⟩, ⟨.int .i64, x3⟩] => .yes _ (ref19_Done x0 x1 x2 x3) ref19_Done_mk | _ => .no }
theorem ref19_Done_ok : SigOk Try.prog 21 ref19_Done_sig := by
  refine contract_of (C := ref19_Done_C) (d := 3) S20_ok (callable_ex (by kernel_rfl)) ?_
  intro dvs
  unfold ref19_Done_sig
  dsimp only
  split
  · refine .inr ⟨_, ref19_Done_un, ref19_Done_mk, congrArg (fun o => Cl.yes _ o _) (ref19_Done_raw _ _ _ _), ?_⟩
    intro ds x h
    unfold ref19_Done_un at h
    split at h
    · cases h; rfl
    · cases h
  · exact .inl rfl
noncomputable def S21 : List (Nat × Sig) := (21, ref19_Done_sig) :: S20
theorem S21_ok : ListOk Try.prog S21 := ListOk.cons S20_ok ref19_Done_ok
noncomputable def ref19_Fail_C : Cfg := { P := Try.prog, sig := lookSig S21, hb := fun _ _ => none, hr := fun _ _ => none }
noncomputable def ref19_Fail_un : List DV → Option ((List (Int × Int × Int × ByteArray × Int × ByteArray × Int)) × Int × Int × Int × ByteArray × Int × ByteArray × Int × Int) := fun | [⟨.slice (.pair (.int .i64) (.pair (.int .i64) (.pair (.int .i64) (.pair (.str) (.pair (.int .i64) (.pair (.str) (.int .i64))))))), r0⟩, ⟨.int .i64, r1⟩, ⟨.int .i64, r2⟩, ⟨.int .i64, r3⟩, ⟨.str, r4⟩, ⟨.int .i64, r5⟩, ⟨.str, r6⟩, ⟨.int .i64, r7⟩, ⟨.int .i64, r8⟩] => some (r0, r1, r2, r3, r4, r5, r6, r7, r8) | _ => none
noncomputable def ref19_Fail_mk : ((List (Int × Int × Int × ByteArray × Int × ByteArray × Int)) × Int × Int × Int × ByteArray × Int × ByteArray × Int × Int) → List DV := fun ⟨r0, r1, r2, r3, r4, r5, r6, r7, r8⟩ => [⟨.slice (.pair (.int .i64) (.pair (.int .i64) (.pair (.int .i64) (.pair (.str) (.pair (.int .i64) (.pair (.str) (.int .i64))))))), r0⟩, ⟨.int .i64, r1⟩, ⟨.int .i64, r2⟩, ⟨.int .i64, r3⟩, ⟨.str, r4⟩, ⟨.int .i64, r5⟩, ⟨.str, r6⟩, ⟨.int .i64, r7⟩, ⟨.int .i64, r8⟩]
theorem ref19_Fail_ex : ∃ f : (List (Int × Int × Int × ByteArray × Int × ByteArray × Int)) → (Int) → (ByteArray) → (Int) → Option ((List (Int × Int × Int × ByteArray × Int × ByteArray × Int)) × Int × Int × Int × ByteArray × Int × ByteArray × Int × Int), f = fun (x0 : List (Int × Int × Int × ByteArray × Int × ByteArray × Int)) (x1 : Int) (x2 : ByteArray) (x3 : Int) => funRun ref19_Fail_C 3 23 [(false, [(false, .slice (.pair (.int .i64) (.pair (.int .i64) (.pair (.int .i64) (.pair (.str) (.pair (.int .i64) (.pair (.str) (.int .i64))))))))]), (false, [(false, .int .i64)]), (false, [(false, .str)]), (false, [(false, .int .i64)])] [(false, [(true, .slice (.pair (.int .i64) (.pair (.int .i64) (.pair (.int .i64) (.pair (.str) (.pair (.int .i64) (.pair (.str) (.int .i64))))))))]), (true, [(false, .int .i64), (false, .int .i64), (false, .int .i64), (false, .str), (false, .int .i64), (false, .str), (false, .int .i64)]), (false, [(false, .int .i64)])] ref19_Fail_un [⟨.slice (.pair (.int .i64) (.pair (.int .i64) (.pair (.int .i64) (.pair (.str) (.pair (.int .i64) (.pair (.str) (.int .i64))))))), x0⟩, ⟨.int .i64, x1⟩, ⟨.str, x2⟩, ⟨.int .i64, x3⟩] := ⟨_, rfl⟩
noncomputable def ref19_Fail : (List (Int × Int × Int × ByteArray × Int × ByteArray × Int)) → (Int) → (ByteArray) → (Int) → Option ((List (Int × Int × Int × ByteArray × Int × ByteArray × Int)) × Int × Int × Int × ByteArray × Int × ByteArray × Int × Int) := ref19_Fail_ex.choose
theorem ref19_Fail_raw (x0 : List (Int × Int × Int × ByteArray × Int × ByteArray × Int)) (x1 : Int) (x2 : ByteArray) (x3 : Int) : ref19_Fail x0 x1 x2 x3 = funRun ref19_Fail_C 3 23 [(false, [(false, .slice (.pair (.int .i64) (.pair (.int .i64) (.pair (.int .i64) (.pair (.str) (.pair (.int .i64) (.pair (.str) (.int .i64))))))))]), (false, [(false, .int .i64)]), (false, [(false, .str)]), (false, [(false, .int .i64)])] [(false, [(true, .slice (.pair (.int .i64) (.pair (.int .i64) (.pair (.int .i64) (.pair (.str) (.pair (.int .i64) (.pair (.str) (.int .i64))))))))]), (true, [(false, .int .i64), (false, .int .i64), (false, .int .i64), (false, .str), (false, .int .i64), (false, .str), (false, .int .i64)]), (false, [(false, .int .i64)])] ref19_Fail_un [⟨.slice (.pair (.int .i64) (.pair (.int .i64) (.pair (.int .i64) (.pair (.str) (.pair (.int .i64) (.pair (.str) (.int .i64))))))), x0⟩, ⟨.int .i64, x1⟩, ⟨.str, x2⟩, ⟨.int .i64, x3⟩] := congrFun (congrFun (congrFun (congrFun (ref19_Fail_ex.choose_spec) x0) x1) x2) x3
theorem ref19_Fail_eq (x0 : List (Int × Int × Int × ByteArray × Int × ByteArray × Int)) (x1 : Int) (x2 : ByteArray) (x3 : Int) : ref19_Fail x0 x1 x2 x3 =
  (ref19_has x0 x1 x2 x3).bind fun val0 =>
  bif val0 != 0
    then some (([]), ((0), ((0), ((0), (((⟨#[]⟩ : ByteArray)), ((0), (((⟨#[]⟩ : ByteArray)), ((0), (val0)))))))))
    else (ref19_Get x0 x1).bind fun val4 =>
      (ref19_put x0 x1 [(val4.1, val4.2.1, val4.2.2.1, val4.2.2.2.1, IntKind.i64.wrap (val4.2.2.2.2.1 - 1), (⟨#[]⟩ : ByteArray), 0)]).bind fun val6 =>
        some ((val6), ((val4.1), ((val4.2.1), ((val4.2.2.1), ((val4.2.2.2.1), ((IntKind.i64.wrap (val4.2.2.2.2.1 - 1)), (((⟨#[]⟩ : ByteArray)), ((0), (0))))))))) := (ref19_Fail_raw x0 x1 x2 x3).trans (by kernel_rfl)
noncomputable def ref19_Fail_sig : Sig := { pm := [(false, [(false, .slice (.pair (.int .i64) (.pair (.int .i64) (.pair (.int .i64) (.pair (.str) (.pair (.int .i64) (.pair (.str) (.int .i64))))))))]), (false, [(false, .int .i64)]), (false, [(false, .str)]), (false, [(false, .int .i64)])], rm := [(false, [(true, .slice (.pair (.int .i64) (.pair (.int .i64) (.pair (.int .i64) (.pair (.str) (.pair (.int .i64) (.pair (.str) (.int .i64))))))))]), (true, [(false, .int .i64), (false, .int .i64), (false, .int .i64), (false, .str), (false, .int .i64), (false, .str), (false, .int .i64)]), (false, [(false, .int .i64)])], f := fun | [⟨.slice (.pair (.int .i64) (.pair (.int .i64) (.pair (.int .i64) (.pair (.str) (.pair (.int .i64) (.pair (.str) (.int .i64))))))), x0⟩, ⟨.int .i64, x1⟩, ⟨.str, x2⟩, ⟨.int .i64, x3⟩] => .yes _ (ref19_Fail x0 x1 x2 x3) ref19_Fail_mk | _ => .no }
theorem ref19_Fail_ok : SigOk Try.prog 23 ref19_Fail_sig := by
  refine contract_of (C := ref19_Fail_C) (d := 3) S21_ok (callable_ex (by kernel_rfl)) ?_
  intro dvs
  unfold ref19_Fail_sig
  dsimp only
  split
  · refine .inr ⟨_, ref19_Fail_un, ref19_Fail_mk, congrArg (fun o => Cl.yes _ o _) (ref19_Fail_raw _ _ _ _), ?_⟩
    intro ds x h
    unfold ref19_Fail_un at h
    split at h
    · cases h; rfl
    · cases h
  · exact .inl rfl
noncomputable def S22 : List (Nat × Sig) := (23, ref19_Fail_sig) :: S21
theorem S22_ok : ListOk Try.prog S22 := ListOk.cons S21_ok ref19_Fail_ok
noncomputable def ref19_Again_C : Cfg := { P := Try.prog, sig := lookSig S22, hb := fun _ _ => none, hr := fun _ _ => none }
noncomputable def ref19_Again_un : List DV → Option ((List (Int × Int × Int × ByteArray × Int × ByteArray × Int)) × Int) := fun | [⟨.slice (.pair (.int .i64) (.pair (.int .i64) (.pair (.int .i64) (.pair (.str) (.pair (.int .i64) (.pair (.str) (.int .i64))))))), r0⟩, ⟨.int .i64, r1⟩] => some (r0, r1) | _ => none
noncomputable def ref19_Again_mk : ((List (Int × Int × Int × ByteArray × Int × ByteArray × Int)) × Int) → List DV := fun ⟨r0, r1⟩ => [⟨.slice (.pair (.int .i64) (.pair (.int .i64) (.pair (.int .i64) (.pair (.str) (.pair (.int .i64) (.pair (.str) (.int .i64))))))), r0⟩, ⟨.int .i64, r1⟩]
theorem ref19_Again_ex : ∃ f : (List (Int × Int × Int × ByteArray × Int × ByteArray × Int)) → (Int) → (Int) → Option ((List (Int × Int × Int × ByteArray × Int × ByteArray × Int)) × Int), f = fun (x0 : List (Int × Int × Int × ByteArray × Int × ByteArray × Int)) (x1 : Int) (x2 : Int) => funRun ref19_Again_C 3 25 [(false, [(false, .slice (.pair (.int .i64) (.pair (.int .i64) (.pair (.int .i64) (.pair (.str) (.pair (.int .i64) (.pair (.str) (.int .i64))))))))]), (false, [(false, .int .i64)]), (false, [(false, .int .i64)])] [(false, [(true, .slice (.pair (.int .i64) (.pair (.int .i64) (.pair (.int .i64) (.pair (.str) (.pair (.int .i64) (.pair (.str) (.int .i64))))))))]), (false, [(false, .int .i64)])] ref19_Again_un [⟨.slice (.pair (.int .i64) (.pair (.int .i64) (.pair (.int .i64) (.pair (.str) (.pair (.int .i64) (.pair (.str) (.int .i64))))))), x0⟩, ⟨.int .i64, x1⟩, ⟨.int .i64, x2⟩] := ⟨_, rfl⟩
noncomputable def ref19_Again : (List (Int × Int × Int × ByteArray × Int × ByteArray × Int)) → (Int) → (Int) → Option ((List (Int × Int × Int × ByteArray × Int × ByteArray × Int)) × Int) := ref19_Again_ex.choose
theorem ref19_Again_raw (x0 : List (Int × Int × Int × ByteArray × Int × ByteArray × Int)) (x1 : Int) (x2 : Int) : ref19_Again x0 x1 x2 = funRun ref19_Again_C 3 25 [(false, [(false, .slice (.pair (.int .i64) (.pair (.int .i64) (.pair (.int .i64) (.pair (.str) (.pair (.int .i64) (.pair (.str) (.int .i64))))))))]), (false, [(false, .int .i64)]), (false, [(false, .int .i64)])] [(false, [(true, .slice (.pair (.int .i64) (.pair (.int .i64) (.pair (.int .i64) (.pair (.str) (.pair (.int .i64) (.pair (.str) (.int .i64))))))))]), (false, [(false, .int .i64)])] ref19_Again_un [⟨.slice (.pair (.int .i64) (.pair (.int .i64) (.pair (.int .i64) (.pair (.str) (.pair (.int .i64) (.pair (.str) (.int .i64))))))), x0⟩, ⟨.int .i64, x1⟩, ⟨.int .i64, x2⟩] := congrFun (congrFun (congrFun (ref19_Again_ex.choose_spec) x0) x1) x2
theorem ref19_Again_eq (x0 : List (Int × Int × Int × ByteArray × Int × ByteArray × Int)) (x1 : Int) (x2 : Int) : ref19_Again x0 x1 x2 =
  (ref19_in x2 1 9).bind fun val0 =>
  bif !val0
    then some (([]), (2))
    else (ref19_Get x0 x1).bind fun val4 =>
      bif !val4.2.2.2.2.2.2.2
        then some (([]), (9))
        else bif decide (val4.2.2.2.2.1 > 0)
          then some (([]), (11))
          else (ref19_put x0 x1 [(val4.1, val4.2.1, val4.2.2.1, val4.2.2.2.1, x2, val4.2.2.2.2.2.1, val4.2.2.2.2.2.2.1)]).bind fun val10 =>
            some ((val10), (0)) := (ref19_Again_raw x0 x1 x2).trans (by kernel_rfl)
noncomputable def ref19_Again_sig : Sig := { pm := [(false, [(false, .slice (.pair (.int .i64) (.pair (.int .i64) (.pair (.int .i64) (.pair (.str) (.pair (.int .i64) (.pair (.str) (.int .i64))))))))]), (false, [(false, .int .i64)]), (false, [(false, .int .i64)])], rm := [(false, [(true, .slice (.pair (.int .i64) (.pair (.int .i64) (.pair (.int .i64) (.pair (.str) (.pair (.int .i64) (.pair (.str) (.int .i64))))))))]), (false, [(false, .int .i64)])], f := fun | [⟨.slice (.pair (.int .i64) (.pair (.int .i64) (.pair (.int .i64) (.pair (.str) (.pair (.int .i64) (.pair (.str) (.int .i64))))))), x0⟩, ⟨.int .i64, x1⟩, ⟨.int .i64, x2⟩] => .yes _ (ref19_Again x0 x1 x2) ref19_Again_mk | _ => .no }
theorem ref19_Again_ok : SigOk Try.prog 25 ref19_Again_sig := by
  refine contract_of (C := ref19_Again_C) (d := 3) S22_ok (callable_ex (by kernel_rfl)) ?_
  intro dvs
  unfold ref19_Again_sig
  dsimp only
  split
  · refine .inr ⟨_, ref19_Again_un, ref19_Again_mk, congrArg (fun o => Cl.yes _ o _) (ref19_Again_raw _ _ _), ?_⟩
    intro ds x h
    unfold ref19_Again_un at h
    split at h
    · cases h; rfl
    · cases h
  · exact .inl rfl
noncomputable def S23 : List (Nat × Sig) := (25, ref19_Again_sig) :: S22
theorem S23_ok : ListOk Try.prog S23 := ListOk.cons S22_ok ref19_Again_ok
noncomputable def ref19_Without_C : Cfg := { P := Try.prog, sig := lookSig S23, hb := fun f b => bif Nat.beq f 27 && Nat.beq b 0 then some { tmps := [0, 1, 5, 6], obs := [60], nils := [(5, 60, (.pair (.int .i64) (.pair (.int .i64) (.pair (.int .i64) (.pair (.str) (.pair (.int .i64) (.pair (.str) (.int .i64))))))))], kl := [308, 300, 60] } else none, hr := fun _ _ => none }
noncomputable def ref19_Without_un : List DV → Option ((List (Int × Int × Int × ByteArray × Int × ByteArray × Int))) := fun | [⟨.slice (.pair (.int .i64) (.pair (.int .i64) (.pair (.int .i64) (.pair (.str) (.pair (.int .i64) (.pair (.str) (.int .i64))))))), r0⟩] => some r0 | _ => none
noncomputable def ref19_Without_mk : (List (Int × Int × Int × ByteArray × Int × ByteArray × Int)) → List DV := fun r0 => [⟨.slice (.pair (.int .i64) (.pair (.int .i64) (.pair (.int .i64) (.pair (.str) (.pair (.int .i64) (.pair (.str) (.int .i64))))))), r0⟩]
theorem ref19_Without_ex : ∃ f : (List (Int × Int × Int × ByteArray × Int × ByteArray × Int)) → (Int) → Option ((List (Int × Int × Int × ByteArray × Int × ByteArray × Int))), f = fun (x0 : List (Int × Int × Int × ByteArray × Int × ByteArray × Int)) (x1 : Int) => funRun ref19_Without_C 3 27 [(false, [(false, .slice (.pair (.int .i64) (.pair (.int .i64) (.pair (.int .i64) (.pair (.str) (.pair (.int .i64) (.pair (.str) (.int .i64))))))))]), (false, [(false, .int .i64)])] [(false, [(true, .slice (.pair (.int .i64) (.pair (.int .i64) (.pair (.int .i64) (.pair (.str) (.pair (.int .i64) (.pair (.str) (.int .i64))))))))])] ref19_Without_un [⟨.slice (.pair (.int .i64) (.pair (.int .i64) (.pair (.int .i64) (.pair (.str) (.pair (.int .i64) (.pair (.str) (.int .i64))))))), x0⟩, ⟨.int .i64, x1⟩] := ⟨_, rfl⟩
noncomputable def ref19_Without : (List (Int × Int × Int × ByteArray × Int × ByteArray × Int)) → (Int) → Option ((List (Int × Int × Int × ByteArray × Int × ByteArray × Int))) := ref19_Without_ex.choose
theorem ref19_Without_raw (x0 : List (Int × Int × Int × ByteArray × Int × ByteArray × Int)) (x1 : Int) : ref19_Without x0 x1 = funRun ref19_Without_C 3 27 [(false, [(false, .slice (.pair (.int .i64) (.pair (.int .i64) (.pair (.int .i64) (.pair (.str) (.pair (.int .i64) (.pair (.str) (.int .i64))))))))]), (false, [(false, .int .i64)])] [(false, [(true, .slice (.pair (.int .i64) (.pair (.int .i64) (.pair (.int .i64) (.pair (.str) (.pair (.int .i64) (.pair (.str) (.int .i64))))))))])] ref19_Without_un [⟨.slice (.pair (.int .i64) (.pair (.int .i64) (.pair (.int .i64) (.pair (.str) (.pair (.int .i64) (.pair (.str) (.int .i64))))))), x0⟩, ⟨.int .i64, x1⟩] := congrFun (congrFun (ref19_Without_ex.choose_spec) x0) x1
noncomputable def ref19_Without_l0 (y0 : List ((Int) × ((Int) × ((Int) × ((ByteArray) × ((Int) × ((ByteArray) × (Int)))))))) (y1 : Int) (y2 : Int) (y3 : List ((Int) × ((Int) × ((Int) × ((ByteArray) × ((Int) × ((ByteArray) × (Int)))))))) : Option ((List (Int × Int × Int × ByteArray × Int × ByteArray × Int))) := loopAt ref19_Without_C 3 27 [(false, [(true, .slice (.pair (.int .i64) (.pair (.int .i64) (.pair (.int .i64) (.pair (.str) (.pair (.int .i64) (.pair (.str) (.int .i64))))))))])] ref19_Without_un [true, true, false, true, false] (St.ofLists [(0, .fz ((Ty.int IntKind.i64).pair ((Ty.int IntKind.i64).pair ((Ty.int IntKind.i64).pair (Ty.str.pair ((Ty.int IntKind.i64).pair (Ty.str.pair (Ty.int IntKind.i64))))))) y0 false false), (1, .int .i64 y1), (5, .ow 60), (6, .int .i64 y2)] [(60, some (.row ((Ty.int IntKind.i64).pair ((Ty.int IntKind.i64).pair ((Ty.int IntKind.i64).pair (Ty.str.pair ((Ty.int IntKind.i64).pair (Ty.str.pair (Ty.int IntKind.i64))))))) y3 0 false))] [308, 300, 60])
theorem ref19_Without_eq (x0 : List (Int × Int × Int × ByteArray × Int × ByteArray × Int)) (x1 : Int) : ref19_Without x0 x1 =
  ref19_Without_l0 (x0) (x1) (0) ([]) := (ref19_Without_raw x0 x1).trans (by kernel_rfl)
theorem ref19_Without_l0_eq (y0 : List ((Int) × ((Int) × ((Int) × ((ByteArray) × ((Int) × ((ByteArray) × (Int)))))))) (y1 : Int) (y2 : Int) (y3 : List ((Int) × ((Int) × ((Int) × ((ByteArray) × ((Int) × ((ByteArray) × (Int)))))))) : ref19_Without_l0 y0 y1 y2 y3 =
  bif decide (y2 < ilen y0)
  then bif decide (0 ≤ y2)
    then (y0[y2.toNat]?).bind fun val4 =>
      bif val4.snd.fst != y1
        then bif decide (0 ≤ y2)
          then (y0[y2.toNat]?).bind fun val10 =>
            bif decide ((ilen y3 + ilen [val10]) * 72 ≤ room)
              then ref19_Without_l0 (y0) (y1) (IntKind.i64.wrap (y2 + 1)) (y3 ++ [val10])
              else none
          else none
        else ref19_Without_l0 (y0) (y1) (IntKind.i64.wrap (y2 + 1)) (y3)
    else none
  else some (y3) := (loopAt_step _ _ _ _ _ _ _).trans (by kernel_rfl)
noncomputable def ref19_Without_sig : Sig := { pm := [(false, [(false, .slice (.pair (.int .i64) (.pair (.int .i64) (.pair (.int .i64) (.pair (.str) (.pair (.int .i64) (.pair (.str) (.int .i64))))))))]), (false, [(false, .int .i64)])], rm := [(false, [(true, .slice (.pair (.int .i64) (.pair (.int .i64) (.pair (.int .i64) (.pair (.str) (.pair (.int .i64) (.pair (.str) (.int .i64))))))))])], f := fun | [⟨.slice (.pair (.int .i64) (.pair (.int .i64) (.pair (.int .i64) (.pair (.str) (.pair (.int .i64) (.pair (.str) (.int .i64))))))), x0⟩, ⟨.int .i64, x1⟩] => .yes _ (ref19_Without x0 x1) ref19_Without_mk | _ => .no }
theorem ref19_Without_ok : SigOk Try.prog 27 ref19_Without_sig := by
  refine contract_of (C := ref19_Without_C) (d := 3) S23_ok (callable_ex (by kernel_rfl)) ?_
  intro dvs
  unfold ref19_Without_sig
  dsimp only
  split
  · refine .inr ⟨_, ref19_Without_un, ref19_Without_mk, congrArg (fun o => Cl.yes _ o _) (ref19_Without_raw _ _), ?_⟩
    intro ds x h
    unfold ref19_Without_un at h
    split at h
    · cases h; rfl
    · cases h
  · exact .inl rfl
noncomputable def S24 : List (Nat × Sig) := (27, ref19_Without_sig) :: S23
theorem S24_ok : ListOk Try.prog S24 := ListOk.cons S23_ok ref19_Without_ok
noncomputable def jobs_Get_C : Cfg := { P := Try.prog, sig := lookSig S24, hb := fun _ _ => none, hr := fun _ _ => none }
noncomputable def jobs_Get_un : List DV → Option (Int × Int × Int × ByteArray × Int × ByteArray × Int × Bool) := fun | [⟨.int .i64, r0⟩, ⟨.int .i64, r1⟩, ⟨.int .i64, r2⟩, ⟨.str, r3⟩, ⟨.int .i64, r4⟩, ⟨.str, r5⟩, ⟨.int .i64, r6⟩, ⟨.bool, r7⟩] => some (r0, r1, r2, r3, r4, r5, r6, r7) | _ => none
noncomputable def jobs_Get_mk : (Int × Int × Int × ByteArray × Int × ByteArray × Int × Bool) → List DV := fun ⟨r0, r1, r2, r3, r4, r5, r6, r7⟩ => [⟨.int .i64, r0⟩, ⟨.int .i64, r1⟩, ⟨.int .i64, r2⟩, ⟨.str, r3⟩, ⟨.int .i64, r4⟩, ⟨.str, r5⟩, ⟨.int .i64, r6⟩, ⟨.bool, r7⟩]
theorem jobs_Get_ex : ∃ f : (List (Int × Int × Int × ByteArray × Int × ByteArray × Int)) → (Int) → Option (Int × Int × Int × ByteArray × Int × ByteArray × Int × Bool), f = fun (x0 : List (Int × Int × Int × ByteArray × Int × ByteArray × Int)) (x1 : Int) => funRun jobs_Get_C 3 12 [(false, [(false, .slice (.pair (.int .i64) (.pair (.int .i64) (.pair (.int .i64) (.pair (.str) (.pair (.int .i64) (.pair (.str) (.int .i64))))))))]), (false, [(false, .int .i64)])] [(true, [(false, .int .i64), (false, .int .i64), (false, .int .i64), (false, .str), (false, .int .i64), (false, .str), (false, .int .i64)]), (false, [(false, .bool)])] jobs_Get_un [⟨.slice (.pair (.int .i64) (.pair (.int .i64) (.pair (.int .i64) (.pair (.str) (.pair (.int .i64) (.pair (.str) (.int .i64))))))), x0⟩, ⟨.int .i64, x1⟩] := ⟨_, rfl⟩
noncomputable def jobs_Get : (List (Int × Int × Int × ByteArray × Int × ByteArray × Int)) → (Int) → Option (Int × Int × Int × ByteArray × Int × ByteArray × Int × Bool) := jobs_Get_ex.choose
theorem jobs_Get_raw (x0 : List (Int × Int × Int × ByteArray × Int × ByteArray × Int)) (x1 : Int) : jobs_Get x0 x1 = funRun jobs_Get_C 3 12 [(false, [(false, .slice (.pair (.int .i64) (.pair (.int .i64) (.pair (.int .i64) (.pair (.str) (.pair (.int .i64) (.pair (.str) (.int .i64))))))))]), (false, [(false, .int .i64)])] [(true, [(false, .int .i64), (false, .int .i64), (false, .int .i64), (false, .str), (false, .int .i64), (false, .str), (false, .int .i64)]), (false, [(false, .bool)])] jobs_Get_un [⟨.slice (.pair (.int .i64) (.pair (.int .i64) (.pair (.int .i64) (.pair (.str) (.pair (.int .i64) (.pair (.str) (.int .i64))))))), x0⟩, ⟨.int .i64, x1⟩] := congrFun (congrFun (jobs_Get_ex.choose_spec) x0) x1
theorem jobs_Get_eq (x0 : List (Int × Int × Int × ByteArray × Int × ByteArray × Int)) (x1 : Int) : jobs_Get x0 x1 =
  (jobs_find x0 x1).bind fun val0 =>
  bif val0.2
    then bif decide (0 ≤ val0.1)
      then (x0[val0.1.toNat]?).bind fun val6 =>
        some ((val6.fst), ((val6.snd.fst), ((val6.snd.snd.fst), ((val6.snd.snd.snd.fst), ((val6.snd.snd.snd.snd.fst), ((val6.snd.snd.snd.snd.snd.fst), ((val6.snd.snd.snd.snd.snd.snd), true)))))))
      else none
    else some ((0), ((0), ((0), (((⟨#[]⟩ : ByteArray)), ((0), (((⟨#[]⟩ : ByteArray)), ((0), false))))))) := (jobs_Get_raw x0 x1).trans (by kernel_rfl)
noncomputable def jobs_Get_sig : Sig := { pm := [(false, [(false, .slice (.pair (.int .i64) (.pair (.int .i64) (.pair (.int .i64) (.pair (.str) (.pair (.int .i64) (.pair (.str) (.int .i64))))))))]), (false, [(false, .int .i64)])], rm := [(true, [(false, .int .i64), (false, .int .i64), (false, .int .i64), (false, .str), (false, .int .i64), (false, .str), (false, .int .i64)]), (false, [(false, .bool)])], f := fun | [⟨.slice (.pair (.int .i64) (.pair (.int .i64) (.pair (.int .i64) (.pair (.str) (.pair (.int .i64) (.pair (.str) (.int .i64))))))), x0⟩, ⟨.int .i64, x1⟩] => .yes _ (jobs_Get x0 x1) jobs_Get_mk | _ => .no }
theorem jobs_Get_ok : SigOk Try.prog 12 jobs_Get_sig := by
  refine contract_of (C := jobs_Get_C) (d := 3) S24_ok (callable_ex (by kernel_rfl)) ?_
  intro dvs
  unfold jobs_Get_sig
  dsimp only
  split
  · refine .inr ⟨_, jobs_Get_un, jobs_Get_mk, congrArg (fun o => Cl.yes _ o _) (jobs_Get_raw _ _), ?_⟩
    intro ds x h
    unfold jobs_Get_un at h
    split at h
    · cases h; rfl
    · cases h
  · exact .inl rfl
noncomputable def S25 : List (Nat × Sig) := (12, jobs_Get_sig) :: S24
theorem S25_ok : ListOk Try.prog S25 := ListOk.cons S24_ok jobs_Get_ok
noncomputable def jobs_Add_C : Cfg := { P := Try.prog, sig := lookSig S25, hb := fun _ _ => none, hr := fun _ _ => none }
noncomputable def jobs_Add_un : List DV → Option ((List (Int × Int × Int × ByteArray × Int × ByteArray × Int)) × Int) := fun | [⟨.slice (.pair (.int .i64) (.pair (.int .i64) (.pair (.int .i64) (.pair (.str) (.pair (.int .i64) (.pair (.str) (.int .i64))))))), r0⟩, ⟨.int .i64, r1⟩] => some (r0, r1) | _ => none
noncomputable def jobs_Add_mk : ((List (Int × Int × Int × ByteArray × Int × ByteArray × Int)) × Int) → List DV := fun ⟨r0, r1⟩ => [⟨.slice (.pair (.int .i64) (.pair (.int .i64) (.pair (.int .i64) (.pair (.str) (.pair (.int .i64) (.pair (.str) (.int .i64))))))), r0⟩, ⟨.int .i64, r1⟩]
theorem jobs_Add_ex : ∃ f : (List (Int × Int × Int × ByteArray × Int × ByteArray × Int)) → (Int) → (Int) → (Int) → (ByteArray) → (Int) → (ByteArray) → (Int) → Option ((List (Int × Int × Int × ByteArray × Int × ByteArray × Int)) × Int), f = fun (x0 : List (Int × Int × Int × ByteArray × Int × ByteArray × Int)) (x1 : Int) (x2 : Int) (x3 : Int) (x4 : ByteArray) (x5 : Int) (x6 : ByteArray) (x7 : Int) => funRun jobs_Add_C 3 14 [(false, [(false, .slice (.pair (.int .i64) (.pair (.int .i64) (.pair (.int .i64) (.pair (.str) (.pair (.int .i64) (.pair (.str) (.int .i64))))))))]), (true, [(false, .int .i64), (false, .int .i64), (false, .int .i64), (false, .str), (false, .int .i64), (false, .str), (false, .int .i64)])] [(false, [(true, .slice (.pair (.int .i64) (.pair (.int .i64) (.pair (.int .i64) (.pair (.str) (.pair (.int .i64) (.pair (.str) (.int .i64))))))))]), (false, [(false, .int .i64)])] jobs_Add_un [⟨.slice (.pair (.int .i64) (.pair (.int .i64) (.pair (.int .i64) (.pair (.str) (.pair (.int .i64) (.pair (.str) (.int .i64))))))), x0⟩, ⟨.int .i64, x1⟩, ⟨.int .i64, x2⟩, ⟨.int .i64, x3⟩, ⟨.str, x4⟩, ⟨.int .i64, x5⟩, ⟨.str, x6⟩, ⟨.int .i64, x7⟩] := ⟨_, rfl⟩
noncomputable def jobs_Add : (List (Int × Int × Int × ByteArray × Int × ByteArray × Int)) → (Int) → (Int) → (Int) → (ByteArray) → (Int) → (ByteArray) → (Int) → Option ((List (Int × Int × Int × ByteArray × Int × ByteArray × Int)) × Int) := jobs_Add_ex.choose
theorem jobs_Add_raw (x0 : List (Int × Int × Int × ByteArray × Int × ByteArray × Int)) (x1 : Int) (x2 : Int) (x3 : Int) (x4 : ByteArray) (x5 : Int) (x6 : ByteArray) (x7 : Int) : jobs_Add x0 x1 x2 x3 x4 x5 x6 x7 = funRun jobs_Add_C 3 14 [(false, [(false, .slice (.pair (.int .i64) (.pair (.int .i64) (.pair (.int .i64) (.pair (.str) (.pair (.int .i64) (.pair (.str) (.int .i64))))))))]), (true, [(false, .int .i64), (false, .int .i64), (false, .int .i64), (false, .str), (false, .int .i64), (false, .str), (false, .int .i64)])] [(false, [(true, .slice (.pair (.int .i64) (.pair (.int .i64) (.pair (.int .i64) (.pair (.str) (.pair (.int .i64) (.pair (.str) (.int .i64))))))))]), (false, [(false, .int .i64)])] jobs_Add_un [⟨.slice (.pair (.int .i64) (.pair (.int .i64) (.pair (.int .i64) (.pair (.str) (.pair (.int .i64) (.pair (.str) (.int .i64))))))), x0⟩, ⟨.int .i64, x1⟩, ⟨.int .i64, x2⟩, ⟨.int .i64, x3⟩, ⟨.str, x4⟩, ⟨.int .i64, x5⟩, ⟨.str, x6⟩, ⟨.int .i64, x7⟩] := congrFun (congrFun (congrFun (congrFun (congrFun (congrFun (congrFun (congrFun (jobs_Add_ex.choose_spec) x0) x1) x2) x3) x4) x5) x6) x7
theorem jobs_Add_eq (x0 : List (Int × Int × Int × ByteArray × Int × ByteArray × Int)) (x1 : Int) (x2 : Int) (x3 : Int) (x4 : ByteArray) (x5 : Int) (x6 : ByteArray) (x7 : Int) : jobs_Add x0 x1 x2 x3 x4 x5 x6 x7 =
  bif decide (ilen x0 > 0)
  then bif decide (0 ≤ IntKind.i64.wrap (ilen x0 - 1))
    then (x0[(IntKind.i64.wrap (ilen x0 - 1)).toNat]?).bind fun val4 =>
      bif decide (val4.fst ≥ x1)
        then some (([]), (10))
        else (jobs_Clone x0).bind fun val8 =>
          bif decide ((ilen val8 + ilen [(x1, x2, x3, x4, x5, x6, x7)]) * 72 ≤ room)
            then bif decide (0 ≤ ilen x0)
              then bif decide (ilen x0 ≤ ilen (val8 ++ [(x1, x2, x3, x4, x5, x6, x7)]))
                then bif decide (ilen (val8 ++ [(x1, x2, x3, x4, x5, x6, x7)]) ≤ ilen (val8 ++ [(x1, x2, x3, x4, x5, x6, x7)]))
                  then bif ((ilen x0).toNat + ((ilen (val8 ++ [(x1, x2, x3, x4, x5, x6, x7)])).toNat - (ilen x0).toNat)).ble (val8 ++ [(x1, x2, x3, x4, x5, x6, x7)]).length
                    then (jobs_Check (List.take ((ilen (val8 ++ [(x1, x2, x3, x4, x5, x6, x7)])).toNat - (ilen x0).toNat) (List.drop (ilen x0).toNat (val8 ++ [(x1, x2, x3, x4, x5, x6, x7)])))).bind fun val20 =>
                      bif val20 != 0
                        then some (([]), (val20))
                        else some ((val8 ++ [(x1, x2, x3, x4, x5, x6, x7)]), (0))
                    else none
                  else bif decide (ilen (val8 ++ [(x1, x2, x3, x4, x5, x6, x7)]) ≤ ↑(max (max 0 val8.length) (val8.length + [(x1, x2, x3, x4, x5, x6, x7)].length)))
                    then bif ((ilen x0).toNat + ((ilen (val8 ++ [(x1, x2, x3, x4, x5, x6, x7)])).toNat - (ilen x0).toNat)).ble (val8 ++ [(x1, x2, x3, x4, x5, x6, x7)]).length
                      then (jobs_Check (List.take ((ilen (val8 ++ [(x1, x2, x3, x4, x5, x6, x7)])).toNat - (ilen x0).toNat) (List.drop (ilen x0).toNat (val8 ++ [(x1, x2, x3, x4, x5, x6, x7)])))).bind fun val22 =>
                        bif val22 != 0
                          then some (([]), (val22))
                          else some ((val8 ++ [(x1, x2, x3, x4, x5, x6, x7)]), (0))
                      else none
                    else none
                else none
              else none
            else none
    else none
  else (jobs_Clone x0).bind fun val2 =>
    bif decide ((ilen val2 + ilen [(x1, x2, x3, x4, x5, x6, x7)]) * 72 ≤ room)
      then bif decide (0 ≤ ilen x0)
        then bif decide (ilen x0 ≤ ilen (val2 ++ [(x1, x2, x3, x4, x5, x6, x7)]))
          then bif decide (ilen (val2 ++ [(x1, x2, x3, x4, x5, x6, x7)]) ≤ ilen (val2 ++ [(x1, x2, x3, x4, x5, x6, x7)]))
            then bif ((ilen x0).toNat + ((ilen (val2 ++ [(x1, x2, x3, x4, x5, x6, x7)])).toNat - (ilen x0).toNat)).ble (val2 ++ [(x1, x2, x3, x4, x5, x6, x7)]).length
              then (jobs_Check (List.take ((ilen (val2 ++ [(x1, x2, x3, x4, x5, x6, x7)])).toNat - (ilen x0).toNat) (List.drop (ilen x0).toNat (val2 ++ [(x1, x2, x3, x4, x5, x6, x7)])))).bind fun val14 =>
                bif val14 != 0
                  then some (([]), (val14))
                  else some ((val2 ++ [(x1, x2, x3, x4, x5, x6, x7)]), (0))
              else none
            else bif decide (ilen (val2 ++ [(x1, x2, x3, x4, x5, x6, x7)]) ≤ ↑(max (max 0 val2.length) (val2.length + [(x1, x2, x3, x4, x5, x6, x7)].length)))
              then bif ((ilen x0).toNat + ((ilen (val2 ++ [(x1, x2, x3, x4, x5, x6, x7)])).toNat - (ilen x0).toNat)).ble (val2 ++ [(x1, x2, x3, x4, x5, x6, x7)]).length
                then (jobs_Check (List.take ((ilen (val2 ++ [(x1, x2, x3, x4, x5, x6, x7)])).toNat - (ilen x0).toNat) (List.drop (ilen x0).toNat (val2 ++ [(x1, x2, x3, x4, x5, x6, x7)])))).bind fun val16 =>
                  bif val16 != 0
                    then some (([]), (val16))
                    else some ((val2 ++ [(x1, x2, x3, x4, x5, x6, x7)]), (0))
                else none
              else none
          else none
        else none
      else none := (jobs_Add_raw x0 x1 x2 x3 x4 x5 x6 x7).trans (by kernel_rfl)
noncomputable def jobs_Add_sig : Sig := { pm := [(false, [(false, .slice (.pair (.int .i64) (.pair (.int .i64) (.pair (.int .i64) (.pair (.str) (.pair (.int .i64) (.pair (.str) (.int .i64))))))))]), (true, [(false, .int .i64), (false, .int .i64), (false, .int .i64), (false, .str), (false, .int .i64), (false, .str), (false, .int .i64)])], rm := [(false, [(true, .slice (.pair (.int .i64) (.pair (.int .i64) (.pair (.int .i64) (.pair (.str) (.pair (.int .i64) (.pair (.str) (.int .i64))))))))]), (false, [(false, .int .i64)])], f := fun | [⟨.slice (.pair (.int .i64) (.pair (.int .i64) (.pair (.int .i64) (.pair (.str) (.pair (.int .i64) (.pair (.str) (.int .i64))))))), x0⟩, ⟨.int .i64, x1⟩, ⟨.int .i64, x2⟩, ⟨.int .i64, x3⟩, ⟨.str, x4⟩, ⟨.int .i64, x5⟩, ⟨.str, x6⟩, ⟨.int .i64, x7⟩] => .yes _ (jobs_Add x0 x1 x2 x3 x4 x5 x6 x7) jobs_Add_mk | _ => .no }
theorem jobs_Add_ok : SigOk Try.prog 14 jobs_Add_sig := by
  refine contract_of (C := jobs_Add_C) (d := 3) S25_ok (callable_ex (by kernel_rfl)) ?_
  intro dvs
  unfold jobs_Add_sig
  dsimp only
  split
  · refine .inr ⟨_, jobs_Add_un, jobs_Add_mk, congrArg (fun o => Cl.yes _ o _) (jobs_Add_raw _ _ _ _ _ _ _ _), ?_⟩
    intro ds x h
    unfold jobs_Add_un at h
    split at h
    · cases h; rfl
    · cases h
  · exact .inl rfl
noncomputable def S26 : List (Nat × Sig) := (14, jobs_Add_sig) :: S25
theorem S26_ok : ListOk Try.prog S26 := ListOk.cons S25_ok jobs_Add_ok
noncomputable def jobs_free_C : Cfg := { P := Try.prog, sig := lookSig S26, hb := fun _ _ => none, hr := fun _ _ => none }
noncomputable def jobs_free_un : List DV → Option (Bool) := fun | [⟨.bool, r0⟩] => some r0 | _ => none
noncomputable def jobs_free_mk : Bool → List DV := fun r0 => [⟨.bool, r0⟩]
theorem jobs_free_ex : ∃ f : (Int) → (Int) → (Int) → (ByteArray) → (Int) → (ByteArray) → (Int) → (Int) → Option (Bool), f = fun (x0 : Int) (x1 : Int) (x2 : Int) (x3 : ByteArray) (x4 : Int) (x5 : ByteArray) (x6 : Int) (x7 : Int) => funRun jobs_free_C 3 34 [(true, [(false, .int .i64), (false, .int .i64), (false, .int .i64), (false, .str), (false, .int .i64), (false, .str), (false, .int .i64)]), (false, [(false, .int .i64)])] [(false, [(false, .bool)])] jobs_free_un [⟨.int .i64, x0⟩, ⟨.int .i64, x1⟩, ⟨.int .i64, x2⟩, ⟨.str, x3⟩, ⟨.int .i64, x4⟩, ⟨.str, x5⟩, ⟨.int .i64, x6⟩, ⟨.int .i64, x7⟩] := ⟨_, rfl⟩
noncomputable def jobs_free : (Int) → (Int) → (Int) → (ByteArray) → (Int) → (ByteArray) → (Int) → (Int) → Option (Bool) := jobs_free_ex.choose
theorem jobs_free_raw (x0 : Int) (x1 : Int) (x2 : Int) (x3 : ByteArray) (x4 : Int) (x5 : ByteArray) (x6 : Int) (x7 : Int) : jobs_free x0 x1 x2 x3 x4 x5 x6 x7 = funRun jobs_free_C 3 34 [(true, [(false, .int .i64), (false, .int .i64), (false, .int .i64), (false, .str), (false, .int .i64), (false, .str), (false, .int .i64)]), (false, [(false, .int .i64)])] [(false, [(false, .bool)])] jobs_free_un [⟨.int .i64, x0⟩, ⟨.int .i64, x1⟩, ⟨.int .i64, x2⟩, ⟨.str, x3⟩, ⟨.int .i64, x4⟩, ⟨.str, x5⟩, ⟨.int .i64, x6⟩, ⟨.int .i64, x7⟩] := congrFun (congrFun (congrFun (congrFun (congrFun (congrFun (congrFun (congrFun (jobs_free_ex.choose_spec) x0) x1) x2) x3) x4) x5) x6) x7
theorem jobs_free_eq (x0 : Int) (x1 : Int) (x2 : Int) (x3 : ByteArray) (x4 : Int) (x5 : ByteArray) (x6 : Int) (x7 : Int) : jobs_free x0 x1 x2 x3 x4 x5 x6 x7 =
  bif decide (x4 > 0)
  then bif x5.toList == (⟨#[]⟩ : ByteArray).toList
    then some true
    else some (decide (x6 ≤ x7))
  else some false := (jobs_free_raw x0 x1 x2 x3 x4 x5 x6 x7).trans (by kernel_rfl)
noncomputable def jobs_free_sig : Sig := { pm := [(true, [(false, .int .i64), (false, .int .i64), (false, .int .i64), (false, .str), (false, .int .i64), (false, .str), (false, .int .i64)]), (false, [(false, .int .i64)])], rm := [(false, [(false, .bool)])], f := fun | [⟨.int .i64, x0⟩, ⟨.int .i64, x1⟩, ⟨.int .i64, x2⟩, ⟨.str, x3⟩, ⟨.int .i64, x4⟩, ⟨.str, x5⟩, ⟨.int .i64, x6⟩, ⟨.int .i64, x7⟩] => .yes _ (jobs_free x0 x1 x2 x3 x4 x5 x6 x7) jobs_free_mk | _ => .no }
theorem jobs_free_ok : SigOk Try.prog 34 jobs_free_sig := by
  refine contract_of (C := jobs_free_C) (d := 3) S26_ok (callable_ex (by kernel_rfl)) ?_
  intro dvs
  unfold jobs_free_sig
  dsimp only
  split
  · refine .inr ⟨_, jobs_free_un, jobs_free_mk, congrArg (fun o => Cl.yes _ o _) (jobs_free_raw _ _ _ _ _ _ _ _), ?_⟩
    intro ds x h
    unfold jobs_free_un at h
    split at h
    · cases h; rfl
    · cases h
  · exact .inl rfl
noncomputable def S27 : List (Nat × Sig) := (34, jobs_free_sig) :: S26
theorem S27_ok : ListOk Try.prog S27 := ListOk.cons S26_ok jobs_free_ok
noncomputable def jobs_Lend_C : Cfg := { P := Try.prog, sig := lookSig S27, hb := fun f b => bif Nat.beq f 18 && Nat.beq b 1 then some { tmps := [1, 2, 3, 4, 5, 15, 16, 54, 55, 56], obs := [500, 60], nils := [(16, 60, (.pair (.int .i64) (.pair (.int .i64) (.pair (.int .i64) (.pair (.str) (.pair (.int .i64) (.pair (.str) (.int .i64))))))))], kl := [500, 244, 844, 836, 60] } else none, hr := fun _ _ => none }
noncomputable def jobs_Lend_un : List DV → Option ((List (Int × Int × Int × ByteArray × Int × ByteArray × Int)) × (List (Int × Int × Int × ByteArray × Int × ByteArray × Int)) × Int) := fun | [⟨.slice (.pair (.int .i64) (.pair (.int .i64) (.pair (.int .i64) (.pair (.str) (.pair (.int .i64) (.pair (.str) (.int .i64))))))), r0⟩, ⟨.slice (.pair (.int .i64) (.pair (.int .i64) (.pair (.int .i64) (.pair (.str) (.pair (.int .i64) (.pair (.str) (.int .i64))))))), r1⟩, ⟨.int .i64, r2⟩] => some (r0, r1, r2) | _ => none
noncomputable def jobs_Lend_mk : ((List (Int × Int × Int × ByteArray × Int × ByteArray × Int)) × (List (Int × Int × Int × ByteArray × Int × ByteArray × Int)) × Int) → List DV := fun ⟨r0, r1, r2⟩ => [⟨.slice (.pair (.int .i64) (.pair (.int .i64) (.pair (.int .i64) (.pair (.str) (.pair (.int .i64) (.pair (.str) (.int .i64))))))), r0⟩, ⟨.slice (.pair (.int .i64) (.pair (.int .i64) (.pair (.int .i64) (.pair (.str) (.pair (.int .i64) (.pair (.str) (.int .i64))))))), r1⟩, ⟨.int .i64, r2⟩]
theorem jobs_Lend_ex : ∃ f : (List (Int × Int × Int × ByteArray × Int × ByteArray × Int)) → (ByteArray) → (ByteArray) → (Int) → (Int) → (Int) → Option ((List (Int × Int × Int × ByteArray × Int × ByteArray × Int)) × (List (Int × Int × Int × ByteArray × Int × ByteArray × Int)) × Int), f = fun (x0 : List (Int × Int × Int × ByteArray × Int × ByteArray × Int)) (x1 : ByteArray) (x2 : ByteArray) (x3 : Int) (x4 : Int) (x5 : Int) => funRun jobs_Lend_C 3 18 [(false, [(false, .slice (.pair (.int .i64) (.pair (.int .i64) (.pair (.int .i64) (.pair (.str) (.pair (.int .i64) (.pair (.str) (.int .i64))))))))]), (false, [(false, .str)]), (false, [(false, .str)]), (false, [(false, .int .i64)]), (false, [(false, .int .i64)]), (false, [(false, .int .i64)])] [(false, [(true, .slice (.pair (.int .i64) (.pair (.int .i64) (.pair (.int .i64) (.pair (.str) (.pair (.int .i64) (.pair (.str) (.int .i64))))))))]), (false, [(true, .slice (.pair (.int .i64) (.pair (.int .i64) (.pair (.int .i64) (.pair (.str) (.pair (.int .i64) (.pair (.str) (.int .i64))))))))]), (false, [(false, .int .i64)])] jobs_Lend_un [⟨.slice (.pair (.int .i64) (.pair (.int .i64) (.pair (.int .i64) (.pair (.str) (.pair (.int .i64) (.pair (.str) (.int .i64))))))), x0⟩, ⟨.str, x1⟩, ⟨.str, x2⟩, ⟨.int .i64, x3⟩, ⟨.int .i64, x4⟩, ⟨.int .i64, x5⟩] := ⟨_, rfl⟩
noncomputable def jobs_Lend : (List (Int × Int × Int × ByteArray × Int × ByteArray × Int)) → (ByteArray) → (ByteArray) → (Int) → (Int) → (Int) → Option ((List (Int × Int × Int × ByteArray × Int × ByteArray × Int)) × (List (Int × Int × Int × ByteArray × Int × ByteArray × Int)) × Int) := jobs_Lend_ex.choose
theorem jobs_Lend_raw (x0 : List (Int × Int × Int × ByteArray × Int × ByteArray × Int)) (x1 : ByteArray) (x2 : ByteArray) (x3 : Int) (x4 : Int) (x5 : Int) : jobs_Lend x0 x1 x2 x3 x4 x5 = funRun jobs_Lend_C 3 18 [(false, [(false, .slice (.pair (.int .i64) (.pair (.int .i64) (.pair (.int .i64) (.pair (.str) (.pair (.int .i64) (.pair (.str) (.int .i64))))))))]), (false, [(false, .str)]), (false, [(false, .str)]), (false, [(false, .int .i64)]), (false, [(false, .int .i64)]), (false, [(false, .int .i64)])] [(false, [(true, .slice (.pair (.int .i64) (.pair (.int .i64) (.pair (.int .i64) (.pair (.str) (.pair (.int .i64) (.pair (.str) (.int .i64))))))))]), (false, [(true, .slice (.pair (.int .i64) (.pair (.int .i64) (.pair (.int .i64) (.pair (.str) (.pair (.int .i64) (.pair (.str) (.int .i64))))))))]), (false, [(false, .int .i64)])] jobs_Lend_un [⟨.slice (.pair (.int .i64) (.pair (.int .i64) (.pair (.int .i64) (.pair (.str) (.pair (.int .i64) (.pair (.str) (.int .i64))))))), x0⟩, ⟨.str, x1⟩, ⟨.str, x2⟩, ⟨.int .i64, x3⟩, ⟨.int .i64, x4⟩, ⟨.int .i64, x5⟩] := congrFun (congrFun (congrFun (congrFun (congrFun (congrFun (jobs_Lend_ex.choose_spec) x0) x1) x2) x3) x4) x5
noncomputable def jobs_Lend_l1 (y0 : ByteArray) (y1 : ByteArray) (y2 : Int) (y3 : Int) (y4 : Int) (y5 : Int) (y6 : Int) (y7 : List ((Int) × ((Int) × ((Int) × ((ByteArray) × ((Int) × ((ByteArray) × (Int)))))))) (y8 : List ((Int) × ((Int) × ((Int) × ((ByteArray) × ((Int) × ((ByteArray) × (Int)))))))) : Option ((List (Int × Int × Int × ByteArray × Int × ByteArray × Int)) × (List (Int × Int × Int × ByteArray × Int × ByteArray × Int)) × Int) := loopAt jobs_Lend_C 3 18 [(false, [(true, .slice (.pair (.int .i64) (.pair (.int .i64) (.pair (.int .i64) (.pair (.str) (.pair (.int .i64) (.pair (.str) (.int .i64))))))))]), (false, [(true, .slice (.pair (.int .i64) (.pair (.int .i64) (.pair (.int .i64) (.pair (.str) (.pair (.int .i64) (.pair (.str) (.int .i64))))))))]), (false, [(false, .int .i64)])] jobs_Lend_un [true, false, true, true, true, true, true, false, true, false] (St.ofLists [(1, .str y0), (2, .str y1), (3, .int .i64 y2), (4, .int .i64 y3), (5, .int .i64 y4), (15, .ow 500), (16, .ow 60), (54, .ow 500), (55, .int .i64 y5), (56, .int .i64 y6)] [(500, some (.row ((Ty.int IntKind.i64).pair ((Ty.int IntKind.i64).pair ((Ty.int IntKind.i64).pair (Ty.str.pair ((Ty.int IntKind.i64).pair (Ty.str.pair (Ty.int IntKind.i64))))))) y7 0 false)), (60, some (.row ((Ty.int IntKind.i64).pair ((Ty.int IntKind.i64).pair ((Ty.int IntKind.i64).pair (Ty.str.pair ((Ty.int IntKind.i64).pair (Ty.str.pair (Ty.int IntKind.i64))))))) y8 0 false))] [500, 244, 844, 836, 60])
theorem jobs_Lend_eq (x0 : List (Int × Int × Int × ByteArray × Int × ByteArray × Int)) (x1 : ByteArray) (x2 : ByteArray) (x3 : Int) (x4 : Int) (x5 : Int) : jobs_Lend x0 x1 x2 x3 x4 x5 =
  (pack_Name x1).bind fun val0 =>
  bif !val0
    then some (([]), (([]), (1)))
    else (pack_Name x2).bind fun val4 =>
      bif !val4
        then some (([]), (([]), (1)))
        else bif decide (x3 < 0)
          then some (([]), (([]), (2)))
          else bif decide (x4 ≤ x3)
            then some (([]), (([]), (2)))
            else bif decide (x4 > 1099511627776)
              then some (([]), (([]), (2)))
              else bif decide (x5 < 1)
                then some (([]), (([]), (2)))
                else bif decide (x5 > 8)
                  then some (([]), (([]), (2)))
                  else bif decide (ilen x0 = ilen x0)
                    then bif decide (0 ≤ ilen x0)
                      then bif decide (ilen x0 * 72 ≤ room ∧ ilen x0 ≤ room)
                        then jobs_Lend_l1 (x1) (x2) (x3) (x4) (x5) (ilen (List.take (List.replicate (ilen x0).toNat (zeroOf ((Ty.int IntKind.i64).pair ((Ty.int IntKind.i64).pair ((Ty.int IntKind.i64).pair (Ty.str.pair ((Ty.int IntKind.i64).pair (Ty.str.pair (Ty.int IntKind.i64))))))))).length x0 ++ List.drop x0.length (List.replicate (ilen x0).toNat (zeroOf ((Ty.int IntKind.i64).pair ((Ty.int IntKind.i64).pair ((Ty.int IntKind.i64).pair (Ty.str.pair ((Ty.int IntKind.i64).pair (Ty.str.pair (Ty.int IntKind.i64))))))))))) (0) (List.take (List.replicate (ilen x0).toNat (zeroOf ((Ty.int IntKind.i64).pair ((Ty.int IntKind.i64).pair ((Ty.int IntKind.i64).pair (Ty.str.pair ((Ty.int IntKind.i64).pair (Ty.str.pair (Ty.int IntKind.i64))))))))).length x0 ++ List.drop x0.length (List.replicate (ilen x0).toNat (zeroOf ((Ty.int IntKind.i64).pair ((Ty.int IntKind.i64).pair ((Ty.int IntKind.i64).pair (Ty.str.pair ((Ty.int IntKind.i64).pair (Ty.str.pair (Ty.int IntKind.i64)))))))))) ([])
                        else none
                      else none
                    else none := (jobs_Lend_raw x0 x1 x2 x3 x4 x5).trans (by kernel_rfl)
theorem jobs_Lend_l1_eq (y0 : ByteArray) (y1 : ByteArray) (y2 : Int) (y3 : Int) (y4 : Int) (y5 : Int) (y6 : Int) (y7 : List ((Int) × ((Int) × ((Int) × ((ByteArray) × ((Int) × ((ByteArray) × (Int)))))))) (y8 : List ((Int) × ((Int) × ((Int) × ((ByteArray) × ((Int) × ((ByteArray) × (Int)))))))) : jobs_Lend_l1 y0 y1 y2 y3 y4 y5 y6 y7 y8 =
  bif decide (y6 < y5)
  then bif decide (0 ≤ y6)
    then bif decide (y6 < ilen y7)
      then (y7[y6.toNat]?).bind fun val6 =>
        bif ilen y8 == y4
          then some ((y7), ((y8), (0)))
          else bif !ByteArray.toList val6.snd.snd.snd.fst == y0.toList
            then jobs_Lend_l1 (y0) (y1) (y2) (y3) (y4) (y5) (IntKind.i64.wrap (y6 + 1)) (y7) (y8)
            else (jobs_free val6.fst val6.snd.fst val6.snd.snd.fst val6.snd.snd.snd.fst val6.snd.snd.snd.snd.fst val6.snd.snd.snd.snd.snd.fst val6.snd.snd.snd.snd.snd.snd y2).bind fun val12 =>
              bif !val12
                then jobs_Lend_l1 (y0) (y1) (y2) (y3) (y4) (y5) (IntKind.i64.wrap (y6 + 1)) (y7) (y8)
                else bif decide (0 ≤ y6)
                  then bif decide (y6 < ilen y7)
                    then (y7[y6.toNat]?).bind fun val20 =>
                      bif decide (0 ≤ y6)
                        then bif decide (y6 < ilen (y7.set y6.toNat (val20.fst, val20.snd.fst, val20.snd.snd.fst, val20.snd.snd.snd.fst, val20.snd.snd.snd.snd.fst, y1, val20.snd.snd.snd.snd.snd.snd)))
                          then ((y7.set y6.toNat (val20.fst, val20.snd.fst, val20.snd.snd.fst, val20.snd.snd.snd.fst, val20.snd.snd.snd.snd.fst, y1, val20.snd.snd.snd.snd.snd.snd))[y6.toNat]?).bind fun val26 =>
                            bif decide (0 ≤ y6)
                              then bif decide (y6 < ilen ((y7.set y6.toNat (val20.fst, val20.snd.fst, val20.snd.snd.fst, val20.snd.snd.snd.fst, val20.snd.snd.snd.snd.fst, y1, val20.snd.snd.snd.snd.snd.snd)).set y6.toNat (val26.fst, val26.snd.fst, val26.snd.snd.fst, val26.snd.snd.snd.fst, val26.snd.snd.snd.snd.fst, val26.snd.snd.snd.snd.snd.fst, y3)))
                                then (((y7.set y6.toNat (val20.fst, val20.snd.fst, val20.snd.snd.fst, val20.snd.snd.snd.fst, val20.snd.snd.snd.snd.fst, y1, val20.snd.snd.snd.snd.snd.snd)).set y6.toNat (val26.fst, val26.snd.fst, val26.snd.snd.fst, val26.snd.snd.snd.fst, val26.snd.snd.snd.snd.fst, val26.snd.snd.snd.snd.snd.fst, y3))[y6.toNat]?).bind fun val32 =>
                                  bif decide ((ilen y8 + ilen [val32]) * 72 ≤ room)
                                    then jobs_Lend_l1 (y0) (y1) (y2) (y3) (y4) (y5) (IntKind.i64.wrap (y6 + 1)) ((y7.set y6.toNat (val20.fst, val20.snd.fst, val20.snd.snd.fst, val20.snd.snd.snd.fst, val20.snd.snd.snd.snd.fst, y1, val20.snd.snd.snd.snd.snd.snd)).set y6.toNat (val26.fst, val26.snd.fst, val26.snd.snd.fst, val26.snd.snd.snd.fst, val26.snd.snd.snd.snd.fst, val26.snd.snd.snd.snd.snd.fst, y3)) (y8 ++ [val32])
                                    else none
                                else none
                              else none
                          else none
                        else none
                    else none
                  else none
      else none
    else none
  else some ((y7), ((y8), (0))) := (loopAt_step _ _ _ _ _ _ _).trans (by kernel_rfl)
noncomputable def jobs_Lend_sig : Sig := { pm := [(false, [(false, .slice (.pair (.int .i64) (.pair (.int .i64) (.pair (.int .i64) (.pair (.str) (.pair (.int .i64) (.pair (.str) (.int .i64))))))))]), (false, [(false, .str)]), (false, [(false, .str)]), (false, [(false, .int .i64)]), (false, [(false, .int .i64)]), (false, [(false, .int .i64)])], rm := [(false, [(true, .slice (.pair (.int .i64) (.pair (.int .i64) (.pair (.int .i64) (.pair (.str) (.pair (.int .i64) (.pair (.str) (.int .i64))))))))]), (false, [(true, .slice (.pair (.int .i64) (.pair (.int .i64) (.pair (.int .i64) (.pair (.str) (.pair (.int .i64) (.pair (.str) (.int .i64))))))))]), (false, [(false, .int .i64)])], f := fun | [⟨.slice (.pair (.int .i64) (.pair (.int .i64) (.pair (.int .i64) (.pair (.str) (.pair (.int .i64) (.pair (.str) (.int .i64))))))), x0⟩, ⟨.str, x1⟩, ⟨.str, x2⟩, ⟨.int .i64, x3⟩, ⟨.int .i64, x4⟩, ⟨.int .i64, x5⟩] => .yes _ (jobs_Lend x0 x1 x2 x3 x4 x5) jobs_Lend_mk | _ => .no }
theorem jobs_Lend_ok : SigOk Try.prog 18 jobs_Lend_sig := by
  refine contract_of (C := jobs_Lend_C) (d := 3) S27_ok (callable_ex (by kernel_rfl)) ?_
  intro dvs
  unfold jobs_Lend_sig
  dsimp only
  split
  · refine .inr ⟨_, jobs_Lend_un, jobs_Lend_mk, congrArg (fun o => Cl.yes _ o _) (jobs_Lend_raw _ _ _ _ _ _), ?_⟩
    intro ds x h
    unfold jobs_Lend_un at h
    split at h
    · cases h; rfl
    · cases h
  · exact .inl rfl
noncomputable def S28 : List (Nat × Sig) := (18, jobs_Lend_sig) :: S27
theorem S28_ok : ListOk Try.prog S28 := ListOk.cons S27_ok jobs_Lend_ok
noncomputable def jobs_held_C : Cfg := { P := Try.prog, sig := lookSig S28, hb := fun _ _ => none, hr := fun _ _ => none }
noncomputable def jobs_held_un : List DV → Option (Int × Int) := fun | [⟨.int .i64, r0⟩, ⟨.int .i64, r1⟩] => some (r0, r1) | _ => none
noncomputable def jobs_held_mk : (Int × Int) → List DV := fun ⟨r0, r1⟩ => [⟨.int .i64, r0⟩, ⟨.int .i64, r1⟩]
theorem jobs_held_ex : ∃ f : (List (Int × Int × Int × ByteArray × Int × ByteArray × Int)) → (Int) → (ByteArray) → (Int) → Option (Int × Int), f = fun (x0 : List (Int × Int × Int × ByteArray × Int × ByteArray × Int)) (x1 : Int) (x2 : ByteArray) (x3 : Int) => funRun jobs_held_C 3 37 [(false, [(false, .slice (.pair (.int .i64) (.pair (.int .i64) (.pair (.int .i64) (.pair (.str) (.pair (.int .i64) (.pair (.str) (.int .i64))))))))]), (false, [(false, .int .i64)]), (false, [(false, .str)]), (false, [(false, .int .i64)])] [(false, [(false, .int .i64)]), (false, [(false, .int .i64)])] jobs_held_un [⟨.slice (.pair (.int .i64) (.pair (.int .i64) (.pair (.int .i64) (.pair (.str) (.pair (.int .i64) (.pair (.str) (.int .i64))))))), x0⟩, ⟨.int .i64, x1⟩, ⟨.str, x2⟩, ⟨.int .i64, x3⟩] := ⟨_, rfl⟩
noncomputable def jobs_held : (List (Int × Int × Int × ByteArray × Int × ByteArray × Int)) → (Int) → (ByteArray) → (Int) → Option (Int × Int) := jobs_held_ex.choose
theorem jobs_held_raw (x0 : List (Int × Int × Int × ByteArray × Int × ByteArray × Int)) (x1 : Int) (x2 : ByteArray) (x3 : Int) : jobs_held x0 x1 x2 x3 = funRun jobs_held_C 3 37 [(false, [(false, .slice (.pair (.int .i64) (.pair (.int .i64) (.pair (.int .i64) (.pair (.str) (.pair (.int .i64) (.pair (.str) (.int .i64))))))))]), (false, [(false, .int .i64)]), (false, [(false, .str)]), (false, [(false, .int .i64)])] [(false, [(false, .int .i64)]), (false, [(false, .int .i64)])] jobs_held_un [⟨.slice (.pair (.int .i64) (.pair (.int .i64) (.pair (.int .i64) (.pair (.str) (.pair (.int .i64) (.pair (.str) (.int .i64))))))), x0⟩, ⟨.int .i64, x1⟩, ⟨.str, x2⟩, ⟨.int .i64, x3⟩] := congrFun (congrFun (congrFun (congrFun (jobs_held_ex.choose_spec) x0) x1) x2) x3
theorem jobs_held_eq (x0 : List (Int × Int × Int × ByteArray × Int × ByteArray × Int)) (x1 : Int) (x2 : ByteArray) (x3 : Int) : jobs_held x0 x1 x2 x3 =
  (jobs_find x0 x1).bind fun val0 =>
  bif !val0.2
    then some ((0), (9))
    else bif decide (0 ≤ val0.1)
      then (x0[val0.1.toNat]?).bind fun val6 =>
        bif !ByteArray.toList val6.snd.snd.snd.snd.snd.fst == x2.toList
          then some ((0), (11))
          else bif x2.toList == (⟨#[]⟩ : ByteArray).toList
            then some ((0), (11))
            else bif decide (0 ≤ val0.1)
              then (x0[val0.1.toNat]?).bind fun val14 =>
                bif decide (val14.snd.snd.snd.snd.snd.snd ≤ x3)
                  then some ((0), (11))
                  else some ((val0.1), (0))
              else none
      else none := (jobs_held_raw x0 x1 x2 x3).trans (by kernel_rfl)
noncomputable def jobs_held_sig : Sig := { pm := [(false, [(false, .slice (.pair (.int .i64) (.pair (.int .i64) (.pair (.int .i64) (.pair (.str) (.pair (.int .i64) (.pair (.str) (.int .i64))))))))]), (false, [(false, .int .i64)]), (false, [(false, .str)]), (false, [(false, .int .i64)])], rm := [(false, [(false, .int .i64)]), (false, [(false, .int .i64)])], f := fun | [⟨.slice (.pair (.int .i64) (.pair (.int .i64) (.pair (.int .i64) (.pair (.str) (.pair (.int .i64) (.pair (.str) (.int .i64))))))), x0⟩, ⟨.int .i64, x1⟩, ⟨.str, x2⟩, ⟨.int .i64, x3⟩] => .yes _ (jobs_held x0 x1 x2 x3) jobs_held_mk | _ => .no }
theorem jobs_held_ok : SigOk Try.prog 37 jobs_held_sig := by
  refine contract_of (C := jobs_held_C) (d := 3) S28_ok (callable_ex (by kernel_rfl)) ?_
  intro dvs
  unfold jobs_held_sig
  dsimp only
  split
  · refine .inr ⟨_, jobs_held_un, jobs_held_mk, congrArg (fun o => Cl.yes _ o _) (jobs_held_raw _ _ _ _), ?_⟩
    intro ds x h
    unfold jobs_held_un at h
    split at h
    · cases h; rfl
    · cases h
  · exact .inl rfl
noncomputable def S29 : List (Nat × Sig) := (37, jobs_held_sig) :: S28
theorem S29_ok : ListOk Try.prog S29 := ListOk.cons S28_ok jobs_held_ok
noncomputable def jobs_Delete_C : Cfg := { P := Try.prog, sig := lookSig S29, hb := fun _ _ => none, hr := fun _ _ => none }
noncomputable def jobs_Delete_un : List DV → Option ((List (Int × Int × Int × ByteArray × Int × ByteArray × Int))) := fun | [⟨.slice (.pair (.int .i64) (.pair (.int .i64) (.pair (.int .i64) (.pair (.str) (.pair (.int .i64) (.pair (.str) (.int .i64))))))), r0⟩] => some r0 | _ => none
noncomputable def jobs_Delete_mk : (List (Int × Int × Int × ByteArray × Int × ByteArray × Int)) → List DV := fun r0 => [⟨.slice (.pair (.int .i64) (.pair (.int .i64) (.pair (.int .i64) (.pair (.str) (.pair (.int .i64) (.pair (.str) (.int .i64))))))), r0⟩]
theorem jobs_Delete_ex : ∃ f : (List (Int × Int × Int × ByteArray × Int × ByteArray × Int)) → (Int) → (Int) → Option ((List (Int × Int × Int × ByteArray × Int × ByteArray × Int))), f = fun (x0 : List (Int × Int × Int × ByteArray × Int × ByteArray × Int)) (x1 : Int) (x2 : Int) => funRun jobs_Delete_C 3 38 [(false, [(true, .slice (.pair (.int .i64) (.pair (.int .i64) (.pair (.int .i64) (.pair (.str) (.pair (.int .i64) (.pair (.str) (.int .i64))))))))]), (false, [(false, .int .i64)]), (false, [(false, .int .i64)])] [(false, [(true, .slice (.pair (.int .i64) (.pair (.int .i64) (.pair (.int .i64) (.pair (.str) (.pair (.int .i64) (.pair (.str) (.int .i64))))))))])] jobs_Delete_un [⟨.slice (.pair (.int .i64) (.pair (.int .i64) (.pair (.int .i64) (.pair (.str) (.pair (.int .i64) (.pair (.str) (.int .i64))))))), x0⟩, ⟨.int .i64, x1⟩, ⟨.int .i64, x2⟩] := ⟨_, rfl⟩
noncomputable def jobs_Delete : (List (Int × Int × Int × ByteArray × Int × ByteArray × Int)) → (Int) → (Int) → Option ((List (Int × Int × Int × ByteArray × Int × ByteArray × Int))) := jobs_Delete_ex.choose
theorem jobs_Delete_raw (x0 : List (Int × Int × Int × ByteArray × Int × ByteArray × Int)) (x1 : Int) (x2 : Int) : jobs_Delete x0 x1 x2 = funRun jobs_Delete_C 3 38 [(false, [(true, .slice (.pair (.int .i64) (.pair (.int .i64) (.pair (.int .i64) (.pair (.str) (.pair (.int .i64) (.pair (.str) (.int .i64))))))))]), (false, [(false, .int .i64)]), (false, [(false, .int .i64)])] [(false, [(true, .slice (.pair (.int .i64) (.pair (.int .i64) (.pair (.int .i64) (.pair (.str) (.pair (.int .i64) (.pair (.str) (.int .i64))))))))])] jobs_Delete_un [⟨.slice (.pair (.int .i64) (.pair (.int .i64) (.pair (.int .i64) (.pair (.str) (.pair (.int .i64) (.pair (.str) (.int .i64))))))), x0⟩, ⟨.int .i64, x1⟩, ⟨.int .i64, x2⟩] := congrFun (congrFun (congrFun (jobs_Delete_ex.choose_spec) x0) x1) x2
theorem jobs_Delete_eq (x0 : List (Int × Int × Int × ByteArray × Int × ByteArray × Int)) (x1 : Int) (x2 : Int) : jobs_Delete x0 x1 x2 =
  bif decide (0 ≤ x1)
  then bif decide (x1 ≤ x2)
    then bif decide (x2 ≤ ilen x0)
      then bif decide (ilen x0 ≤ ilen x0)
        then bif x1 == x2
          then some (x0)
          else bif decide (0 ≤ x1)
            then bif decide (x1 ≤ ilen x0)
              then bif decide (0 ≤ x2)
                then bif decide (x2 ≤ ilen x0)
                  then bif decide (ilen x0 ≤ ilen x0)
                    then bif (x2.toNat + ((ilen x0).toNat - x2.toNat)).ble x0.length
                      then bif (x1.toNat - Int.toNat 0).ble x0.length
                        then bif decide ((ilen (List.take (x1.toNat - Int.toNat 0) x0) + ilen (List.take ((ilen x0).toNat - x2.toNat) (List.drop x2.toNat x0))) * 72 ≤ room)
                          then bif decide (0 ≤ ilen (List.take (x1.toNat - Int.toNat 0) x0 ++ List.take ((ilen x0).toNat - x2.toNat) (List.drop x2.toNat x0)))
                            then bif decide (ilen (List.take (x1.toNat - Int.toNat 0) x0 ++ List.take ((ilen x0).toNat - x2.toNat) (List.drop x2.toNat x0)) ≤ ilen x0)
                              then bif decide (ilen x0 ≤ ilen (List.take (x1.toNat - Int.toNat 0) x0 ++ List.take ((ilen x0).toNat - x2.toNat) (List.drop x2.toNat x0)))
                                then bif ((ilen (List.take (x1.toNat - Int.toNat 0) x0 ++ List.take ((ilen x0).toNat - x2.toNat) (List.drop x2.toNat x0))).toNat + ((ilen x0).toNat - (ilen (List.take (x1.toNat - Int.toNat 0) x0 ++ List.take ((ilen x0).toNat - x2.toNat) (List.drop x2.toNat x0))).toNat)).ble (max (max (max 0 x0.length) ((List.take (x1.toNat - Int.toNat 0) x0).length + (List.take ((ilen x0).toNat - x2.toNat) (List.drop x2.toNat x0)).length)) (List.take (x1.toNat - Int.toNat 0) x0 ++ List.take ((ilen x0).toNat - x2.toNat) (List.drop x2.toNat x0)).length)
                                  then some (List.take (ilen (List.take (x1.toNat - Int.toNat 0) x0 ++ List.take ((ilen x0).toNat - x2.toNat) (List.drop x2.toNat x0))).toNat (List.take (x1.toNat - Int.toNat 0) x0 ++ List.take ((ilen x0).toNat - x2.toNat) (List.drop x2.toNat x0)) ++ List.replicate (min ((ilen x0).toNat - (ilen (List.take (x1.toNat - Int.toNat 0) x0 ++ List.take ((ilen x0).toNat - x2.toNat) (List.drop x2.toNat x0))).toNat) ((List.take (x1.toNat - Int.toNat 0) x0 ++ List.take ((ilen x0).toNat - x2.toNat) (List.drop x2.toNat x0)).length - (ilen (List.take (x1.toNat - Int.toNat 0) x0 ++ List.take ((ilen x0).toNat - x2.toNat) (List.drop x2.toNat x0))).toNat)) (zeroOf ((Ty.int IntKind.i64).pair ((Ty.int IntKind.i64).pair ((Ty.int IntKind.i64).pair (Ty.str.pair ((Ty.int IntKind.i64).pair (Ty.str.pair (Ty.int IntKind.i64)))))))) ++ List.drop ((ilen (List.take (x1.toNat - Int.toNat 0) x0 ++ List.take ((ilen x0).toNat - x2.toNat) (List.drop x2.toNat x0))).toNat + ((ilen x0).toNat - (ilen (List.take (x1.toNat - Int.toNat 0) x0 ++ List.take ((ilen x0).toNat - x2.toNat) (List.drop x2.toNat x0))).toNat)) (List.take (x1.toNat - Int.toNat 0) x0 ++ List.take ((ilen x0).toNat - x2.toNat) (List.drop x2.toNat x0)))
                                  else none
                                else bif decide (ilen x0 ≤ ↑(max (max 0 x0.length) ((List.take (x1.toNat - Int.toNat 0) x0).length + (List.take ((ilen x0).toNat - x2.toNat) (List.drop x2.toNat x0)).length)))
                                  then bif ((ilen (List.take (x1.toNat - Int.toNat 0) x0 ++ List.take ((ilen x0).toNat - x2.toNat) (List.drop x2.toNat x0))).toNat + ((ilen x0).toNat - (ilen (List.take (x1.toNat - Int.toNat 0) x0 ++ List.take ((ilen x0).toNat - x2.toNat) (List.drop x2.toNat x0))).toNat)).ble (max (max (max 0 x0.length) ((List.take (x1.toNat - Int.toNat 0) x0).length + (List.take ((ilen x0).toNat - x2.toNat) (List.drop x2.toNat x0)).length)) (List.take (x1.toNat - Int.toNat 0) x0 ++ List.take ((ilen x0).toNat - x2.toNat) (List.drop x2.toNat x0)).length)
                                    then some (List.take (ilen (List.take (x1.toNat - Int.toNat 0) x0 ++ List.take ((ilen x0).toNat - x2.toNat) (List.drop x2.toNat x0))).toNat (List.take (x1.toNat - Int.toNat 0) x0 ++ List.take ((ilen x0).toNat - x2.toNat) (List.drop x2.toNat x0)) ++ List.replicate (min ((ilen x0).toNat - (ilen (List.take (x1.toNat - Int.toNat 0) x0 ++ List.take ((ilen x0).toNat - x2.toNat) (List.drop x2.toNat x0))).toNat) ((List.take (x1.toNat - Int.toNat 0) x0 ++ List.take ((ilen x0).toNat - x2.toNat) (List.drop x2.toNat x0)).length - (ilen (List.take (x1.toNat - Int.toNat 0) x0 ++ List.take ((ilen x0).toNat - x2.toNat) (List.drop x2.toNat x0))).toNat)) (zeroOf ((Ty.int IntKind.i64).pair ((Ty.int IntKind.i64).pair ((Ty.int IntKind.i64).pair (Ty.str.pair ((Ty.int IntKind.i64).pair (Ty.str.pair (Ty.int IntKind.i64)))))))) ++ List.drop ((ilen (List.take (x1.toNat - Int.toNat 0) x0 ++ List.take ((ilen x0).toNat - x2.toNat) (List.drop x2.toNat x0))).toNat + ((ilen x0).toNat - (ilen (List.take (x1.toNat - Int.toNat 0) x0 ++ List.take ((ilen x0).toNat - x2.toNat) (List.drop x2.toNat x0))).toNat)) (List.take (x1.toNat - Int.toNat 0) x0 ++ List.take ((ilen x0).toNat - x2.toNat) (List.drop x2.toNat x0)))
                                    else none
                                  else none
                              else none
                            else none
                          else none
                        else none
                      else none
                    else bif decide (ilen x0 ≤ ↑0)
                      then bif (x2.toNat + ((ilen x0).toNat - x2.toNat)).ble x0.length
                        then bif (x1.toNat - Int.toNat 0).ble x0.length
                          then bif decide ((ilen (List.take (x1.toNat - Int.toNat 0) x0) + ilen (List.take ((ilen x0).toNat - x2.toNat) (List.drop x2.toNat x0))) * 72 ≤ room)
                            then bif decide (0 ≤ ilen (List.take (x1.toNat - Int.toNat 0) x0 ++ List.take ((ilen x0).toNat - x2.toNat) (List.drop x2.toNat x0)))
                              then bif decide (ilen (List.take (x1.toNat - Int.toNat 0) x0 ++ List.take ((ilen x0).toNat - x2.toNat) (List.drop x2.toNat x0)) ≤ ilen x0)
                                then bif decide (ilen x0 ≤ ilen (List.take (x1.toNat - Int.toNat 0) x0 ++ List.take ((ilen x0).toNat - x2.toNat) (List.drop x2.toNat x0)))
                                  then bif ((ilen (List.take (x1.toNat - Int.toNat 0) x0 ++ List.take ((ilen x0).toNat - x2.toNat) (List.drop x2.toNat x0))).toNat + ((ilen x0).toNat - (ilen (List.take (x1.toNat - Int.toNat 0) x0 ++ List.take ((ilen x0).toNat - x2.toNat) (List.drop x2.toNat x0))).toNat)).ble (max (max (max 0 x0.length) ((List.take (x1.toNat - Int.toNat 0) x0).length + (List.take ((ilen x0).toNat - x2.toNat) (List.drop x2.toNat x0)).length)) (List.take (x1.toNat - Int.toNat 0) x0 ++ List.take ((ilen x0).toNat - x2.toNat) (List.drop x2.toNat x0)).length)
                                    then some (List.take (ilen (List.take (x1.toNat - Int.toNat 0) x0 ++ List.take ((ilen x0).toNat - x2.toNat) (List.drop x2.toNat x0))).toNat (List.take (x1.toNat - Int.toNat 0) x0 ++ List.take ((ilen x0).toNat - x2.toNat) (List.drop x2.toNat x0)) ++ List.replicate (min ((ilen x0).toNat - (ilen (List.take (x1.toNat - Int.toNat 0) x0 ++ List.take ((ilen x0).toNat - x2.toNat) (List.drop x2.toNat x0))).toNat) ((List.take (x1.toNat - Int.toNat 0) x0 ++ List.take ((ilen x0).toNat - x2.toNat) (List.drop x2.toNat x0)).length - (ilen (List.take (x1.toNat - Int.toNat 0) x0 ++ List.take ((ilen x0).toNat - x2.toNat) (List.drop x2.toNat x0))).toNat)) (zeroOf ((Ty.int IntKind.i64).pair ((Ty.int IntKind.i64).pair ((Ty.int IntKind.i64).pair (Ty.str.pair ((Ty.int IntKind.i64).pair (Ty.str.pair (Ty.int IntKind.i64)))))))) ++ List.drop ((ilen (List.take (x1.toNat - Int.toNat 0) x0 ++ List.take ((ilen x0).toNat - x2.toNat) (List.drop x2.toNat x0))).toNat + ((ilen x0).toNat - (ilen (List.take (x1.toNat - Int.toNat 0) x0 ++ List.take ((ilen x0).toNat - x2.toNat) (List.drop x2.toNat x0))).toNat)) (List.take (x1.toNat - Int.toNat 0) x0 ++ List.take ((ilen x0).toNat - x2.toNat) (List.drop x2.toNat x0)))
                                    else none
                                  else bif decide (ilen x0 ≤ ↑(max (max 0 x0.length) ((List.take (x1.toNat - Int.toNat 0) x0).length + (List.take ((ilen x0).toNat - x2.toNat) (List.drop x2.toNat x0)).length)))
                                    then bif ((ilen (List.take (x1.toNat - Int.toNat 0) x0 ++ List.take ((ilen x0).toNat - x2.toNat) (List.drop x2.toNat x0))).toNat + ((ilen x0).toNat - (ilen (List.take (x1.toNat - Int.toNat 0) x0 ++ List.take ((ilen x0).toNat - x2.toNat) (List.drop x2.toNat x0))).toNat)).ble (max (max (max 0 x0.length) ((List.take (x1.toNat - Int.toNat 0) x0).length + (List.take ((ilen x0).toNat - x2.toNat) (List.drop x2.toNat x0)).length)) (List.take (x1.toNat - Int.toNat 0) x0 ++ List.take ((ilen x0).toNat - x2.toNat) (List.drop x2.toNat x0)).length)
                                      then some (List.take (ilen (List.take (x1.toNat - Int.toNat 0) x0 ++ List.take ((ilen x0).toNat - x2.toNat) (List.drop x2.toNat x0))).toNat (List.take (x1.toNat - Int.toNat 0) x0 ++ List.take ((ilen x0).toNat - x2.toNat) (List.drop x2.toNat x0)) ++ List.replicate (min ((ilen x0).toNat - (ilen (List.take (x1.toNat - Int.toNat 0) x0 ++ List.take ((ilen x0).toNat - x2.toNat) (List.drop x2.toNat x0))).toNat) ((List.take (x1.toNat - Int.toNat 0) x0 ++ List.take ((ilen x0).toNat - x2.toNat) (List.drop x2.toNat x0)).length - (ilen (List.take (x1.toNat - Int.toNat 0) x0 ++ List.take ((ilen x0).toNat - x2.toNat) (List.drop x2.toNat x0))).toNat)) (zeroOf ((Ty.int IntKind.i64).pair ((Ty.int IntKind.i64).pair ((Ty.int IntKind.i64).pair (Ty.str.pair ((Ty.int IntKind.i64).pair (Ty.str.pair (Ty.int IntKind.i64)))))))) ++ List.drop ((ilen (List.take (x1.toNat - Int.toNat 0) x0 ++ List.take ((ilen x0).toNat - x2.toNat) (List.drop x2.toNat x0))).toNat + ((ilen x0).toNat - (ilen (List.take (x1.toNat - Int.toNat 0) x0 ++ List.take ((ilen x0).toNat - x2.toNat) (List.drop x2.toNat x0))).toNat)) (List.take (x1.toNat - Int.toNat 0) x0 ++ List.take ((ilen x0).toNat - x2.toNat) (List.drop x2.toNat x0)))
                                      else none
                                    else none
                                else none
                              else none
                            else none
                          else none
                        else none
                      else none
                  else none
                else none
              else bif decide (x1 ≤ ↑0)
                then bif decide (0 ≤ x2)
                  then bif decide (x2 ≤ ilen x0)
                    then bif decide (ilen x0 ≤ ilen x0)
                      then bif (x2.toNat + ((ilen x0).toNat - x2.toNat)).ble x0.length
                        then bif (x1.toNat - Int.toNat 0).ble x0.length
                          then bif decide ((ilen (List.take (x1.toNat - Int.toNat 0) x0) + ilen (List.take ((ilen x0).toNat - x2.toNat) (List.drop x2.toNat x0))) * 72 ≤ room)
                            then bif decide (0 ≤ ilen (List.take (x1.toNat - Int.toNat 0) x0 ++ List.take ((ilen x0).toNat - x2.toNat) (List.drop x2.toNat x0)))
                              then bif decide (ilen (List.take (x1.toNat - Int.toNat 0) x0 ++ List.take ((ilen x0).toNat - x2.toNat) (List.drop x2.toNat x0)) ≤ ilen x0)
                                then bif decide (ilen x0 ≤ ilen (List.take (x1.toNat - Int.toNat 0) x0 ++ List.take ((ilen x0).toNat - x2.toNat) (List.drop x2.toNat x0)))
                                  then bif ((ilen (List.take (x1.toNat - Int.toNat 0) x0 ++ List.take ((ilen x0).toNat - x2.toNat) (List.drop x2.toNat x0))).toNat + ((ilen x0).toNat - (ilen (List.take (x1.toNat - Int.toNat 0) x0 ++ List.take ((ilen x0).toNat - x2.toNat) (List.drop x2.toNat x0))).toNat)).ble (max (max (max 0 x0.length) ((List.take (x1.toNat - Int.toNat 0) x0).length + (List.take ((ilen x0).toNat - x2.toNat) (List.drop x2.toNat x0)).length)) (List.take (x1.toNat - Int.toNat 0) x0 ++ List.take ((ilen x0).toNat - x2.toNat) (List.drop x2.toNat x0)).length)
                                    then some (List.take (ilen (List.take (x1.toNat - Int.toNat 0) x0 ++ List.take ((ilen x0).toNat - x2.toNat) (List.drop x2.toNat x0))).toNat (List.take (x1.toNat - Int.toNat 0) x0 ++ List.take ((ilen x0).toNat - x2.toNat) (List.drop x2.toNat x0)) ++ List.replicate (min ((ilen x0).toNat - (ilen (List.take (x1.toNat - Int.toNat 0) x0 ++ List.take ((ilen x0).toNat - x2.toNat) (List.drop x2.toNat x0))).toNat) ((List.take (x1.toNat - Int.toNat 0) x0 ++ List.take ((ilen x0).toNat - x2.toNat) (List.drop x2.toNat x0)).length - (ilen (List.take (x1.toNat - Int.toNat 0) x0 ++ List.take ((ilen x0).toNat - x2.toNat) (List.drop x2.toNat x0))).toNat)) (zeroOf ((Ty.int IntKind.i64).pair ((Ty.int IntKind.i64).pair ((Ty.int IntKind.i64).pair (Ty.str.pair ((Ty.int IntKind.i64).pair (Ty.str.pair (Ty.int IntKind.i64)))))))) ++ List.drop ((ilen (List.take (x1.toNat - Int.toNat 0) x0 ++ List.take ((ilen x0).toNat - x2.toNat) (List.drop x2.toNat x0))).toNat + ((ilen x0).toNat - (ilen (List.take (x1.toNat - Int.toNat 0) x0 ++ List.take ((ilen x0).toNat - x2.toNat) (List.drop x2.toNat x0))).toNat)) (List.take (x1.toNat - Int.toNat 0) x0 ++ List.take ((ilen x0).toNat - x2.toNat) (List.drop x2.toNat x0)))
                                    else none
                                  else bif decide (ilen x0 ≤ ↑(max (max 0 x0.length) ((List.take (x1.toNat - Int.toNat 0) x0).length + (List.take ((ilen x0).toNat - x2.toNat) (List.drop x2.toNat x0)).length)))
                                    then bif ((ilen (List.take (x1.toNat - Int.toNat 0) x0 ++ List.take ((ilen x0).toNat - x2.toNat) (List.drop x2.toNat x0))).toNat + ((ilen x0).toNat - (ilen (List.take (x1.toNat - Int.toNat 0) x0 ++ List.take ((ilen x0).toNat - x2.toNat) (List.drop x2.toNat x0))).toNat)).ble (max (max (max 0 x0.length) ((List.take (x1.toNat - Int.toNat 0) x0).length + (List.take ((ilen x0).toNat - x2.toNat) (List.drop x2.toNat x0)).length)) (List.take (x1.toNat - Int.toNat 0) x0 ++ List.take ((ilen x0).toNat - x2.toNat) (List.drop x2.toNat x0)).length)
                                      then some (List.take (ilen (List.take (x1.toNat - Int.toNat 0) x0 ++ List.take ((ilen x0).toNat - x2.toNat) (List.drop x2.toNat x0))).toNat (List.take (x1.toNat - Int.toNat 0) x0 ++ List.take ((ilen x0).toNat - x2.toNat) (List.drop x2.toNat x0)) ++ List.replicate (min ((ilen x0).toNat - (ilen (List.take (x1.toNat - Int.toNat 0) x0 ++ List.take ((ilen x0).toNat - x2.toNat) (List.drop x2.toNat x0))).toNat) ((List.take (x1.toNat - Int.toNat 0) x0 ++ List.take ((ilen x0).toNat - x2.toNat) (List.drop x2.toNat x0)).length - (ilen (List.take (x1.toNat - Int.toNat 0) x0 ++ List.take ((ilen x0).toNat - x2.toNat) (List.drop x2.toNat x0))).toNat)) (zeroOf ((Ty.int IntKind.i64).pair ((Ty.int IntKind.i64).pair ((Ty.int IntKind.i64).pair (Ty.str.pair ((Ty.int IntKind.i64).pair (Ty.str.pair (Ty.int IntKind.i64)))))))) ++ List.drop ((ilen (List.take (x1.toNat - Int.toNat 0) x0 ++ List.take ((ilen x0).toNat - x2.toNat) (List.drop x2.toNat x0))).toNat + ((ilen x0).toNat - (ilen (List.take (x1.toNat - Int.toNat 0) x0 ++ List.take ((ilen x0).toNat - x2.toNat) (List.drop x2.toNat x0))).toNat)) (List.take (x1.toNat - Int.toNat 0) x0 ++ List.take ((ilen x0).toNat - x2.toNat) (List.drop x2.toNat x0)))
                                      else none
                                    else none
                                else none
                              else none
                            else none
                          else none
                        else none
                      else bif decide (ilen x0 ≤ ↑0)
                        then bif (x2.toNat + ((ilen x0).toNat - x2.toNat)).ble x0.length
                          then bif (x1.toNat - Int.toNat 0).ble x0.length
                            then bif decide ((ilen (List.take (x1.toNat - Int.toNat 0) x0) + ilen (List.take ((ilen x0).toNat - x2.toNat) (List.drop x2.toNat x0))) * 72 ≤ room)
                              then bif decide (0 ≤ ilen (List.take (x1.toNat - Int.toNat 0) x0 ++ List.take ((ilen x0).toNat - x2.toNat) (List.drop x2.toNat x0)))
                                then bif decide (ilen (List.take (x1.toNat - Int.toNat 0) x0 ++ List.take ((ilen x0).toNat - x2.toNat) (List.drop x2.toNat x0)) ≤ ilen x0)
                                  then bif decide (ilen x0 ≤ ilen (List.take (x1.toNat - Int.toNat 0) x0 ++ List.take ((ilen x0).toNat - x2.toNat) (List.drop x2.toNat x0)))
                                    then bif ((ilen (List.take (x1.toNat - Int.toNat 0) x0 ++ List.take ((ilen x0).toNat - x2.toNat) (List.drop x2.toNat x0))).toNat + ((ilen x0).toNat - (ilen (List.take (x1.toNat - Int.toNat 0) x0 ++ List.take ((ilen x0).toNat - x2.toNat) (List.drop x2.toNat x0))).toNat)).ble (max (max (max 0 x0.length) ((List.take (x1.toNat - Int.toNat 0) x0).length + (List.take ((ilen x0).toNat - x2.toNat) (List.drop x2.toNat x0)).length)) (List.take (x1.toNat - Int.toNat 0) x0 ++ List.take ((ilen x0).toNat - x2.toNat) (List.drop x2.toNat x0)).length)
                                      then some (List.take (ilen (List.take (x1.toNat - Int.toNat 0) x0 ++ List.take ((ilen x0).toNat - x2.toNat) (List.drop x2.toNat x0))).toNat (List.take (x1.toNat - Int.toNat 0) x0 ++ List.take ((ilen x0).toNat - x2.toNat) (List.drop x2.toNat x0)) ++ List.replicate (min ((ilen x0).toNat - (ilen (List.take (x1.toNat - Int.toNat 0) x0 ++ List.take ((ilen x0).toNat - x2.toNat) (List.drop x2.toNat x0))).toNat) ((List.take (x1.toNat - Int.toNat 0) x0 ++ List.take ((ilen x0).toNat - x2.toNat) (List.drop x2.toNat x0)).length - (ilen (List.take (x1.toNat - Int.toNat 0) x0 ++ List.take ((ilen x0).toNat - x2.toNat) (List.drop x2.toNat x0))).toNat)) (zeroOf ((Ty.int IntKind.i64).pair ((Ty.int IntKind.i64).pair ((Ty.int IntKind.i64).pair (Ty.str.pair ((Ty.int IntKind.i64).pair (Ty.str.pair (Ty.int IntKind.i64)))))))) ++ List.drop ((ilen (List.take (x1.toNat - Int.toNat 0) x0 ++ List.take ((ilen x0).toNat - x2.toNat) (List.drop x2.toNat x0))).toNat + ((ilen x0).toNat - (ilen (List.take (x1.toNat - Int.toNat 0) x0 ++ List.take ((ilen x0).toNat - x2.toNat) (List.drop x2.toNat x0))).toNat)) (List.take (x1.toNat - Int.toNat 0) x0 ++ List.take ((ilen x0).toNat - x2.toNat) (List.drop x2.toNat x0)))
                                      else none
                                    else bif decide (ilen x0 ≤ ↑(max (max 0 x0.length) ((List.take (x1.toNat - Int.toNat 0) x0).length + (List.take ((ilen x0).toNat - x2.toNat) (List.drop x2.toNat x0)).length)))
                                      then bif ((ilen (List.take (x1.toNat - Int.toNat 0) x0 ++ List.take ((ilen x0).toNat - x2.toNat) (List.drop x2.toNat x0))).toNat + ((ilen x0).toNat - (ilen (List.take (x1.toNat - Int.toNat 0) x0 ++ List.take ((ilen x0).toNat - x2.toNat) (List.drop x2.toNat x0))).toNat)).ble (max (max (max 0 x0.length) ((List.take (x1.toNat - Int.toNat 0) x0).length + (List.take ((ilen x0).toNat - x2.toNat) (List.drop x2.toNat x0)).length)) (List.take (x1.toNat - Int.toNat 0) x0 ++ List.take ((ilen x0).toNat - x2.toNat) (List.drop x2.toNat x0)).length)
                                        then some (List.take (ilen (List.take (x1.toNat - Int.toNat 0) x0 ++ List.take ((ilen x0).toNat - x2.toNat) (List.drop x2.toNat x0))).toNat (List.take (x1.toNat - Int.toNat 0) x0 ++ List.take ((ilen x0).toNat - x2.toNat) (List.drop x2.toNat x0)) ++ List.replicate (min ((ilen x0).toNat - (ilen (List.take (x1.toNat - Int.toNat 0) x0 ++ List.take ((ilen x0).toNat - x2.toNat) (List.drop x2.toNat x0))).toNat) ((List.take (x1.toNat - Int.toNat 0) x0 ++ List.take ((ilen x0).toNat - x2.toNat) (List.drop x2.toNat x0)).length - (ilen (List.take (x1.toNat - Int.toNat 0) x0 ++ List.take ((ilen x0).toNat - x2.toNat) (List.drop x2.toNat x0))).toNat)) (zeroOf ((Ty.int IntKind.i64).pair ((Ty.int IntKind.i64).pair ((Ty.int IntKind.i64).pair (Ty.str.pair ((Ty.int IntKind.i64).pair (Ty.str.pair (Ty.int IntKind.i64)))))))) ++ List.drop ((ilen (List.take (x1.toNat - Int.toNat 0) x0 ++ List.take ((ilen x0).toNat - x2.toNat) (List.drop x2.toNat x0))).toNat + ((ilen x0).toNat - (ilen (List.take (x1.toNat - Int.toNat 0) x0 ++ List.take ((ilen x0).toNat - x2.toNat) (List.drop x2.toNat x0))).toNat)) (List.take (x1.toNat - Int.toNat 0) x0 ++ List.take ((ilen x0).toNat - x2.toNat) (List.drop x2.toNat x0)))
                                        else none
                                      else none
                                  else none
                                else none
                              else none
                            else none
                          else none
                        else none
                    else none
                  else none
                else none
            else none
        else none
      else none
    else none
  else none := (jobs_Delete_raw x0 x1 x2).trans (by kernel_rfl)
noncomputable def jobs_Delete_sig : Sig := { pm := [(false, [(true, .slice (.pair (.int .i64) (.pair (.int .i64) (.pair (.int .i64) (.pair (.str) (.pair (.int .i64) (.pair (.str) (.int .i64))))))))]), (false, [(false, .int .i64)]), (false, [(false, .int .i64)])], rm := [(false, [(true, .slice (.pair (.int .i64) (.pair (.int .i64) (.pair (.int .i64) (.pair (.str) (.pair (.int .i64) (.pair (.str) (.int .i64))))))))])], f := fun | [⟨.slice (.pair (.int .i64) (.pair (.int .i64) (.pair (.int .i64) (.pair (.str) (.pair (.int .i64) (.pair (.str) (.int .i64))))))), x0⟩, ⟨.int .i64, x1⟩, ⟨.int .i64, x2⟩] => .yes _ (jobs_Delete x0 x1 x2) jobs_Delete_mk | _ => .no }
theorem jobs_Delete_ok : SigOk Try.prog 38 jobs_Delete_sig := by
  refine contract_of (C := jobs_Delete_C) (d := 3) S29_ok (callable_ex (by kernel_rfl)) ?_
  intro dvs
  unfold jobs_Delete_sig
  dsimp only
  split
  · refine .inr ⟨_, jobs_Delete_un, jobs_Delete_mk, congrArg (fun o => Cl.yes _ o _) (jobs_Delete_raw _ _ _), ?_⟩
    intro ds x h
    unfold jobs_Delete_un at h
    split at h
    · cases h; rfl
    · cases h
  · exact .inl rfl
noncomputable def S30 : List (Nat × Sig) := (38, jobs_Delete_sig) :: S29
theorem S30_ok : ListOk Try.prog S30 := ListOk.cons S29_ok jobs_Delete_ok
noncomputable def jobs_Done_C : Cfg := { P := Try.prog, sig := lookSig S30, hb := fun _ _ => none, hr := fun _ _ => none }
noncomputable def jobs_Done_un : List DV → Option ((List (Int × Int × Int × ByteArray × Int × ByteArray × Int)) × Int × Int × Int × ByteArray × Int × ByteArray × Int × Int) := fun | [⟨.slice (.pair (.int .i64) (.pair (.int .i64) (.pair (.int .i64) (.pair (.str) (.pair (.int .i64) (.pair (.str) (.int .i64))))))), r0⟩, ⟨.int .i64, r1⟩, ⟨.int .i64, r2⟩, ⟨.int .i64, r3⟩, ⟨.str, r4⟩, ⟨.int .i64, r5⟩, ⟨.str, r6⟩, ⟨.int .i64, r7⟩, ⟨.int .i64, r8⟩] => some (r0, r1, r2, r3, r4, r5, r6, r7, r8) | _ => none
noncomputable def jobs_Done_mk : ((List (Int × Int × Int × ByteArray × Int × ByteArray × Int)) × Int × Int × Int × ByteArray × Int × ByteArray × Int × Int) → List DV := fun ⟨r0, r1, r2, r3, r4, r5, r6, r7, r8⟩ => [⟨.slice (.pair (.int .i64) (.pair (.int .i64) (.pair (.int .i64) (.pair (.str) (.pair (.int .i64) (.pair (.str) (.int .i64))))))), r0⟩, ⟨.int .i64, r1⟩, ⟨.int .i64, r2⟩, ⟨.int .i64, r3⟩, ⟨.str, r4⟩, ⟨.int .i64, r5⟩, ⟨.str, r6⟩, ⟨.int .i64, r7⟩, ⟨.int .i64, r8⟩]
theorem jobs_Done_ex : ∃ f : (List (Int × Int × Int × ByteArray × Int × ByteArray × Int)) → (Int) → (ByteArray) → (Int) → Option ((List (Int × Int × Int × ByteArray × Int × ByteArray × Int)) × Int × Int × Int × ByteArray × Int × ByteArray × Int × Int), f = fun (x0 : List (Int × Int × Int × ByteArray × Int × ByteArray × Int)) (x1 : Int) (x2 : ByteArray) (x3 : Int) => funRun jobs_Done_C 3 20 [(false, [(false, .slice (.pair (.int .i64) (.pair (.int .i64) (.pair (.int .i64) (.pair (.str) (.pair (.int .i64) (.pair (.str) (.int .i64))))))))]), (false, [(false, .int .i64)]), (false, [(false, .str)]), (false, [(false, .int .i64)])] [(false, [(true, .slice (.pair (.int .i64) (.pair (.int .i64) (.pair (.int .i64) (.pair (.str) (.pair (.int .i64) (.pair (.str) (.int .i64))))))))]), (true, [(false, .int .i64), (false, .int .i64), (false, .int .i64), (false, .str), (false, .int .i64), (false, .str), (false, .int .i64)]), (false, [(false, .int .i64)])] jobs_Done_un [⟨.slice (.pair (.int .i64) (.pair (.int .i64) (.pair (.int .i64) (.pair (.str) (.pair (.int .i64) (.pair (.str) (.int .i64))))))), x0⟩, ⟨.int .i64, x1⟩, ⟨.str, x2⟩, ⟨.int .i64, x3⟩] := ⟨_, rfl⟩
noncomputable def jobs_Done : (List (Int × Int × Int × ByteArray × Int × ByteArray × Int)) → (Int) → (ByteArray) → (Int) → Option ((List (Int × Int × Int × ByteArray × Int × ByteArray × Int)) × Int × Int × Int × ByteArray × Int × ByteArray × Int × Int) := jobs_Done_ex.choose
theorem jobs_Done_raw (x0 : List (Int × Int × Int × ByteArray × Int × ByteArray × Int)) (x1 : Int) (x2 : ByteArray) (x3 : Int) : jobs_Done x0 x1 x2 x3 = funRun jobs_Done_C 3 20 [(false, [(false, .slice (.pair (.int .i64) (.pair (.int .i64) (.pair (.int .i64) (.pair (.str) (.pair (.int .i64) (.pair (.str) (.int .i64))))))))]), (false, [(false, .int .i64)]), (false, [(false, .str)]), (false, [(false, .int .i64)])] [(false, [(true, .slice (.pair (.int .i64) (.pair (.int .i64) (.pair (.int .i64) (.pair (.str) (.pair (.int .i64) (.pair (.str) (.int .i64))))))))]), (true, [(false, .int .i64), (false, .int .i64), (false, .int .i64), (false, .str), (false, .int .i64), (false, .str), (false, .int .i64)]), (false, [(false, .int .i64)])] jobs_Done_un [⟨.slice (.pair (.int .i64) (.pair (.int .i64) (.pair (.int .i64) (.pair (.str) (.pair (.int .i64) (.pair (.str) (.int .i64))))))), x0⟩, ⟨.int .i64, x1⟩, ⟨.str, x2⟩, ⟨.int .i64, x3⟩] := congrFun (congrFun (congrFun (congrFun (jobs_Done_ex.choose_spec) x0) x1) x2) x3
theorem jobs_Done_eq (x0 : List (Int × Int × Int × ByteArray × Int × ByteArray × Int)) (x1 : Int) (x2 : ByteArray) (x3 : Int) : jobs_Done x0 x1 x2 x3 =
  (jobs_held x0 x1 x2 x3).bind fun val0 =>
  bif val0.2 != 0
    then some (([]), ((0), ((0), ((0), (((⟨#[]⟩ : ByteArray)), ((0), (((⟨#[]⟩ : ByteArray)), ((0), (val0.2)))))))))
    else (jobs_Clone x0).bind fun val4 =>
      (jobs_Delete val4 val0.1 (IntKind.i64.wrap (val0.1 + 1))).bind fun val6 =>
        bif decide (0 ≤ val0.1)
          then (x0[val0.1.toNat]?).bind fun val10 =>
            some ((val6), ((val10.fst), ((val10.snd.fst), ((val10.snd.snd.fst), ((val10.snd.snd.snd.fst), ((val10.snd.snd.snd.snd.fst), ((val10.snd.snd.snd.snd.snd.fst), ((val10.snd.snd.snd.snd.snd.snd), (0)))))))))
          else none := (jobs_Done_raw x0 x1 x2 x3).trans (by kernel_rfl)
noncomputable def jobs_Done_sig : Sig := { pm := [(false, [(false, .slice (.pair (.int .i64) (.pair (.int .i64) (.pair (.int .i64) (.pair (.str) (.pair (.int .i64) (.pair (.str) (.int .i64))))))))]), (false, [(false, .int .i64)]), (false, [(false, .str)]), (false, [(false, .int .i64)])], rm := [(false, [(true, .slice (.pair (.int .i64) (.pair (.int .i64) (.pair (.int .i64) (.pair (.str) (.pair (.int .i64) (.pair (.str) (.int .i64))))))))]), (true, [(false, .int .i64), (false, .int .i64), (false, .int .i64), (false, .str), (false, .int .i64), (false, .str), (false, .int .i64)]), (false, [(false, .int .i64)])], f := fun | [⟨.slice (.pair (.int .i64) (.pair (.int .i64) (.pair (.int .i64) (.pair (.str) (.pair (.int .i64) (.pair (.str) (.int .i64))))))), x0⟩, ⟨.int .i64, x1⟩, ⟨.str, x2⟩, ⟨.int .i64, x3⟩] => .yes _ (jobs_Done x0 x1 x2 x3) jobs_Done_mk | _ => .no }
theorem jobs_Done_ok : SigOk Try.prog 20 jobs_Done_sig := by
  refine contract_of (C := jobs_Done_C) (d := 3) S30_ok (callable_ex (by kernel_rfl)) ?_
  intro dvs
  unfold jobs_Done_sig
  dsimp only
  split
  · refine .inr ⟨_, jobs_Done_un, jobs_Done_mk, congrArg (fun o => Cl.yes _ o _) (jobs_Done_raw _ _ _ _), ?_⟩
    intro ds x h
    unfold jobs_Done_un at h
    split at h
    · cases h; rfl
    · cases h
  · exact .inl rfl
noncomputable def S31 : List (Nat × Sig) := (20, jobs_Done_sig) :: S30
theorem S31_ok : ListOk Try.prog S31 := ListOk.cons S30_ok jobs_Done_ok
noncomputable def jobs_Fail_C : Cfg := { P := Try.prog, sig := lookSig S31, hb := fun _ _ => none, hr := fun _ _ => none }
noncomputable def jobs_Fail_un : List DV → Option ((List (Int × Int × Int × ByteArray × Int × ByteArray × Int)) × Int × Int × Int × ByteArray × Int × ByteArray × Int × Int) := fun | [⟨.slice (.pair (.int .i64) (.pair (.int .i64) (.pair (.int .i64) (.pair (.str) (.pair (.int .i64) (.pair (.str) (.int .i64))))))), r0⟩, ⟨.int .i64, r1⟩, ⟨.int .i64, r2⟩, ⟨.int .i64, r3⟩, ⟨.str, r4⟩, ⟨.int .i64, r5⟩, ⟨.str, r6⟩, ⟨.int .i64, r7⟩, ⟨.int .i64, r8⟩] => some (r0, r1, r2, r3, r4, r5, r6, r7, r8) | _ => none
noncomputable def jobs_Fail_mk : ((List (Int × Int × Int × ByteArray × Int × ByteArray × Int)) × Int × Int × Int × ByteArray × Int × ByteArray × Int × Int) → List DV := fun ⟨r0, r1, r2, r3, r4, r5, r6, r7, r8⟩ => [⟨.slice (.pair (.int .i64) (.pair (.int .i64) (.pair (.int .i64) (.pair (.str) (.pair (.int .i64) (.pair (.str) (.int .i64))))))), r0⟩, ⟨.int .i64, r1⟩, ⟨.int .i64, r2⟩, ⟨.int .i64, r3⟩, ⟨.str, r4⟩, ⟨.int .i64, r5⟩, ⟨.str, r6⟩, ⟨.int .i64, r7⟩, ⟨.int .i64, r8⟩]
theorem jobs_Fail_ex : ∃ f : (List (Int × Int × Int × ByteArray × Int × ByteArray × Int)) → (Int) → (ByteArray) → (Int) → Option ((List (Int × Int × Int × ByteArray × Int × ByteArray × Int)) × Int × Int × Int × ByteArray × Int × ByteArray × Int × Int), f = fun (x0 : List (Int × Int × Int × ByteArray × Int × ByteArray × Int)) (x1 : Int) (x2 : ByteArray) (x3 : Int) => funRun jobs_Fail_C 3 22 [(false, [(false, .slice (.pair (.int .i64) (.pair (.int .i64) (.pair (.int .i64) (.pair (.str) (.pair (.int .i64) (.pair (.str) (.int .i64))))))))]), (false, [(false, .int .i64)]), (false, [(false, .str)]), (false, [(false, .int .i64)])] [(false, [(true, .slice (.pair (.int .i64) (.pair (.int .i64) (.pair (.int .i64) (.pair (.str) (.pair (.int .i64) (.pair (.str) (.int .i64))))))))]), (true, [(false, .int .i64), (false, .int .i64), (false, .int .i64), (false, .str), (false, .int .i64), (false, .str), (false, .int .i64)]), (false, [(false, .int .i64)])] jobs_Fail_un [⟨.slice (.pair (.int .i64) (.pair (.int .i64) (.pair (.int .i64) (.pair (.str) (.pair (.int .i64) (.pair (.str) (.int .i64))))))), x0⟩, ⟨.int .i64, x1⟩, ⟨.str, x2⟩, ⟨.int .i64, x3⟩] := ⟨_, rfl⟩
noncomputable def jobs_Fail : (List (Int × Int × Int × ByteArray × Int × ByteArray × Int)) → (Int) → (ByteArray) → (Int) → Option ((List (Int × Int × Int × ByteArray × Int × ByteArray × Int)) × Int × Int × Int × ByteArray × Int × ByteArray × Int × Int) := jobs_Fail_ex.choose
theorem jobs_Fail_raw (x0 : List (Int × Int × Int × ByteArray × Int × ByteArray × Int)) (x1 : Int) (x2 : ByteArray) (x3 : Int) : jobs_Fail x0 x1 x2 x3 = funRun jobs_Fail_C 3 22 [(false, [(false, .slice (.pair (.int .i64) (.pair (.int .i64) (.pair (.int .i64) (.pair (.str) (.pair (.int .i64) (.pair (.str) (.int .i64))))))))]), (false, [(false, .int .i64)]), (false, [(false, .str)]), (false, [(false, .int .i64)])] [(false, [(true, .slice (.pair (.int .i64) (.pair (.int .i64) (.pair (.int .i64) (.pair (.str) (.pair (.int .i64) (.pair (.str) (.int .i64))))))))]), (true, [(false, .int .i64), (false, .int .i64), (false, .int .i64), (false, .str), (false, .int .i64), (false, .str), (false, .int .i64)]), (false, [(false, .int .i64)])] jobs_Fail_un [⟨.slice (.pair (.int .i64) (.pair (.int .i64) (.pair (.int .i64) (.pair (.str) (.pair (.int .i64) (.pair (.str) (.int .i64))))))), x0⟩, ⟨.int .i64, x1⟩, ⟨.str, x2⟩, ⟨.int .i64, x3⟩] := congrFun (congrFun (congrFun (congrFun (jobs_Fail_ex.choose_spec) x0) x1) x2) x3
theorem jobs_Fail_eq (x0 : List (Int × Int × Int × ByteArray × Int × ByteArray × Int)) (x1 : Int) (x2 : ByteArray) (x3 : Int) : jobs_Fail x0 x1 x2 x3 =
  (jobs_held x0 x1 x2 x3).bind fun val0 =>
  bif val0.2 != 0
    then some (([]), ((0), ((0), ((0), (((⟨#[]⟩ : ByteArray)), ((0), (((⟨#[]⟩ : ByteArray)), ((0), (val0.2)))))))))
    else (jobs_Clone x0).bind fun val4 =>
      bif decide (0 ≤ val0.1)
        then bif decide (val0.1 < ilen val4)
          then (val4[val0.1.toNat]?).bind fun val10 =>
            bif decide (0 ≤ val0.1)
              then bif decide (val0.1 < ilen (val4.set val0.1.toNat (val10.fst, val10.snd.fst, val10.snd.snd.fst, val10.snd.snd.snd.fst, val10.snd.snd.snd.snd.fst, (⟨#[]⟩ : ByteArray), val10.snd.snd.snd.snd.snd.snd)))
                then ((val4.set val0.1.toNat (val10.fst, val10.snd.fst, val10.snd.snd.fst, val10.snd.snd.snd.fst, val10.snd.snd.snd.snd.fst, (⟨#[]⟩ : ByteArray), val10.snd.snd.snd.snd.snd.snd))[val0.1.toNat]?).bind fun val16 =>
                  bif decide (0 ≤ val0.1)
                    then bif decide (val0.1 < ilen ((val4.set val0.1.toNat (val10.fst, val10.snd.fst, val10.snd.snd.fst, val10.snd.snd.snd.fst, val10.snd.snd.snd.snd.fst, (⟨#[]⟩ : ByteArray), val10.snd.snd.snd.snd.snd.snd)).set val0.1.toNat (val16.fst, val16.snd.fst, val16.snd.snd.fst, val16.snd.snd.snd.fst, val16.snd.snd.snd.snd.fst, val16.snd.snd.snd.snd.snd.fst, 0)))
                      then (((val4.set val0.1.toNat (val10.fst, val10.snd.fst, val10.snd.snd.fst, val10.snd.snd.snd.fst, val10.snd.snd.snd.snd.fst, (⟨#[]⟩ : ByteArray), val10.snd.snd.snd.snd.snd.snd)).set val0.1.toNat (val16.fst, val16.snd.fst, val16.snd.snd.fst, val16.snd.snd.snd.fst, val16.snd.snd.snd.snd.fst, val16.snd.snd.snd.snd.snd.fst, 0))[val0.1.toNat]?).bind fun val22 =>
                        bif decide (0 ≤ val0.1)
                          then bif decide (val0.1 < ilen ((val4.set val0.1.toNat (val10.fst, val10.snd.fst, val10.snd.snd.fst, val10.snd.snd.snd.fst, val10.snd.snd.snd.snd.fst, (⟨#[]⟩ : ByteArray), val10.snd.snd.snd.snd.snd.snd)).set val0.1.toNat (val16.fst, val16.snd.fst, val16.snd.snd.fst, val16.snd.snd.snd.fst, val16.snd.snd.snd.snd.fst, val16.snd.snd.snd.snd.snd.fst, 0)))
                            then (((val4.set val0.1.toNat (val10.fst, val10.snd.fst, val10.snd.snd.fst, val10.snd.snd.snd.fst, val10.snd.snd.snd.snd.fst, (⟨#[]⟩ : ByteArray), val10.snd.snd.snd.snd.snd.snd)).set val0.1.toNat (val16.fst, val16.snd.fst, val16.snd.snd.fst, val16.snd.snd.snd.fst, val16.snd.snd.snd.snd.fst, val16.snd.snd.snd.snd.snd.fst, 0))[val0.1.toNat]?).bind fun val28 =>
                              bif decide (0 ≤ val0.1)
                                then bif decide (val0.1 < ilen (((val4.set val0.1.toNat (val10.fst, val10.snd.fst, val10.snd.snd.fst, val10.snd.snd.snd.fst, val10.snd.snd.snd.snd.fst, (⟨#[]⟩ : ByteArray), val10.snd.snd.snd.snd.snd.snd)).set val0.1.toNat (val16.fst, val16.snd.fst, val16.snd.snd.fst, val16.snd.snd.snd.fst, val16.snd.snd.snd.snd.fst, val16.snd.snd.snd.snd.snd.fst, 0)).set val0.1.toNat (val28.fst, val28.snd.fst, val28.snd.snd.fst, val28.snd.snd.snd.fst, IntKind.i64.wrap (val22.snd.snd.snd.snd.fst - 1), val28.snd.snd.snd.snd.snd)))
                                  then ((((val4.set val0.1.toNat (val10.fst, val10.snd.fst, val10.snd.snd.fst, val10.snd.snd.snd.fst, val10.snd.snd.snd.snd.fst, (⟨#[]⟩ : ByteArray), val10.snd.snd.snd.snd.snd.snd)).set val0.1.toNat (val16.fst, val16.snd.fst, val16.snd.snd.fst, val16.snd.snd.snd.fst, val16.snd.snd.snd.snd.fst, val16.snd.snd.snd.snd.snd.fst, 0)).set val0.1.toNat (val28.fst, val28.snd.fst, val28.snd.snd.fst, val28.snd.snd.snd.fst, IntKind.i64.wrap (val22.snd.snd.snd.snd.fst - 1), val28.snd.snd.snd.snd.snd))[val0.1.toNat]?).bind fun val34 =>
                                    some ((((val4.set val0.1.toNat (val10.fst, val10.snd.fst, val10.snd.snd.fst, val10.snd.snd.snd.fst, val10.snd.snd.snd.snd.fst, (⟨#[]⟩ : ByteArray), val10.snd.snd.snd.snd.snd.snd)).set val0.1.toNat (val16.fst, val16.snd.fst, val16.snd.snd.fst, val16.snd.snd.snd.fst, val16.snd.snd.snd.snd.fst, val16.snd.snd.snd.snd.snd.fst, 0)).set val0.1.toNat (val28.fst, val28.snd.fst, val28.snd.snd.fst, val28.snd.snd.snd.fst, IntKind.i64.wrap (val22.snd.snd.snd.snd.fst - 1), val28.snd.snd.snd.snd.snd)), ((val34.fst), ((val34.snd.fst), ((val34.snd.snd.fst), ((val34.snd.snd.snd.fst), ((val34.snd.snd.snd.snd.fst), ((val34.snd.snd.snd.snd.snd.fst), ((val34.snd.snd.snd.snd.snd.snd), (0)))))))))
                                  else none
                                else none
                            else none
                          else none
                      else none
                    else none
                else none
              else none
          else none
        else none := (jobs_Fail_raw x0 x1 x2 x3).trans (by kernel_rfl)
noncomputable def jobs_Fail_sig : Sig := { pm := [(false, [(false, .slice (.pair (.int .i64) (.pair (.int .i64) (.pair (.int .i64) (.pair (.str) (.pair (.int .i64) (.pair (.str) (.int .i64))))))))]), (false, [(false, .int .i64)]), (false, [(false, .str)]), (false, [(false, .int .i64)])], rm := [(false, [(true, .slice (.pair (.int .i64) (.pair (.int .i64) (.pair (.int .i64) (.pair (.str) (.pair (.int .i64) (.pair (.str) (.int .i64))))))))]), (true, [(false, .int .i64), (false, .int .i64), (false, .int .i64), (false, .str), (false, .int .i64), (false, .str), (false, .int .i64)]), (false, [(false, .int .i64)])], f := fun | [⟨.slice (.pair (.int .i64) (.pair (.int .i64) (.pair (.int .i64) (.pair (.str) (.pair (.int .i64) (.pair (.str) (.int .i64))))))), x0⟩, ⟨.int .i64, x1⟩, ⟨.str, x2⟩, ⟨.int .i64, x3⟩] => .yes _ (jobs_Fail x0 x1 x2 x3) jobs_Fail_mk | _ => .no }
theorem jobs_Fail_ok : SigOk Try.prog 22 jobs_Fail_sig := by
  refine contract_of (C := jobs_Fail_C) (d := 3) S31_ok (callable_ex (by kernel_rfl)) ?_
  intro dvs
  unfold jobs_Fail_sig
  dsimp only
  split
  · refine .inr ⟨_, jobs_Fail_un, jobs_Fail_mk, congrArg (fun o => Cl.yes _ o _) (jobs_Fail_raw _ _ _ _), ?_⟩
    intro ds x h
    unfold jobs_Fail_un at h
    split at h
    · cases h; rfl
    · cases h
  · exact .inl rfl
noncomputable def S32 : List (Nat × Sig) := (22, jobs_Fail_sig) :: S31
theorem S32_ok : ListOk Try.prog S32 := ListOk.cons S31_ok jobs_Fail_ok
noncomputable def jobs_Again_C : Cfg := { P := Try.prog, sig := lookSig S32, hb := fun _ _ => none, hr := fun _ _ => none }
noncomputable def jobs_Again_un : List DV → Option ((List (Int × Int × Int × ByteArray × Int × ByteArray × Int)) × Int) := fun | [⟨.slice (.pair (.int .i64) (.pair (.int .i64) (.pair (.int .i64) (.pair (.str) (.pair (.int .i64) (.pair (.str) (.int .i64))))))), r0⟩, ⟨.int .i64, r1⟩] => some (r0, r1) | _ => none
noncomputable def jobs_Again_mk : ((List (Int × Int × Int × ByteArray × Int × ByteArray × Int)) × Int) → List DV := fun ⟨r0, r1⟩ => [⟨.slice (.pair (.int .i64) (.pair (.int .i64) (.pair (.int .i64) (.pair (.str) (.pair (.int .i64) (.pair (.str) (.int .i64))))))), r0⟩, ⟨.int .i64, r1⟩]
theorem jobs_Again_ex : ∃ f : (List (Int × Int × Int × ByteArray × Int × ByteArray × Int)) → (Int) → (Int) → Option ((List (Int × Int × Int × ByteArray × Int × ByteArray × Int)) × Int), f = fun (x0 : List (Int × Int × Int × ByteArray × Int × ByteArray × Int)) (x1 : Int) (x2 : Int) => funRun jobs_Again_C 3 24 [(false, [(false, .slice (.pair (.int .i64) (.pair (.int .i64) (.pair (.int .i64) (.pair (.str) (.pair (.int .i64) (.pair (.str) (.int .i64))))))))]), (false, [(false, .int .i64)]), (false, [(false, .int .i64)])] [(false, [(true, .slice (.pair (.int .i64) (.pair (.int .i64) (.pair (.int .i64) (.pair (.str) (.pair (.int .i64) (.pair (.str) (.int .i64))))))))]), (false, [(false, .int .i64)])] jobs_Again_un [⟨.slice (.pair (.int .i64) (.pair (.int .i64) (.pair (.int .i64) (.pair (.str) (.pair (.int .i64) (.pair (.str) (.int .i64))))))), x0⟩, ⟨.int .i64, x1⟩, ⟨.int .i64, x2⟩] := ⟨_, rfl⟩
noncomputable def jobs_Again : (List (Int × Int × Int × ByteArray × Int × ByteArray × Int)) → (Int) → (Int) → Option ((List (Int × Int × Int × ByteArray × Int × ByteArray × Int)) × Int) := jobs_Again_ex.choose
theorem jobs_Again_raw (x0 : List (Int × Int × Int × ByteArray × Int × ByteArray × Int)) (x1 : Int) (x2 : Int) : jobs_Again x0 x1 x2 = funRun jobs_Again_C 3 24 [(false, [(false, .slice (.pair (.int .i64) (.pair (.int .i64) (.pair (.int .i64) (.pair (.str) (.pair (.int .i64) (.pair (.str) (.int .i64))))))))]), (false, [(false, .int .i64)]), (false, [(false, .int .i64)])] [(false, [(true, .slice (.pair (.int .i64) (.pair (.int .i64) (.pair (.int .i64) (.pair (.str) (.pair (.int .i64) (.pair (.str) (.int .i64))))))))]), (false, [(false, .int .i64)])] jobs_Again_un [⟨.slice (.pair (.int .i64) (.pair (.int .i64) (.pair (.int .i64) (.pair (.str) (.pair (.int .i64) (.pair (.str) (.int .i64))))))), x0⟩, ⟨.int .i64, x1⟩, ⟨.int .i64, x2⟩] := congrFun (congrFun (congrFun (jobs_Again_ex.choose_spec) x0) x1) x2
theorem jobs_Again_eq (x0 : List (Int × Int × Int × ByteArray × Int × ByteArray × Int)) (x1 : Int) (x2 : Int) : jobs_Again x0 x1 x2 =
  (jobs_find x0 x1).bind fun val0 =>
  bif decide (x2 < 1)
    then some (([]), (2))
    else bif decide (x2 > 9)
      then some (([]), (2))
      else bif !val0.2
        then some (([]), (9))
        else bif decide (0 ≤ val0.1)
          then (x0[val0.1.toNat]?).bind fun val10 =>
            bif decide (val10.snd.snd.snd.snd.fst > 0)
              then some (([]), (11))
              else (jobs_Clone x0).bind fun val14 =>
                bif decide (0 ≤ val0.1)
                  then bif decide (val0.1 < ilen val14)
                    then (val14[val0.1.toNat]?).bind fun val20 =>
                      some ((val14.set val0.1.toNat (val20.fst, val20.snd.fst, val20.snd.snd.fst, val20.snd.snd.snd.fst, x2, val20.snd.snd.snd.snd.snd)), (0))
                    else none
                  else none
          else none := (jobs_Again_raw x0 x1 x2).trans (by kernel_rfl)
noncomputable def jobs_Again_sig : Sig := { pm := [(false, [(false, .slice (.pair (.int .i64) (.pair (.int .i64) (.pair (.int .i64) (.pair (.str) (.pair (.int .i64) (.pair (.str) (.int .i64))))))))]), (false, [(false, .int .i64)]), (false, [(false, .int .i64)])], rm := [(false, [(true, .slice (.pair (.int .i64) (.pair (.int .i64) (.pair (.int .i64) (.pair (.str) (.pair (.int .i64) (.pair (.str) (.int .i64))))))))]), (false, [(false, .int .i64)])], f := fun | [⟨.slice (.pair (.int .i64) (.pair (.int .i64) (.pair (.int .i64) (.pair (.str) (.pair (.int .i64) (.pair (.str) (.int .i64))))))), x0⟩, ⟨.int .i64, x1⟩, ⟨.int .i64, x2⟩] => .yes _ (jobs_Again x0 x1 x2) jobs_Again_mk | _ => .no }
theorem jobs_Again_ok : SigOk Try.prog 24 jobs_Again_sig := by
  refine contract_of (C := jobs_Again_C) (d := 3) S32_ok (callable_ex (by kernel_rfl)) ?_
  intro dvs
  unfold jobs_Again_sig
  dsimp only
  split
  · refine .inr ⟨_, jobs_Again_un, jobs_Again_mk, congrArg (fun o => Cl.yes _ o _) (jobs_Again_raw _ _ _), ?_⟩
    intro ds x h
    unfold jobs_Again_un at h
    split at h
    · cases h; rfl
    · cases h
  · exact .inl rfl
noncomputable def S33 : List (Nat × Sig) := (24, jobs_Again_sig) :: S32
theorem S33_ok : ListOk Try.prog S33 := ListOk.cons S32_ok jobs_Again_ok
noncomputable def pack_ReadUint_C : Cfg := { P := Try.prog, sig := lookSig S33, hb := fun f b => bif Nat.beq f 43 && Nat.beq b 0 then some { tmps := [0, 5, 10, 11], obs := [], nils := [], kl := [] } else none, hr := fun _ _ => none }
noncomputable def pack_ReadUint_un : List DV → Option (Int × (List Int) × Int) := fun | [⟨.int .u64, r0⟩, ⟨.slice (.int .u8), r1⟩, ⟨.int .i64, r2⟩] => some (r0, r1, r2) | _ => none
noncomputable def pack_ReadUint_mk : (Int × (List Int) × Int) → List DV := fun ⟨r0, r1, r2⟩ => [⟨.int .u64, r0⟩, ⟨.slice (.int .u8), r1⟩, ⟨.int .i64, r2⟩]
theorem pack_ReadUint_ex : ∃ f : (List Int) → Option (Int × (List Int) × Int), f = fun (x0 : List Int) => funRun pack_ReadUint_C 3 43 [(false, [(false, .slice (.int .u8))])] [(false, [(false, .int .u64)]), (false, [(false, .slice (.int .u8))]), (false, [(false, .int .i64)])] pack_ReadUint_un [⟨.slice (.int .u8), x0⟩] := ⟨_, rfl⟩
noncomputable def pack_ReadUint : (List Int) → Option (Int × (List Int) × Int) := pack_ReadUint_ex.choose
theorem pack_ReadUint_raw (x0 : List Int) : pack_ReadUint x0 = funRun pack_ReadUint_C 3 43 [(false, [(false, .slice (.int .u8))])] [(false, [(false, .int .u64)]), (false, [(false, .slice (.int .u8))]), (false, [(false, .int .i64)])] pack_ReadUint_un [⟨.slice (.int .u8), x0⟩] := congrFun (pack_ReadUint_ex.choose_spec) x0
noncomputable def pack_ReadUint_l0 (y0 : List (Int)) (y1 : Int) (y2 : Int) (y3 : Int) : Option (Int × (List Int) × Int) := loopAt pack_ReadUint_C 3 43 [(false, [(false, .int .u64)]), (false, [(false, .slice (.int .u8))]), (false, [(false, .int .i64)])] pack_ReadUint_un [true, true, false, true, false] (St.ofLists [(0, .fz (Ty.int IntKind.u8) y0 false false), (5, .int .u64 y1), (10, .int .i64 y2), (11, .int .i64 y3)] [] [])
theorem pack_ReadUint_eq (x0 : List Int) : pack_ReadUint x0 =
  pack_ReadUint_l0 (x0) (0) (if 10 < ilen x0 then 10 else ilen x0) (0) := (pack_ReadUint_raw x0).trans (by kernel_rfl)
theorem pack_ReadUint_l0_eq (y0 : List (Int)) (y1 : Int) (y2 : Int) (y3 : Int) : pack_ReadUint_l0 y0 y1 y2 y3 =
  bif decide (y3 < y2)
  then bif decide (0 ≤ y3)
    then (y0[y3.toNat]?).bind fun val4 =>
      bif y3 == 9
        then bif decide (IntKind.u64.wrap val4 > 1)
          then some ((0), (([]), (2)))
          else bif decide (IntKind.i64.wrap (7 * y3) < 0)
            then none
            else bif decide (IntKind.u64.wrap val4 < 128)
              then bif IntKind.u64.wrap val4 == 0
                then bif decide (y3 > 0)
                  then some ((0), (([]), (2)))
                  else bif decide (0 ≤ IntKind.i64.wrap (y3 + 1))
                    then bif decide (IntKind.i64.wrap (y3 + 1) ≤ ilen y0)
                      then bif decide (ilen y0 ≤ ilen y0)
                        then some ((IntKind.u64.wrap ↑(BitVec.ofInt IntKind.u64.bits y1 ||| BitVec.ofInt IntKind.u64.bits (IntKind.u64.wrap (IntKind.u64.wrap ↑(BitVec.ofInt IntKind.u64.bits (IntKind.u64.wrap val4) &&& BitVec.ofInt IntKind.u64.bits 127).toNat * 2 ^ min (IntKind.i64.wrap (7 * y3)).toNat IntKind.u64.bits))).toNat), ((List.drop (IntKind.i64.wrap (y3 + 1)).toNat (List.take (ilen y0).toNat y0)), (0)))
                        else none
                      else none
                    else none
                else bif decide (0 ≤ IntKind.i64.wrap (y3 + 1))
                  then bif decide (IntKind.i64.wrap (y3 + 1) ≤ ilen y0)
                    then bif decide (ilen y0 ≤ ilen y0)
                      then some ((IntKind.u64.wrap ↑(BitVec.ofInt IntKind.u64.bits y1 ||| BitVec.ofInt IntKind.u64.bits (IntKind.u64.wrap (IntKind.u64.wrap ↑(BitVec.ofInt IntKind.u64.bits (IntKind.u64.wrap val4) &&& BitVec.ofInt IntKind.u64.bits 127).toNat * 2 ^ min (IntKind.i64.wrap (7 * y3)).toNat IntKind.u64.bits))).toNat), ((List.drop (IntKind.i64.wrap (y3 + 1)).toNat (List.take (ilen y0).toNat y0)), (0)))
                      else none
                    else none
                  else none
              else pack_ReadUint_l0 (y0) (IntKind.u64.wrap ↑(BitVec.ofInt IntKind.u64.bits y1 ||| BitVec.ofInt IntKind.u64.bits (IntKind.u64.wrap (IntKind.u64.wrap ↑(BitVec.ofInt IntKind.u64.bits (IntKind.u64.wrap val4) &&& BitVec.ofInt IntKind.u64.bits 127).toNat * 2 ^ min (IntKind.i64.wrap (7 * y3)).toNat IntKind.u64.bits))).toNat) (y2) (IntKind.i64.wrap (y3 + 1))
        else bif decide (IntKind.i64.wrap (7 * y3) < 0)
          then none
          else bif decide (IntKind.u64.wrap val4 < 128)
            then bif IntKind.u64.wrap val4 == 0
              then bif decide (y3 > 0)
                then some ((0), (([]), (2)))
                else bif decide (0 ≤ IntKind.i64.wrap (y3 + 1))
                  then bif decide (IntKind.i64.wrap (y3 + 1) ≤ ilen y0)
                    then bif decide (ilen y0 ≤ ilen y0)
                      then some ((IntKind.u64.wrap ↑(BitVec.ofInt IntKind.u64.bits y1 ||| BitVec.ofInt IntKind.u64.bits (IntKind.u64.wrap (IntKind.u64.wrap ↑(BitVec.ofInt IntKind.u64.bits (IntKind.u64.wrap val4) &&& BitVec.ofInt IntKind.u64.bits 127).toNat * 2 ^ min (IntKind.i64.wrap (7 * y3)).toNat IntKind.u64.bits))).toNat), ((List.drop (IntKind.i64.wrap (y3 + 1)).toNat (List.take (ilen y0).toNat y0)), (0)))
                      else none
                    else none
                  else none
              else bif decide (0 ≤ IntKind.i64.wrap (y3 + 1))
                then bif decide (IntKind.i64.wrap (y3 + 1) ≤ ilen y0)
                  then bif decide (ilen y0 ≤ ilen y0)
                    then some ((IntKind.u64.wrap ↑(BitVec.ofInt IntKind.u64.bits y1 ||| BitVec.ofInt IntKind.u64.bits (IntKind.u64.wrap (IntKind.u64.wrap ↑(BitVec.ofInt IntKind.u64.bits (IntKind.u64.wrap val4) &&& BitVec.ofInt IntKind.u64.bits 127).toNat * 2 ^ min (IntKind.i64.wrap (7 * y3)).toNat IntKind.u64.bits))).toNat), ((List.drop (IntKind.i64.wrap (y3 + 1)).toNat (List.take (ilen y0).toNat y0)), (0)))
                    else none
                  else none
                else none
            else pack_ReadUint_l0 (y0) (IntKind.u64.wrap ↑(BitVec.ofInt IntKind.u64.bits y1 ||| BitVec.ofInt IntKind.u64.bits (IntKind.u64.wrap (IntKind.u64.wrap ↑(BitVec.ofInt IntKind.u64.bits (IntKind.u64.wrap val4) &&& BitVec.ofInt IntKind.u64.bits 127).toNat * 2 ^ min (IntKind.i64.wrap (7 * y3)).toNat IntKind.u64.bits))).toNat) (y2) (IntKind.i64.wrap (y3 + 1))
    else none
  else some ((0), (([]), (5))) := (loopAt_step _ _ _ _ _ _ _).trans (by kernel_rfl)
noncomputable def pack_ReadUint_sig : Sig := { pm := [(false, [(false, .slice (.int .u8))])], rm := [(false, [(false, .int .u64)]), (false, [(false, .slice (.int .u8))]), (false, [(false, .int .i64)])], f := fun | [⟨.slice (.int .u8), x0⟩] => .yes _ (pack_ReadUint x0) pack_ReadUint_mk | _ => .no }
theorem pack_ReadUint_ok : SigOk Try.prog 43 pack_ReadUint_sig := by
  refine contract_of (C := pack_ReadUint_C) (d := 3) S33_ok (callable_ex (by kernel_rfl)) ?_
  intro dvs
  unfold pack_ReadUint_sig
  dsimp only
  split
  · refine .inr ⟨_, pack_ReadUint_un, pack_ReadUint_mk, congrArg (fun o => Cl.yes _ o _) (pack_ReadUint_raw _), ?_⟩
    intro ds x h
    unfold pack_ReadUint_un at h
    split at h
    · cases h; rfl
    · cases h
  · exact .inl rfl
noncomputable def S34 : List (Nat × Sig) := (43, pack_ReadUint_sig) :: S33
theorem S34_ok : ListOk Try.prog S34 := ListOk.cons S33_ok pack_ReadUint_ok
noncomputable def pack_Uint_C : Cfg := { P := Try.prog, sig := lookSig S34, hb := fun f b => bif Nat.beq f 45 && Nat.beq b 0 then some { tmps := [0, 1], obs := [0], nils := [], kl := [0, 188] } else none, hr := fun _ _ => none }
noncomputable def pack_Uint_un : List DV → Option ((List Int)) := fun | [⟨.slice (.int .u8), r0⟩] => some r0 | _ => none
noncomputable def pack_Uint_mk : (List Int) → List DV := fun r0 => [⟨.slice (.int .u8), r0⟩]
theorem pack_Uint_ex : ∃ f : (List Int) → (Int) → Option ((List Int)), f = fun (x0 : List Int) (x1 : Int) => funRun pack_Uint_C 3 45 [(false, [(true, .slice (.int .u8))]), (false, [(false, .int .u64)])] [(false, [(true, .slice (.int .u8))])] pack_Uint_un [⟨.slice (.int .u8), x0⟩, ⟨.int .u64, x1⟩] := ⟨_, rfl⟩
noncomputable def pack_Uint : (List Int) → (Int) → Option ((List Int)) := pack_Uint_ex.choose
theorem pack_Uint_raw (x0 : List Int) (x1 : Int) : pack_Uint x0 x1 = funRun pack_Uint_C 3 45 [(false, [(true, .slice (.int .u8))]), (false, [(false, .int .u64)])] [(false, [(true, .slice (.int .u8))])] pack_Uint_un [⟨.slice (.int .u8), x0⟩, ⟨.int .u64, x1⟩] := congrFun (congrFun (pack_Uint_ex.choose_spec) x0) x1
noncomputable def pack_Uint_l0 (y0 : Int) (y1 : List (Int)) : Option ((List Int)) := loopAt pack_Uint_C 3 45 [(false, [(true, .slice (.int .u8))])] pack_Uint_un [true, false, false] (St.ofLists [(0, .ow 0), (1, .int .u64 y0)] [(0, some (.row (Ty.int IntKind.u8) y1 0 false))] [0, 188])
theorem pack_Uint_eq (x0 : List Int) (x1 : Int) : pack_Uint x0 x1 =
  pack_Uint_l0 (x1) (x0) := (pack_Uint_raw x0 x1).trans (by kernel_rfl)
theorem pack_Uint_l0_eq (y0 : Int) (y1 : List (Int)) : pack_Uint_l0 y0 y1 =
  bif decide (y0 ≥ 128)
  then bif decide ((ilen y1 + ilen [IntKind.u8.wrap ↑(BitVec.ofInt IntKind.u8.bits (IntKind.u8.wrap y0) ||| BitVec.ofInt IntKind.u8.bits 128).toNat]) * 1 ≤ room)
    then pack_Uint_l0 (y0.fdiv (2 ^ min (Int.toNat 7) IntKind.u64.bits)) (y1 ++ [IntKind.u8.wrap ↑(BitVec.ofInt IntKind.u8.bits (IntKind.u8.wrap y0) ||| BitVec.ofInt IntKind.u8.bits 128).toNat])
    else none
  else bif decide ((ilen y1 + ilen [IntKind.u8.wrap y0]) * 1 ≤ room)
    then some (y1 ++ [IntKind.u8.wrap y0])
    else none := (loopAt_step _ _ _ _ _ _ _).trans (by kernel_rfl)
noncomputable def pack_Uint_sig : Sig := { pm := [(false, [(true, .slice (.int .u8))]), (false, [(false, .int .u64)])], rm := [(false, [(true, .slice (.int .u8))])], f := fun | [⟨.slice (.int .u8), x0⟩, ⟨.int .u64, x1⟩] => .yes _ (pack_Uint x0 x1) pack_Uint_mk | _ => .no }
theorem pack_Uint_ok : SigOk Try.prog 45 pack_Uint_sig := by
  refine contract_of (C := pack_Uint_C) (d := 3) S34_ok (callable_ex (by kernel_rfl)) ?_
  intro dvs
  unfold pack_Uint_sig
  dsimp only
  split
  · refine .inr ⟨_, pack_Uint_un, pack_Uint_mk, congrArg (fun o => Cl.yes _ o _) (pack_Uint_raw _ _), ?_⟩
    intro ds x h
    unfold pack_Uint_un at h
    split at h
    · cases h; rfl
    · cases h
  · exact .inl rfl
noncomputable def S35 : List (Nat × Sig) := (45, pack_Uint_sig) :: S34
theorem S35_ok : ListOk Try.prog S35 := ListOk.cons S34_ok pack_Uint_ok
noncomputable def pack_Bytes_C : Cfg := { P := Try.prog, sig := lookSig S35, hb := fun _ _ => none, hr := fun _ _ => none }
noncomputable def pack_Bytes_un : List DV → Option ((List Int)) := fun | [⟨.slice (.int .u8), r0⟩] => some r0 | _ => none
noncomputable def pack_Bytes_mk : (List Int) → List DV := fun r0 => [⟨.slice (.int .u8), r0⟩]
theorem pack_Bytes_ex : ∃ f : (List Int) → (List Int) → Option ((List Int)), f = fun (x0 : List Int) (x1 : List Int) => funRun pack_Bytes_C 3 46 [(false, [(true, .slice (.int .u8))]), (false, [(false, .slice (.int .u8))])] [(false, [(true, .slice (.int .u8))])] pack_Bytes_un [⟨.slice (.int .u8), x0⟩, ⟨.slice (.int .u8), x1⟩] := ⟨_, rfl⟩
noncomputable def pack_Bytes : (List Int) → (List Int) → Option ((List Int)) := pack_Bytes_ex.choose
theorem pack_Bytes_raw (x0 : List Int) (x1 : List Int) : pack_Bytes x0 x1 = funRun pack_Bytes_C 3 46 [(false, [(true, .slice (.int .u8))]), (false, [(false, .slice (.int .u8))])] [(false, [(true, .slice (.int .u8))])] pack_Bytes_un [⟨.slice (.int .u8), x0⟩, ⟨.slice (.int .u8), x1⟩] := congrFun (congrFun (pack_Bytes_ex.choose_spec) x0) x1
theorem pack_Bytes_eq (x0 : List Int) (x1 : List Int) : pack_Bytes x0 x1 =
  (pack_Uint x0 (IntKind.u64.wrap (ilen x1))).bind fun val0 =>
  bif decide ((ilen val0 + ilen x1) * 1 ≤ room)
    then some (val0 ++ x1)
    else none := (pack_Bytes_raw x0 x1).trans (by kernel_rfl)
noncomputable def pack_Bytes_sig : Sig := { pm := [(false, [(true, .slice (.int .u8))]), (false, [(false, .slice (.int .u8))])], rm := [(false, [(true, .slice (.int .u8))])], f := fun | [⟨.slice (.int .u8), x0⟩, ⟨.slice (.int .u8), x1⟩] => .yes _ (pack_Bytes x0 x1) pack_Bytes_mk | _ => .no }
theorem pack_Bytes_ok : SigOk Try.prog 46 pack_Bytes_sig := by
  refine contract_of (C := pack_Bytes_C) (d := 3) S35_ok (callable_ex (by kernel_rfl)) ?_
  intro dvs
  unfold pack_Bytes_sig
  dsimp only
  split
  · refine .inr ⟨_, pack_Bytes_un, pack_Bytes_mk, congrArg (fun o => Cl.yes _ o _) (pack_Bytes_raw _ _), ?_⟩
    intro ds x h
    unfold pack_Bytes_un at h
    split at h
    · cases h; rfl
    · cases h
  · exact .inl rfl
noncomputable def S36 : List (Nat × Sig) := (46, pack_Bytes_sig) :: S35
theorem S36_ok : ListOk Try.prog S36 := ListOk.cons S35_ok pack_Bytes_ok
noncomputable def pack_ReadBytes_C : Cfg := { P := Try.prog, sig := lookSig S36, hb := fun _ _ => none, hr := fun _ _ => none }
noncomputable def pack_ReadBytes_un : List DV → Option ((List Int) × (List Int) × Int) := fun | [⟨.slice (.int .u8), r0⟩, ⟨.slice (.int .u8), r1⟩, ⟨.int .i64, r2⟩] => some (r0, r1, r2) | _ => none
noncomputable def pack_ReadBytes_mk : ((List Int) × (List Int) × Int) → List DV := fun ⟨r0, r1, r2⟩ => [⟨.slice (.int .u8), r0⟩, ⟨.slice (.int .u8), r1⟩, ⟨.int .i64, r2⟩]
theorem pack_ReadBytes_ex : ∃ f : (List Int) → Option ((List Int) × (List Int) × Int), f = fun (x0 : List Int) => funRun pack_ReadBytes_C 3 50 [(false, [(false, .slice (.int .u8))])] [(false, [(false, .slice (.int .u8))]), (false, [(false, .slice (.int .u8))]), (false, [(false, .int .i64)])] pack_ReadBytes_un [⟨.slice (.int .u8), x0⟩] := ⟨_, rfl⟩
noncomputable def pack_ReadBytes : (List Int) → Option ((List Int) × (List Int) × Int) := pack_ReadBytes_ex.choose
theorem pack_ReadBytes_raw (x0 : List Int) : pack_ReadBytes x0 = funRun pack_ReadBytes_C 3 50 [(false, [(false, .slice (.int .u8))])] [(false, [(false, .slice (.int .u8))]), (false, [(false, .slice (.int .u8))]), (false, [(false, .int .i64)])] pack_ReadBytes_un [⟨.slice (.int .u8), x0⟩] := congrFun (pack_ReadBytes_ex.choose_spec) x0
theorem pack_ReadBytes_eq (x0 : List Int) : pack_ReadBytes x0 =
  (pack_ReadUint x0).bind fun val0 =>
  bif val0.2.2 != 0
    then some (([]), (([]), (val0.2.2)))
    else bif decide (val0.1 > IntKind.u64.wrap (ilen val0.2.1))
      then some (([]), (([]), (5)))
      else bif decide (0 ≤ val0.1)
        then bif decide (val0.1 ≤ val0.1)
          then bif decide (val0.1 ≤ ilen val0.2.1)
            then bif decide (0 ≤ val0.1)
              then bif decide (val0.1 ≤ ilen val0.2.1)
                then bif decide (ilen val0.2.1 ≤ ilen val0.2.1)
                  then some ((List.drop (Int.toNat 0) (List.take val0.1.toNat val0.2.1)), ((List.drop val0.1.toNat (List.take (ilen val0.2.1).toNat val0.2.1)), (0)))
                  else none
                else none
              else none
            else none
          else none
        else none := (pack_ReadBytes_raw x0).trans (by kernel_rfl)
noncomputable def pack_ReadBytes_sig : Sig := { pm := [(false, [(false, .slice (.int .u8))])], rm := [(false, [(false, .slice (.int .u8))]), (false, [(false, .slice (.int .u8))]), (false, [(false, .int .i64)])], f := fun | [⟨.slice (.int .u8), x0⟩] => .yes _ (pack_ReadBytes x0) pack_ReadBytes_mk | _ => .no }
theorem pack_ReadBytes_ok : SigOk Try.prog 50 pack_ReadBytes_sig := by
  refine contract_of (C := pack_ReadBytes_C) (d := 3) S36_ok (callable_ex (by kernel_rfl)) ?_
  intro dvs
  unfold pack_ReadBytes_sig
  dsimp only
  split
  · refine .inr ⟨_, pack_ReadBytes_un, pack_ReadBytes_mk, congrArg (fun o => Cl.yes _ o _) (pack_ReadBytes_raw _), ?_⟩
    intro ds x h
    unfold pack_ReadBytes_un at h
    split at h
    · cases h; rfl
    · cases h
  · exact .inl rfl
noncomputable def S37 : List (Nat × Sig) := (50, pack_ReadBytes_sig) :: S36
theorem S37_ok : ListOk Try.prog S37 := ListOk.cons S36_ok pack_ReadBytes_ok
noncomputable def jobs_one_C : Cfg := { P := Try.prog, sig := lookSig S37, hb := fun _ _ => none, hr := fun _ _ => none, un := fun f b => bif Nat.beq f 44 && Nat.beq b 0 then 7 else bif Nat.beq f 44 && Nat.beq b 3 then 4 else 0 }
noncomputable def jobs_one_un : List DV → Option (Int × Int × Int × ByteArray × Int × ByteArray × Int × (List Int) × Int) := fun | [⟨.int .i64, r0⟩, ⟨.int .i64, r1⟩, ⟨.int .i64, r2⟩, ⟨.str, r3⟩, ⟨.int .i64, r4⟩, ⟨.str, r5⟩, ⟨.int .i64, r6⟩, ⟨.slice (.int .u8), r7⟩, ⟨.int .i64, r8⟩] => some (r0, r1, r2, r3, r4, r5, r6, r7, r8) | _ => none
noncomputable def jobs_one_mk : (Int × Int × Int × ByteArray × Int × ByteArray × Int × (List Int) × Int) → List DV := fun ⟨r0, r1, r2, r3, r4, r5, r6, r7, r8⟩ => [⟨.int .i64, r0⟩, ⟨.int .i64, r1⟩, ⟨.int .i64, r2⟩, ⟨.str, r3⟩, ⟨.int .i64, r4⟩, ⟨.str, r5⟩, ⟨.int .i64, r6⟩, ⟨.slice (.int .u8), r7⟩, ⟨.int .i64, r8⟩]
theorem jobs_one_ex : ∃ f : (List Int) → Option (Int × Int × Int × ByteArray × Int × ByteArray × Int × (List Int) × Int), f = fun (x0 : List Int) => funRun jobs_one_C 3 44 [(false, [(false, .slice (.int .u8))])] [(true, [(false, .int .i64), (false, .int .i64), (false, .int .i64), (false, .str), (false, .int .i64), (false, .str), (false, .int .i64)]), (false, [(false, .slice (.int .u8))]), (false, [(false, .int .i64)])] jobs_one_un [⟨.slice (.int .u8), x0⟩] := ⟨_, rfl⟩
noncomputable def jobs_one : (List Int) → Option (Int × Int × Int × ByteArray × Int × ByteArray × Int × (List Int) × Int) := jobs_one_ex.choose
theorem jobs_one_raw (x0 : List Int) : jobs_one x0 = funRun jobs_one_C 3 44 [(false, [(false, .slice (.int .u8))])] [(true, [(false, .int .i64), (false, .int .i64), (false, .int .i64), (false, .str), (false, .int .i64), (false, .str), (false, .int .i64)]), (false, [(false, .slice (.int .u8))]), (false, [(false, .int .i64)])] jobs_one_un [⟨.slice (.int .u8), x0⟩] := congrFun (jobs_one_ex.choose_spec) x0
theorem jobs_one_eq (x0 : List Int) : jobs_one x0 =
  (pack_ReadUint x0).bind fun val0 =>
  bif val0.2.2 != 0
    then some ((0), ((0), ((0), (((⟨#[]⟩ : ByteArray)), ((0), (((⟨#[]⟩ : ByteArray)), ((0), (([]), (val0.2.2)))))))))
    else bif decide (val0.1 > 1099511627776)
      then some ((0), ((0), ((0), (((⟨#[]⟩ : ByteArray)), ((0), (((⟨#[]⟩ : ByteArray)), ((0), (([]), (6)))))))))
      else (pack_ReadUint val0.2.1).bind fun val6 =>
        bif val6.2.2 != 0
          then some ((0), ((0), ((0), (((⟨#[]⟩ : ByteArray)), ((0), (((⟨#[]⟩ : ByteArray)), ((0), (([]), (val6.2.2)))))))))
          else bif decide (val6.1 > 1099511627776)
            then some ((0), ((0), ((0), (((⟨#[]⟩ : ByteArray)), ((0), (((⟨#[]⟩ : ByteArray)), ((0), (([]), (6)))))))))
            else (pack_ReadUint val6.2.1).bind fun val12 =>
              bif val12.2.2 != 0
                then some ((0), ((0), ((0), (((⟨#[]⟩ : ByteArray)), ((0), (((⟨#[]⟩ : ByteArray)), ((0), (([]), (val12.2.2)))))))))
                else bif decide (val12.1 > 1099511627776)
                  then some ((0), ((0), ((0), (((⟨#[]⟩ : ByteArray)), ((0), (((⟨#[]⟩ : ByteArray)), ((0), (([]), (6)))))))))
                  else (pack_ReadUint val12.2.1).bind fun val18 =>
                    bif val18.2.2 != 0
                      then some ((0), ((0), ((0), (((⟨#[]⟩ : ByteArray)), ((0), (((⟨#[]⟩ : ByteArray)), ((0), (([]), (val18.2.2)))))))))
                      else bif decide (val18.1 > 1099511627776)
                        then some ((0), ((0), ((0), (((⟨#[]⟩ : ByteArray)), ((0), (((⟨#[]⟩ : ByteArray)), ((0), (([]), (6)))))))))
                        else (pack_ReadUint val18.2.1).bind fun val24 =>
                          bif val24.2.2 != 0
                            then some ((0), ((0), ((0), (((⟨#[]⟩ : ByteArray)), ((0), (((⟨#[]⟩ : ByteArray)), ((0), (([]), (val24.2.2)))))))))
                            else bif decide (val24.1 > 1099511627776)
                              then some ((0), ((0), ((0), (((⟨#[]⟩ : ByteArray)), ((0), (((⟨#[]⟩ : ByteArray)), ((0), (([]), (6)))))))))
                              else (pack_ReadBytes val24.2.1).bind fun val30 =>
                                bif val30.2.2 != 0
                                  then some ((0), ((0), ((0), (((⟨#[]⟩ : ByteArray)), ((0), (((⟨#[]⟩ : ByteArray)), ((0), (([]), (val30.2.2)))))))))
                                  else (pack_ReadBytes val30.2.1).bind fun val34 =>
                                    bif val34.2.2 != 0
                                      then some ((0), ((0), ((0), (((⟨#[]⟩ : ByteArray)), ((0), (((⟨#[]⟩ : ByteArray)), ((0), (([]), (val34.2.2)))))))))
                                      else some ((IntKind.i64.wrap val0.1), ((IntKind.i64.wrap val6.1), ((IntKind.i64.wrap val12.1), ((strOf val30.1), ((IntKind.i64.wrap val18.1), ((strOf val34.1), ((IntKind.i64.wrap val24.1), ((val34.2.1), (0))))))))) := (jobs_one_raw x0).trans (by kernel_rfl)
noncomputable def jobs_one_sig : Sig := { pm := [(false, [(false, .slice (.int .u8))])], rm := [(true, [(false, .int .i64), (false, .int .i64), (false, .int .i64), (false, .str), (false, .int .i64), (false, .str), (false, .int .i64)]), (false, [(false, .slice (.int .u8))]), (false, [(false, .int .i64)])], f := fun | [⟨.slice (.int .u8), x0⟩] => .yes _ (jobs_one x0) jobs_one_mk | _ => .no }
theorem jobs_one_ok : SigOk Try.prog 44 jobs_one_sig := by
  refine contract_of (C := jobs_one_C) (d := 3) S37_ok (callable_ex (by kernel_rfl)) ?_
  intro dvs
  unfold jobs_one_sig
  dsimp only
  split
  · refine .inr ⟨_, jobs_one_un, jobs_one_mk, congrArg (fun o => Cl.yes _ o _) (jobs_one_raw _), ?_⟩
    intro ds x h
    unfold jobs_one_un at h
    split at h
    · cases h; rfl
    · cases h
  · exact .inl rfl
noncomputable def S38 : List (Nat × Sig) := (44, jobs_one_sig) :: S37
theorem S38_ok : ListOk Try.prog S38 := ListOk.cons S37_ok jobs_one_ok
noncomputable def jobs_Put_C : Cfg := { P := Try.prog, sig := lookSig S38, hb := fun f b => bif Nat.beq f 29 && Nat.beq b 0 then some { tmps := [0, 14, 15, 16], obs := [60], nils := [(0, 60, (.int .u8))], kl := [204, 500, 492, 460, 452, 412, 412, 412, 412, 412, 340, 148, 60] } else none, hr := fun _ _ => none, un := fun f b => bif Nat.beq f 29 && Nat.beq b 2 then 7 else 0 }
noncomputable def jobs_Put_un : List DV → Option ((List Int)) := fun | [⟨.slice (.int .u8), r0⟩] => some r0 | _ => none
noncomputable def jobs_Put_mk : (List Int) → List DV := fun r0 => [⟨.slice (.int .u8), r0⟩]
theorem jobs_Put_ex : ∃ f : (List Int) → (List (Int × Int × Int × ByteArray × Int × ByteArray × Int)) → Option ((List Int)), f = fun (x0 : List Int) (x1 : List (Int × Int × Int × ByteArray × Int × ByteArray × Int)) => funRun jobs_Put_C 3 29 [(false, [(true, .slice (.int .u8))]), (false, [(false, .slice (.pair (.int .i64) (.pair (.int .i64) (.pair (.int .i64) (.pair (.str) (.pair (.int .i64) (.pair (.str) (.int .i64))))))))])] [(false, [(true, .slice (.int .u8))])] jobs_Put_un [⟨.slice (.int .u8), x0⟩, ⟨.slice (.pair (.int .i64) (.pair (.int .i64) (.pair (.int .i64) (.pair (.str) (.pair (.int .i64) (.pair (.str) (.int .i64))))))), x1⟩] := ⟨_, rfl⟩
noncomputable def jobs_Put : (List Int) → (List (Int × Int × Int × ByteArray × Int × ByteArray × Int)) → Option ((List Int)) := jobs_Put_ex.choose
theorem jobs_Put_raw (x0 : List Int) (x1 : List (Int × Int × Int × ByteArray × Int × ByteArray × Int)) : jobs_Put x0 x1 = funRun jobs_Put_C 3 29 [(false, [(true, .slice (.int .u8))]), (false, [(false, .slice (.pair (.int .i64) (.pair (.int .i64) (.pair (.int .i64) (.pair (.str) (.pair (.int .i64) (.pair (.str) (.int .i64))))))))])] [(false, [(true, .slice (.int .u8))])] jobs_Put_un [⟨.slice (.int .u8), x0⟩, ⟨.slice (.pair (.int .i64) (.pair (.int .i64) (.pair (.int .i64) (.pair (.str) (.pair (.int .i64) (.pair (.str) (.int .i64))))))), x1⟩] := congrFun (congrFun (jobs_Put_ex.choose_spec) x0) x1
noncomputable def jobs_Put_l0 (y0 : List ((Int) × ((Int) × ((Int) × ((ByteArray) × ((Int) × ((ByteArray) × (Int)))))))) (y1 : Int) (y2 : Int) (y3 : List (Int)) : Option ((List Int)) := loopAt jobs_Put_C 3 29 [(false, [(true, .slice (.int .u8))])] jobs_Put_un [true, true, false, true, false] (St.ofLists [(0, .ow 60), (14, .fz ((Ty.int IntKind.i64).pair ((Ty.int IntKind.i64).pair ((Ty.int IntKind.i64).pair (Ty.str.pair ((Ty.int IntKind.i64).pair (Ty.str.pair (Ty.int IntKind.i64))))))) y0 false false), (15, .int .i64 y1), (16, .int .i64 y2)] [(60, some (.row (Ty.int IntKind.u8) y3 0 false))] [204, 500, 492, 460, 452, 412, 412, 412, 412, 412, 340, 148, 60])
theorem jobs_Put_eq (x0 : List Int) (x1 : List (Int × Int × Int × ByteArray × Int × ByteArray × Int)) : jobs_Put x0 x1 =
  (pack_Uint x0 (IntKind.u64.wrap (ilen x1))).bind fun val0 =>
  jobs_Put_l0 (x1) (ilen x1) (0) (val0) := (jobs_Put_raw x0 x1).trans (by kernel_rfl)
theorem jobs_Put_l0_eq (y0 : List ((Int) × ((Int) × ((Int) × ((ByteArray) × ((Int) × ((ByteArray) × (Int)))))))) (y1 : Int) (y2 : Int) (y3 : List (Int)) : jobs_Put_l0 y0 y1 y2 y3 =
  bif decide (y2 < y1)
  then bif decide (0 ≤ y2)
    then (y0[y2.toNat]?).bind fun val4 =>
      (pack_Uint y3 (IntKind.u64.wrap val4.fst)).bind fun val6 =>
        (pack_Uint val6 (IntKind.u64.wrap val4.snd.fst)).bind fun val8 =>
          (pack_Uint val8 (IntKind.u64.wrap val4.snd.snd.fst)).bind fun val10 =>
            (pack_Uint val10 (IntKind.u64.wrap val4.snd.snd.snd.snd.fst)).bind fun val12 =>
              (pack_Uint val12 (IntKind.u64.wrap val4.snd.snd.snd.snd.snd.snd)).bind fun val14 =>
                (pack_Bytes val14 (bytesList val4.snd.snd.snd.fst)).bind fun val16 =>
                  (pack_Bytes val16 (bytesList val4.snd.snd.snd.snd.snd.fst)).bind fun val18 =>
                    jobs_Put_l0 (y0) (y1) (IntKind.i64.wrap (y2 + 1)) (val18)
    else none
  else some (y3) := (loopAt_step _ _ _ _ _ _ _).trans (by kernel_rfl)
noncomputable def jobs_Put_sig : Sig := { pm := [(false, [(true, .slice (.int .u8))]), (false, [(false, .slice (.pair (.int .i64) (.pair (.int .i64) (.pair (.int .i64) (.pair (.str) (.pair (.int .i64) (.pair (.str) (.int .i64))))))))])], rm := [(false, [(true, .slice (.int .u8))])], f := fun | [⟨.slice (.int .u8), x0⟩, ⟨.slice (.pair (.int .i64) (.pair (.int .i64) (.pair (.int .i64) (.pair (.str) (.pair (.int .i64) (.pair (.str) (.int .i64))))))), x1⟩] => .yes _ (jobs_Put x0 x1) jobs_Put_mk | _ => .no }
theorem jobs_Put_ok : SigOk Try.prog 29 jobs_Put_sig := by
  refine contract_of (C := jobs_Put_C) (d := 3) S38_ok (callable_ex (by kernel_rfl)) ?_
  intro dvs
  unfold jobs_Put_sig
  dsimp only
  split
  · refine .inr ⟨_, jobs_Put_un, jobs_Put_mk, congrArg (fun o => Cl.yes _ o _) (jobs_Put_raw _ _), ?_⟩
    intro ds x h
    unfold jobs_Put_un at h
    split at h
    · cases h; rfl
    · cases h
  · exact .inl rfl
noncomputable def S39 : List (Nat × Sig) := (29, jobs_Put_sig) :: S38
theorem S39_ok : ListOk Try.prog S39 := ListOk.cons S38_ok jobs_Put_ok
noncomputable def jobs_Read_C : Cfg := { P := Try.prog, sig := lookSig S39, hb := fun f b => bif Nat.beq f 28 && Nat.beq b 0 then some { tmps := [0, 5, 7], obs := [60], nils := [(7, 60, (.pair (.int .i64) (.pair (.int .i64) (.pair (.int .i64) (.pair (.str) (.pair (.int .i64) (.pair (.str) (.int .i64))))))))], kl := [396, 388, 164, 60] } else none, hr := fun _ _ => none }
noncomputable def jobs_Read_un : List DV → Option ((List (Int × Int × Int × ByteArray × Int × ByteArray × Int)) × (List Int) × Int) := fun | [⟨.slice (.pair (.int .i64) (.pair (.int .i64) (.pair (.int .i64) (.pair (.str) (.pair (.int .i64) (.pair (.str) (.int .i64))))))), r0⟩, ⟨.slice (.int .u8), r1⟩, ⟨.int .i64, r2⟩] => some (r0, r1, r2) | _ => none
noncomputable def jobs_Read_mk : ((List (Int × Int × Int × ByteArray × Int × ByteArray × Int)) × (List Int) × Int) → List DV := fun ⟨r0, r1, r2⟩ => [⟨.slice (.pair (.int .i64) (.pair (.int .i64) (.pair (.int .i64) (.pair (.str) (.pair (.int .i64) (.pair (.str) (.int .i64))))))), r0⟩, ⟨.slice (.int .u8), r1⟩, ⟨.int .i64, r2⟩]
theorem jobs_Read_ex : ∃ f : (List Int) → Option ((List (Int × Int × Int × ByteArray × Int × ByteArray × Int)) × (List Int) × Int), f = fun (x0 : List Int) => funRun jobs_Read_C 3 28 [(false, [(false, .slice (.int .u8))])] [(false, [(false, .slice (.pair (.int .i64) (.pair (.int .i64) (.pair (.int .i64) (.pair (.str) (.pair (.int .i64) (.pair (.str) (.int .i64))))))))]), (false, [(false, .slice (.int .u8))]), (false, [(false, .int .i64)])] jobs_Read_un [⟨.slice (.int .u8), x0⟩] := ⟨_, rfl⟩
noncomputable def jobs_Read : (List Int) → Option ((List (Int × Int × Int × ByteArray × Int × ByteArray × Int)) × (List Int) × Int) := jobs_Read_ex.choose
theorem jobs_Read_raw (x0 : List Int) : jobs_Read x0 = funRun jobs_Read_C 3 28 [(false, [(false, .slice (.int .u8))])] [(false, [(false, .slice (.pair (.int .i64) (.pair (.int .i64) (.pair (.int .i64) (.pair (.str) (.pair (.int .i64) (.pair (.str) (.int .i64))))))))]), (false, [(false, .slice (.int .u8))]), (false, [(false, .int .i64)])] jobs_Read_un [⟨.slice (.int .u8), x0⟩] := congrFun (jobs_Read_ex.choose_spec) x0
noncomputable def jobs_Read_l0 (y0 : List (Int)) (y1 : Int) (y2 : List ((Int) × ((Int) × ((Int) × ((ByteArray) × ((Int) × ((ByteArray) × (Int)))))))) : Option ((List (Int × Int × Int × ByteArray × Int × ByteArray × Int)) × (List Int) × Int) := loopAt jobs_Read_C 3 28 [(false, [(false, .slice (.pair (.int .i64) (.pair (.int .i64) (.pair (.int .i64) (.pair (.str) (.pair (.int .i64) (.pair (.str) (.int .i64))))))))]), (false, [(false, .slice (.int .u8))]), (false, [(false, .int .i64)])] jobs_Read_un [true, true, true, true, false, false] (St.ofLists [(0, .fz (Ty.int IntKind.u8) y0 false false), (5, .int .u64 y1), (7, .ow 60)] [(60, some (.row ((Ty.int IntKind.i64).pair ((Ty.int IntKind.i64).pair ((Ty.int IntKind.i64).pair (Ty.str.pair ((Ty.int IntKind.i64).pair (Ty.str.pair (Ty.int IntKind.i64))))))) y2 0 false))] [396, 388, 164, 60])
theorem jobs_Read_eq (x0 : List Int) : jobs_Read x0 =
  (pack_ReadUint x0).bind fun val0 =>
  bif val0.2.2 != 0
    then some (([]), (([]), (val0.2.2)))
    else jobs_Read_l0 (val0.2.1) (val0.1) ([]) := (jobs_Read_raw x0).trans (by kernel_rfl)
theorem jobs_Read_l0_eq (y0 : List (Int)) (y1 : Int) (y2 : List ((Int) × ((Int) × ((Int) × ((ByteArray) × ((Int) × ((ByteArray) × (Int)))))))) : jobs_Read_l0 y0 y1 y2 =
  bif decide (y1 > 0)
  then (jobs_one y0).bind fun val2 =>
    bif val2.2.2.2.2.2.2.2.2 != 0
      then some (([]), (([]), (val2.2.2.2.2.2.2.2.2)))
      else bif decide ((ilen y2 + ilen [(val2.1, val2.2.1, val2.2.2.1, val2.2.2.2.1, val2.2.2.2.2.1, val2.2.2.2.2.2.1, val2.2.2.2.2.2.2.1)]) * 72 ≤ room)
        then jobs_Read_l0 (val2.2.2.2.2.2.2.2.1) (IntKind.u64.wrap (y1 - 1)) (y2 ++ [(val2.1, val2.2.1, val2.2.2.1, val2.2.2.2.1, val2.2.2.2.2.1, val2.2.2.2.2.2.1, val2.2.2.2.2.2.2.1)])
        else none
  else (jobs_Check y2).bind fun val2 =>
    bif val2 != 0
      then some (([]), (([]), (val2)))
      else some ((y2), ((y0), (0))) := (loopAt_step _ _ _ _ _ _ _).trans (by kernel_rfl)
noncomputable def jobs_Read_sig : Sig := { pm := [(false, [(false, .slice (.int .u8))])], rm := [(false, [(false, .slice (.pair (.int .i64) (.pair (.int .i64) (.pair (.int .i64) (.pair (.str) (.pair (.int .i64) (.pair (.str) (.int .i64))))))))]), (false, [(false, .slice (.int .u8))]), (false, [(false, .int .i64)])], f := fun | [⟨.slice (.int .u8), x0⟩] => .yes _ (jobs_Read x0) jobs_Read_mk | _ => .no }
theorem jobs_Read_ok : SigOk Try.prog 28 jobs_Read_sig := by
  refine contract_of (C := jobs_Read_C) (d := 3) S39_ok (callable_ex (by kernel_rfl)) ?_
  intro dvs
  unfold jobs_Read_sig
  dsimp only
  split
  · refine .inr ⟨_, jobs_Read_un, jobs_Read_mk, congrArg (fun o => Cl.yes _ o _) (jobs_Read_raw _), ?_⟩
    intro ds x h
    unfold jobs_Read_un at h
    split at h
    · cases h; rfl
    · cases h
  · exact .inl rfl
noncomputable def S40 : List (Nat × Sig) := (28, jobs_Read_sig) :: S39
theorem S40_ok : ListOk Try.prog S40 := ListOk.cons S39_ok jobs_Read_ok
noncomputable def law19_works_C : Cfg := { P := Try.prog, sig := lookSig S40, hb := fun _ _ => none, hr := fun _ _ => none }
noncomputable def law19_works_un : List DV → Option (Bool) := fun | [⟨.bool, r0⟩] => some r0 | _ => none
noncomputable def law19_works_mk : Bool → List DV := fun r0 => [⟨.bool, r0⟩]
theorem law19_works_ex : ∃ f : Option (Bool), f = funRun law19_works_C 3 9 [] [(false, [(false, .bool)])] law19_works_un [] := ⟨_, rfl⟩
noncomputable def law19_works : Option (Bool) := law19_works_ex.choose
theorem law19_works_raw  : law19_works = funRun law19_works_C 3 9 [] [(false, [(false, .bool)])] law19_works_un [] := law19_works_ex.choose_spec
theorem law19_works_eq  : law19_works =
  (jobs_Add [] 3 1 2 (⟨#[112, 97, 121]⟩ : ByteArray) 1 (⟨#[]⟩ : ByteArray) 0).bind fun val0 =>
  (jobs_Lend val0.1 (⟨#[112, 97, 121]⟩ : ByteArray) (⟨#[119]⟩ : ByteArray) 5 9 4).bind fun val2 =>
    (jobs_Done val2.1 3 (⟨#[120]⟩ : ByteArray) 6).bind fun val4 =>
      (jobs_Fail val2.1 3 (⟨#[119]⟩ : ByteArray) 6).bind fun val6 =>
        (jobs_Again val6.1 3 2).bind fun val8 =>
          (jobs_Get val8.1 3).bind fun val10 =>
            (jobs_Put [] val8.1).bind fun val12 =>
              bif decide ((ilen val12 + ilen [9]) * 1 ≤ room)
                then (jobs_Read (val12 ++ [9])).bind fun val16 =>
                  bif val0.2 == 0
                    then bif val2.2.2 == 0
                      then bif ilen val2.2.1 == 1
                        then bif val4.2.2.2.2.2.2.2.2 == 11
                          then bif val6.2.2.2.2.2.2.2.2 == 0
                            then bif val6.2.2.2.2.2.1 == 0
                              then bif val8.2 == 0
                                then bif val10.2.2.2.2.2.2.2
                                  then bif val10.2.2.2.2.1 == 2
                                    then bif val16.2.2 == 0
                                      then bif ilen val16.2.1 == 1
                                        then (ref19_Same val8.1 val16.1).bind fun val40 =>
                                          bif val40
                                            then (jobs_Without val8.1 1).bind fun val44 =>
                                              bif ilen val44 == 0
                                                then (jobs_Check val8.1).bind fun val48 =>
                                                  some (val48 == 0)
                                                else some false
                                            else some false
                                        else some false
                                      else some false
                                    else some false
                                  else some false
                                else some false
                              else some false
                            else some false
                          else some false
                        else some false
                      else some false
                    else some false
                else none := (law19_works_raw).trans (by kernel_rfl)
noncomputable def law19_works_sig : Sig := { pm := [], rm := [(false, [(false, .bool)])], f := fun | [] => .yes _ (law19_works) law19_works_mk | _ => .no }
theorem law19_works_ok : SigOk Try.prog 9 law19_works_sig := by
  refine contract_of (C := law19_works_C) (d := 3) S40_ok (callable_ex (by kernel_rfl)) ?_
  intro dvs
  unfold law19_works_sig
  dsimp only
  split
  · refine .inr ⟨_, law19_works_un, law19_works_mk, congrArg (fun o => Cl.yes _ o _) (law19_works_raw), ?_⟩
    intro ds x h
    unfold law19_works_un at h
    split at h
    · cases h; rfl
    · cases h
  · exact .inl rfl
noncomputable def S41 : List (Nat × Sig) := (9, law19_works_sig) :: S40
theorem S41_ok : ListOk Try.prog S41 := ListOk.cons S40_ok law19_works_ok
noncomputable def law19_JobsChecks_C : Cfg := { P := Try.prog, sig := lookSig S41, hb := fun _ _ => none, hr := fun _ _ => none }
noncomputable def law19_JobsChecks_un : List DV → Option (Bool) := fun | [⟨.bool, r0⟩] => some r0 | _ => none
noncomputable def law19_JobsChecks_mk : Bool → List DV := fun r0 => [⟨.bool, r0⟩]
theorem law19_JobsChecks_ex : ∃ f : (List (Int × Int × Int × ByteArray × Int × ByteArray × Int)) → (Int) → (Int) → (Int) → (Int) → (ByteArray) → (Int) → (ByteArray) → (Int) → Option (Bool), f = fun (x0 : List (Int × Int × Int × ByteArray × Int × ByteArray × Int)) (x1 : Int) (x2 : Int) (x3 : Int) (x4 : Int) (x5 : ByteArray) (x6 : Int) (x7 : ByteArray) (x8 : Int) => funRun law19_JobsChecks_C 3 3 [(false, [(false, .slice (.pair (.int .i64) (.pair (.int .i64) (.pair (.int .i64) (.pair (.str) (.pair (.int .i64) (.pair (.str) (.int .i64))))))))]), (false, [(false, .int .i64)]), (true, [(false, .int .i64), (false, .int .i64), (false, .int .i64), (false, .str), (false, .int .i64), (false, .str), (false, .int .i64)])] [(false, [(false, .bool)])] law19_JobsChecks_un [⟨.slice (.pair (.int .i64) (.pair (.int .i64) (.pair (.int .i64) (.pair (.str) (.pair (.int .i64) (.pair (.str) (.int .i64))))))), x0⟩, ⟨.int .i64, x1⟩, ⟨.int .i64, x2⟩, ⟨.int .i64, x3⟩, ⟨.int .i64, x4⟩, ⟨.str, x5⟩, ⟨.int .i64, x6⟩, ⟨.str, x7⟩, ⟨.int .i64, x8⟩] := ⟨_, rfl⟩
noncomputable def law19_JobsChecks : (List (Int × Int × Int × ByteArray × Int × ByteArray × Int)) → (Int) → (Int) → (Int) → (Int) → (ByteArray) → (Int) → (ByteArray) → (Int) → Option (Bool) := law19_JobsChecks_ex.choose
theorem law19_JobsChecks_raw (x0 : List (Int × Int × Int × ByteArray × Int × ByteArray × Int)) (x1 : Int) (x2 : Int) (x3 : Int) (x4 : Int) (x5 : ByteArray) (x6 : Int) (x7 : ByteArray) (x8 : Int) : law19_JobsChecks x0 x1 x2 x3 x4 x5 x6 x7 x8 = funRun law19_JobsChecks_C 3 3 [(false, [(false, .slice (.pair (.int .i64) (.pair (.int .i64) (.pair (.int .i64) (.pair (.str) (.pair (.int .i64) (.pair (.str) (.int .i64))))))))]), (false, [(false, .int .i64)]), (true, [(false, .int .i64), (false, .int .i64), (false, .int .i64), (false, .str), (false, .int .i64), (false, .str), (false, .int .i64)])] [(false, [(false, .bool)])] law19_JobsChecks_un [⟨.slice (.pair (.int .i64) (.pair (.int .i64) (.pair (.int .i64) (.pair (.str) (.pair (.int .i64) (.pair (.str) (.int .i64))))))), x0⟩, ⟨.int .i64, x1⟩, ⟨.int .i64, x2⟩, ⟨.int .i64, x3⟩, ⟨.int .i64, x4⟩, ⟨.str, x5⟩, ⟨.int .i64, x6⟩, ⟨.str, x7⟩, ⟨.int .i64, x8⟩] := congrFun (congrFun (congrFun (congrFun (congrFun (congrFun (congrFun (congrFun (congrFun (law19_JobsChecks_ex.choose_spec) x0) x1) x2) x3) x4) x5) x6) x7) x8
theorem law19_JobsChecks_eq (x0 : List (Int × Int × Int × ByteArray × Int × ByteArray × Int)) (x1 : Int) (x2 : Int) (x3 : Int) (x4 : Int) (x5 : ByteArray) (x6 : Int) (x7 : ByteArray) (x8 : Int) : law19_JobsChecks x0 x1 x2 x3 x4 x5 x6 x7 x8 =
  (law19_light x0).bind fun val0 =>
  bif !val0
    then (law19_works).bind fun val4 =>
      some (val4)
    else (law19_light [(x2, x3, x4, x5, x6, x7, x8)]).bind fun val4 =>
      bif !val4
        then (law19_works).bind fun val8 =>
          some (val8)
        else (jobs_Check x0).bind fun val8 =>
          (ref19_Check x0).bind fun val10 =>
            bif val8 != val10
              then some false
              else (ref19_Check x0).bind fun val14 =>
                bif val14 != 0
                  then (law19_works).bind fun val18 =>
                    some (val18)
                  else (jobs_Get x0 x1).bind fun val18 =>
                    (ref19_Get x0 x1).bind fun val20 =>
                      (jobs_Add x0 x2 x3 x4 x5 x6 x7 x8).bind fun val22 =>
                        (ref19_Add x0 x2 x3 x4 x5 x6 x7 x8).bind fun val24 =>
                          bif val18.1 == val20.1 && (val18.2.1 == val20.2.1 && (val18.2.2.1 == val20.2.2.1 && (val18.2.2.2.1.toList == val20.2.2.2.1.toList && (val18.2.2.2.2.1 == val20.2.2.2.2.1 && (val18.2.2.2.2.2.1.toList == val20.2.2.2.2.2.1.toList && (val18.2.2.2.2.2.2.1 == val20.2.2.2.2.2.2.1 && true))))))
                            then bif val18.2.2.2.2.2.2.2 == val20.2.2.2.2.2.2.2
                              then bif val22.2 == val24.2
                                then (ref19_Same val22.1 val24.1).bind fun val32 =>
                                  bif val32
                                    then (law19_works).bind fun val36 =>
                                      some (val36)
                                    else some false
                                else some false
                              else some false
                            else some false := (law19_JobsChecks_raw x0 x1 x2 x3 x4 x5 x6 x7 x8).trans (by kernel_rfl)
noncomputable def law19_JobsChecks_sig : Sig := { pm := [(false, [(false, .slice (.pair (.int .i64) (.pair (.int .i64) (.pair (.int .i64) (.pair (.str) (.pair (.int .i64) (.pair (.str) (.int .i64))))))))]), (false, [(false, .int .i64)]), (true, [(false, .int .i64), (false, .int .i64), (false, .int .i64), (false, .str), (false, .int .i64), (false, .str), (false, .int .i64)])], rm := [(false, [(false, .bool)])], f := fun | [⟨.slice (.pair (.int .i64) (.pair (.int .i64) (.pair (.int .i64) (.pair (.str) (.pair (.int .i64) (.pair (.str) (.int .i64))))))), x0⟩, ⟨.int .i64, x1⟩, ⟨.int .i64, x2⟩, ⟨.int .i64, x3⟩, ⟨.int .i64, x4⟩, ⟨.str, x5⟩, ⟨.int .i64, x6⟩, ⟨.str, x7⟩, ⟨.int .i64, x8⟩] => .yes _ (law19_JobsChecks x0 x1 x2 x3 x4 x5 x6 x7 x8) law19_JobsChecks_mk | _ => .no }
theorem law19_JobsChecks_ok : SigOk Try.prog 3 law19_JobsChecks_sig := by
  refine contract_of (C := law19_JobsChecks_C) (d := 3) S41_ok (callable_ex (by kernel_rfl)) ?_
  intro dvs
  unfold law19_JobsChecks_sig
  dsimp only
  split
  · refine .inr ⟨_, law19_JobsChecks_un, law19_JobsChecks_mk, congrArg (fun o => Cl.yes _ o _) (law19_JobsChecks_raw _ _ _ _ _ _ _ _ _), ?_⟩
    intro ds x h
    unfold law19_JobsChecks_un at h
    split at h
    · cases h; rfl
    · cases h
  · exact .inl rfl
noncomputable def S42 : List (Nat × Sig) := (3, law19_JobsChecks_sig) :: S41
theorem S42_ok : ListOk Try.prog S42 := ListOk.cons S41_ok law19_JobsChecks_ok
noncomputable def law19_JobsLends_C : Cfg := { P := Try.prog, sig := lookSig S42, hb := fun _ _ => none, hr := fun _ _ => none }
noncomputable def law19_JobsLends_un : List DV → Option (Bool) := fun | [⟨.bool, r0⟩] => some r0 | _ => none
noncomputable def law19_JobsLends_mk : Bool → List DV := fun r0 => [⟨.bool, r0⟩]
theorem law19_JobsLends_ex : ∃ f : (List (Int × Int × Int × ByteArray × Int × ByteArray × Int)) → (ByteArray) → (ByteArray) → (Int) → (Int) → (Int) → Option (Bool), f = fun (x0 : List (Int × Int × Int × ByteArray × Int × ByteArray × Int)) (x1 : ByteArray) (x2 : ByteArray) (x3 : Int) (x4 : Int) (x5 : Int) => funRun law19_JobsLends_C 3 4 [(false, [(false, .slice (.pair (.int .i64) (.pair (.int .i64) (.pair (.int .i64) (.pair (.str) (.pair (.int .i64) (.pair (.str) (.int .i64))))))))]), (false, [(false, .str)]), (false, [(false, .str)]), (false, [(false, .int .i64)]), (false, [(false, .int .i64)]), (false, [(false, .int .i64)])] [(false, [(false, .bool)])] law19_JobsLends_un [⟨.slice (.pair (.int .i64) (.pair (.int .i64) (.pair (.int .i64) (.pair (.str) (.pair (.int .i64) (.pair (.str) (.int .i64))))))), x0⟩, ⟨.str, x1⟩, ⟨.str, x2⟩, ⟨.int .i64, x3⟩, ⟨.int .i64, x4⟩, ⟨.int .i64, x5⟩] := ⟨_, rfl⟩
noncomputable def law19_JobsLends : (List (Int × Int × Int × ByteArray × Int × ByteArray × Int)) → (ByteArray) → (ByteArray) → (Int) → (Int) → (Int) → Option (Bool) := law19_JobsLends_ex.choose
theorem law19_JobsLends_raw (x0 : List (Int × Int × Int × ByteArray × Int × ByteArray × Int)) (x1 : ByteArray) (x2 : ByteArray) (x3 : Int) (x4 : Int) (x5 : Int) : law19_JobsLends x0 x1 x2 x3 x4 x5 = funRun law19_JobsLends_C 3 4 [(false, [(false, .slice (.pair (.int .i64) (.pair (.int .i64) (.pair (.int .i64) (.pair (.str) (.pair (.int .i64) (.pair (.str) (.int .i64))))))))]), (false, [(false, .str)]), (false, [(false, .str)]), (false, [(false, .int .i64)]), (false, [(false, .int .i64)]), (false, [(false, .int .i64)])] [(false, [(false, .bool)])] law19_JobsLends_un [⟨.slice (.pair (.int .i64) (.pair (.int .i64) (.pair (.int .i64) (.pair (.str) (.pair (.int .i64) (.pair (.str) (.int .i64))))))), x0⟩, ⟨.str, x1⟩, ⟨.str, x2⟩, ⟨.int .i64, x3⟩, ⟨.int .i64, x4⟩, ⟨.int .i64, x5⟩] := congrFun (congrFun (congrFun (congrFun (congrFun (congrFun (law19_JobsLends_ex.choose_spec) x0) x1) x2) x3) x4) x5
theorem law19_JobsLends_eq (x0 : List (Int × Int × Int × ByteArray × Int × ByteArray × Int)) (x1 : ByteArray) (x2 : ByteArray) (x3 : Int) (x4 : Int) (x5 : Int) : law19_JobsLends x0 x1 x2 x3 x4 x5 =
  (law19_may x0).bind fun val0 =>
  bif !val0
    then (law19_works).bind fun val4 =>
      some (val4)
    else bif decide (isize x1 > 60)
      then (law19_works).bind fun val6 =>
        some (val6)
      else bif decide (isize x2 > 60)
        then (law19_works).bind fun val8 =>
          some (val8)
        else (jobs_Lend x0 x1 x2 x3 x4 x5).bind fun val8 =>
          (ref19_Lend x0 x1 x2 x3 x4 x5).bind fun val10 =>
            bif val8.2.2 == val10.2.2
              then (ref19_Same val8.1 val10.1).bind fun val14 =>
                bif val14
                  then (ref19_Same val8.2.1 val10.2.1).bind fun val18 =>
                    bif val18
                      then (law19_works).bind fun val22 =>
                        some (val22)
                      else some false
                  else some false
              else some false := (law19_JobsLends_raw x0 x1 x2 x3 x4 x5).trans (by kernel_rfl)
noncomputable def law19_JobsLends_sig : Sig := { pm := [(false, [(false, .slice (.pair (.int .i64) (.pair (.int .i64) (.pair (.int .i64) (.pair (.str) (.pair (.int .i64) (.pair (.str) (.int .i64))))))))]), (false, [(false, .str)]), (false, [(false, .str)]), (false, [(false, .int .i64)]), (false, [(false, .int .i64)]), (false, [(false, .int .i64)])], rm := [(false, [(false, .bool)])], f := fun | [⟨.slice (.pair (.int .i64) (.pair (.int .i64) (.pair (.int .i64) (.pair (.str) (.pair (.int .i64) (.pair (.str) (.int .i64))))))), x0⟩, ⟨.str, x1⟩, ⟨.str, x2⟩, ⟨.int .i64, x3⟩, ⟨.int .i64, x4⟩, ⟨.int .i64, x5⟩] => .yes _ (law19_JobsLends x0 x1 x2 x3 x4 x5) law19_JobsLends_mk | _ => .no }
theorem law19_JobsLends_ok : SigOk Try.prog 4 law19_JobsLends_sig := by
  refine contract_of (C := law19_JobsLends_C) (d := 3) S42_ok (callable_ex (by kernel_rfl)) ?_
  intro dvs
  unfold law19_JobsLends_sig
  dsimp only
  split
  · refine .inr ⟨_, law19_JobsLends_un, law19_JobsLends_mk, congrArg (fun o => Cl.yes _ o _) (law19_JobsLends_raw _ _ _ _ _ _), ?_⟩
    intro ds x h
    unfold law19_JobsLends_un at h
    split at h
    · cases h; rfl
    · cases h
  · exact .inl rfl
noncomputable def S43 : List (Nat × Sig) := (4, law19_JobsLends_sig) :: S42
theorem S43_ok : ListOk Try.prog S43 := ListOk.cons S42_ok law19_JobsLends_ok
noncomputable def law19_JobsEnds_C : Cfg := { P := Try.prog, sig := lookSig S43, hb := fun _ _ => none, hr := fun _ _ => none }
noncomputable def law19_JobsEnds_un : List DV → Option (Bool) := fun | [⟨.bool, r0⟩] => some r0 | _ => none
noncomputable def law19_JobsEnds_mk : Bool → List DV := fun r0 => [⟨.bool, r0⟩]
theorem law19_JobsEnds_ex : ∃ f : (List (Int × Int × Int × ByteArray × Int × ByteArray × Int)) → (Int) → (ByteArray) → (Int) → (Int) → Option (Bool), f = fun (x0 : List (Int × Int × Int × ByteArray × Int × ByteArray × Int)) (x1 : Int) (x2 : ByteArray) (x3 : Int) (x4 : Int) => funRun law19_JobsEnds_C 3 5 [(false, [(false, .slice (.pair (.int .i64) (.pair (.int .i64) (.pair (.int .i64) (.pair (.str) (.pair (.int .i64) (.pair (.str) (.int .i64))))))))]), (false, [(false, .int .i64)]), (false, [(false, .str)]), (false, [(false, .int .i64)]), (false, [(false, .int .i64)])] [(false, [(false, .bool)])] law19_JobsEnds_un [⟨.slice (.pair (.int .i64) (.pair (.int .i64) (.pair (.int .i64) (.pair (.str) (.pair (.int .i64) (.pair (.str) (.int .i64))))))), x0⟩, ⟨.int .i64, x1⟩, ⟨.str, x2⟩, ⟨.int .i64, x3⟩, ⟨.int .i64, x4⟩] := ⟨_, rfl⟩
noncomputable def law19_JobsEnds : (List (Int × Int × Int × ByteArray × Int × ByteArray × Int)) → (Int) → (ByteArray) → (Int) → (Int) → Option (Bool) := law19_JobsEnds_ex.choose
theorem law19_JobsEnds_raw (x0 : List (Int × Int × Int × ByteArray × Int × ByteArray × Int)) (x1 : Int) (x2 : ByteArray) (x3 : Int) (x4 : Int) : law19_JobsEnds x0 x1 x2 x3 x4 = funRun law19_JobsEnds_C 3 5 [(false, [(false, .slice (.pair (.int .i64) (.pair (.int .i64) (.pair (.int .i64) (.pair (.str) (.pair (.int .i64) (.pair (.str) (.int .i64))))))))]), (false, [(false, .int .i64)]), (false, [(false, .str)]), (false, [(false, .int .i64)]), (false, [(false, .int .i64)])] [(false, [(false, .bool)])] law19_JobsEnds_un [⟨.slice (.pair (.int .i64) (.pair (.int .i64) (.pair (.int .i64) (.pair (.str) (.pair (.int .i64) (.pair (.str) (.int .i64))))))), x0⟩, ⟨.int .i64, x1⟩, ⟨.str, x2⟩, ⟨.int .i64, x3⟩, ⟨.int .i64, x4⟩] := congrFun (congrFun (congrFun (congrFun (congrFun (law19_JobsEnds_ex.choose_spec) x0) x1) x2) x3) x4
theorem law19_JobsEnds_eq (x0 : List (Int × Int × Int × ByteArray × Int × ByteArray × Int)) (x1 : Int) (x2 : ByteArray) (x3 : Int) (x4 : Int) : law19_JobsEnds x0 x1 x2 x3 x4 =
  (law19_may x0).bind fun val0 =>
  bif !val0
    then (law19_works).bind fun val4 =>
      some (val4)
    else bif decide (isize x2 > 60)
      then (law19_works).bind fun val6 =>
        some (val6)
      else (jobs_Done x0 x1 x2 x3).bind fun val6 =>
        (ref19_Done x0 x1 x2 x3).bind fun val8 =>
          bif val6.2.2.2.2.2.2.2.2 != val8.2.2.2.2.2.2.2.2
            then some false
            else bif !(val6.2.1 == val8.2.1 && (val6.2.2.1 == val8.2.2.1 && (val6.2.2.2.1 == val8.2.2.2.1 && (val6.2.2.2.2.1.toList == val8.2.2.2.2.1.toList && (val6.2.2.2.2.2.1 == val8.2.2.2.2.2.1 && (val6.2.2.2.2.2.2.1.toList == val8.2.2.2.2.2.2.1.toList && (val6.2.2.2.2.2.2.2.1 == val8.2.2.2.2.2.2.2.1 && true)))))))
              then some false
              else (ref19_Same val6.1 val8.1).bind fun val14 =>
                bif !val14
                  then some false
                  else (jobs_Fail x0 x1 x2 x3).bind fun val18 =>
                    (ref19_Fail x0 x1 x2 x3).bind fun val20 =>
                      bif val18.2.2.2.2.2.2.2.2 != val20.2.2.2.2.2.2.2.2
                        then some false
                        else bif !(val18.2.1 == val20.2.1 && (val18.2.2.1 == val20.2.2.1 && (val18.2.2.2.1 == val20.2.2.2.1 && (val18.2.2.2.2.1.toList == val20.2.2.2.2.1.toList && (val18.2.2.2.2.2.1 == val20.2.2.2.2.2.1 && (val18.2.2.2.2.2.2.1.toList == val20.2.2.2.2.2.2.1.toList && (val18.2.2.2.2.2.2.2.1 == val20.2.2.2.2.2.2.2.1 && true)))))))
                          then some false
                          else (ref19_Same val18.1 val20.1).bind fun val26 =>
                            bif !val26
                              then some false
                              else (jobs_Again x0 x1 x4).bind fun val30 =>
                                (ref19_Again x0 x1 x4).bind fun val32 =>
                                  bif val30.2 == val32.2
                                    then (ref19_Same val30.1 val32.1).bind fun val36 =>
                                      bif val36
                                        then (jobs_Without x0 x4).bind fun val40 =>
                                          (ref19_Without x0 x4).bind fun val42 =>
                                            (ref19_Same val40 val42).bind fun val44 =>
                                              bif val44
                                                then (law19_works).bind fun val48 =>
                                                  some (val48)
                                                else some false
                                        else some false
                                    else some false := (law19_JobsEnds_raw x0 x1 x2 x3 x4).trans (by kernel_rfl)
noncomputable def law19_JobsEnds_sig : Sig := { pm := [(false, [(false, .slice (.pair (.int .i64) (.pair (.int .i64) (.pair (.int .i64) (.pair (.str) (.pair (.int .i64) (.pair (.str) (.int .i64))))))))]), (false, [(false, .int .i64)]), (false, [(false, .str)]), (false, [(false, .int .i64)]), (false, [(false, .int .i64)])], rm := [(false, [(false, .bool)])], f := fun | [⟨.slice (.pair (.int .i64) (.pair (.int .i64) (.pair (.int .i64) (.pair (.str) (.pair (.int .i64) (.pair (.str) (.int .i64))))))), x0⟩, ⟨.int .i64, x1⟩, ⟨.str, x2⟩, ⟨.int .i64, x3⟩, ⟨.int .i64, x4⟩] => .yes _ (law19_JobsEnds x0 x1 x2 x3 x4) law19_JobsEnds_mk | _ => .no }
theorem law19_JobsEnds_ok : SigOk Try.prog 5 law19_JobsEnds_sig := by
  refine contract_of (C := law19_JobsEnds_C) (d := 3) S43_ok (callable_ex (by kernel_rfl)) ?_
  intro dvs
  unfold law19_JobsEnds_sig
  dsimp only
  split
  · refine .inr ⟨_, law19_JobsEnds_un, law19_JobsEnds_mk, congrArg (fun o => Cl.yes _ o _) (law19_JobsEnds_raw _ _ _ _ _), ?_⟩
    intro ds x h
    unfold law19_JobsEnds_un at h
    split at h
    · cases h; rfl
    · cases h
  · exact .inl rfl
noncomputable def S44 : List (Nat × Sig) := (5, law19_JobsEnds_sig) :: S43
theorem S44_ok : ListOk Try.prog S44 := ListOk.cons S43_ok law19_JobsEnds_ok
noncomputable def law19_JobsOne_C : Cfg := { P := Try.prog, sig := lookSig S44, hb := fun f b => bif Nat.beq f 6 && Nat.beq b 0 then some { tmps := [3, 4, 11, 12, 14, 15, 16, 17], obs := [420, 421, 580, 581], nils := [], kl := [580, 581, 420, 421, 292, 1116, 268, 932] } else bif Nat.beq f 6 && Nat.beq b 2 then some { tmps := [3, 4, 11, 12, 14, 15, 16, 17, 18, 19], obs := [420, 421, 580, 581], nils := [], kl := [580, 581, 420, 421, 292, 1116, 268, 932] } else none, hr := fun _ _ => none }
noncomputable def law19_JobsOne_un : List DV → Option (Bool) := fun | [⟨.bool, r0⟩] => some r0 | _ => none
noncomputable def law19_JobsOne_mk : Bool → List DV := fun r0 => [⟨.bool, r0⟩]
theorem law19_JobsOne_ex : ∃ f : (List (Int × Int × Int × ByteArray × Int × ByteArray × Int)) → (ByteArray) → (Int) → (Int) → (Int) → Option (Bool), f = fun (x0 : List (Int × Int × Int × ByteArray × Int × ByteArray × Int)) (x1 : ByteArray) (x2 : Int) (x3 : Int) (x4 : Int) => funRun law19_JobsOne_C 3 6 [(false, [(false, .slice (.pair (.int .i64) (.pair (.int .i64) (.pair (.int .i64) (.pair (.str) (.pair (.int .i64) (.pair (.str) (.int .i64))))))))]), (false, [(false, .str)]), (false, [(false, .int .i64)]), (false, [(false, .int .i64)]), (false, [(false, .int .i64)])] [(false, [(false, .bool)])] law19_JobsOne_un [⟨.slice (.pair (.int .i64) (.pair (.int .i64) (.pair (.int .i64) (.pair (.str) (.pair (.int .i64) (.pair (.str) (.int .i64))))))), x0⟩, ⟨.str, x1⟩, ⟨.int .i64, x2⟩, ⟨.int .i64, x3⟩, ⟨.int .i64, x4⟩] := ⟨_, rfl⟩
noncomputable def law19_JobsOne : (List (Int × Int × Int × ByteArray × Int × ByteArray × Int)) → (ByteArray) → (Int) → (Int) → (Int) → Option (Bool) := law19_JobsOne_ex.choose
theorem law19_JobsOne_raw (x0 : List (Int × Int × Int × ByteArray × Int × ByteArray × Int)) (x1 : ByteArray) (x2 : Int) (x3 : Int) (x4 : Int) : law19_JobsOne x0 x1 x2 x3 x4 = funRun law19_JobsOne_C 3 6 [(false, [(false, .slice (.pair (.int .i64) (.pair (.int .i64) (.pair (.int .i64) (.pair (.str) (.pair (.int .i64) (.pair (.str) (.int .i64))))))))]), (false, [(false, .str)]), (false, [(false, .int .i64)]), (false, [(false, .int .i64)]), (false, [(false, .int .i64)])] [(false, [(false, .bool)])] law19_JobsOne_un [⟨.slice (.pair (.int .i64) (.pair (.int .i64) (.pair (.int .i64) (.pair (.str) (.pair (.int .i64) (.pair (.str) (.int .i64))))))), x0⟩, ⟨.str, x1⟩, ⟨.int .i64, x2⟩, ⟨.int .i64, x3⟩, ⟨.int .i64, x4⟩] := congrFun (congrFun (congrFun (congrFun (congrFun (law19_JobsOne_ex.choose_spec) x0) x1) x2) x3) x4
noncomputable def law19_JobsOne_l0 (y0 : Int) (y1 : Int) (y2 : Int) (y3 : Int) (y4 : List ((Int) × ((Int) × ((Int) × ((ByteArray) × ((Int) × ((ByteArray) × (Int)))))))) (y5 : List ((Int) × ((Int) × ((Int) × ((ByteArray) × ((Int) × ((ByteArray) × (Int)))))))) (y6 : List ((Int) × ((Int) × ((Int) × ((ByteArray) × ((Int) × ((ByteArray) × (Int)))))))) (y7 : List ((Int) × ((Int) × ((Int) × ((ByteArray) × ((Int) × ((ByteArray) × (Int)))))))) : Option (Bool) := loopAt law19_JobsOne_C 3 6 [(false, [(false, .bool)])] law19_JobsOne_un [true, true, true, true, true, false, true, false] (St.ofLists [(3, .int .i64 y0), (4, .int .i64 y1), (11, .ow 420), (12, .ow 421), (14, .ow 580), (15, .ow 581), (16, .int .i64 y2), (17, .int .i64 y3)] [(420, some (.row ((Ty.int IntKind.i64).pair ((Ty.int IntKind.i64).pair ((Ty.int IntKind.i64).pair (Ty.str.pair ((Ty.int IntKind.i64).pair (Ty.str.pair (Ty.int IntKind.i64))))))) y4 0 false)), (421, some (.row ((Ty.int IntKind.i64).pair ((Ty.int IntKind.i64).pair ((Ty.int IntKind.i64).pair (Ty.str.pair ((Ty.int IntKind.i64).pair (Ty.str.pair (Ty.int IntKind.i64))))))) y5 0 false)), (580, some (.row ((Ty.int IntKind.i64).pair ((Ty.int IntKind.i64).pair ((Ty.int IntKind.i64).pair (Ty.str.pair ((Ty.int IntKind.i64).pair (Ty.str.pair (Ty.int IntKind.i64))))))) y6 0 false)), (581, some (.row ((Ty.int IntKind.i64).pair ((Ty.int IntKind.i64).pair ((Ty.int IntKind.i64).pair (Ty.str.pair ((Ty.int IntKind.i64).pair (Ty.str.pair (Ty.int IntKind.i64))))))) y7 0 false))] [580, 581, 420, 421, 292, 1116, 268, 932])
noncomputable def law19_JobsOne_l2 (y0 : Int) (y1 : Int) (y2 : Int) (y3 : Int) (y4 : Bool) (y5 : Int) (y6 : List ((Int) × ((Int) × ((Int) × ((ByteArray) × ((Int) × ((ByteArray) × (Int)))))))) (y7 : List ((Int) × ((Int) × ((Int) × ((ByteArray) × ((Int) × ((ByteArray) × (Int)))))))) (y8 : List ((Int) × ((Int) × ((Int) × ((ByteArray) × ((Int) × ((ByteArray) × (Int)))))))) (y9 : List ((Int) × ((Int) × ((Int) × ((ByteArray) × ((Int) × ((ByteArray) × (Int)))))))) : Option (Bool) := loopAt law19_JobsOne_C 3 6 [(false, [(false, .bool)])] law19_JobsOne_un [true, true, true, true, true, false, true, false, false, true, false, false, true, false, true, false] (St.ofLists [(3, .int .i64 y0), (4, .int .i64 y1), (11, .ow 420), (12, .ow 421), (14, .ow 580), (15, .ow 581), (16, .int .i64 y2), (17, .int .i64 y3), (18, .bool y4), (19, .int .i64 y5)] [(420, some (.row ((Ty.int IntKind.i64).pair ((Ty.int IntKind.i64).pair ((Ty.int IntKind.i64).pair (Ty.str.pair ((Ty.int IntKind.i64).pair (Ty.str.pair (Ty.int IntKind.i64))))))) y6 0 false)), (421, some (.row ((Ty.int IntKind.i64).pair ((Ty.int IntKind.i64).pair ((Ty.int IntKind.i64).pair (Ty.str.pair ((Ty.int IntKind.i64).pair (Ty.str.pair (Ty.int IntKind.i64))))))) y7 0 false)), (580, some (.row ((Ty.int IntKind.i64).pair ((Ty.int IntKind.i64).pair ((Ty.int IntKind.i64).pair (Ty.str.pair ((Ty.int IntKind.i64).pair (Ty.str.pair (Ty.int IntKind.i64))))))) y8 0 false)), (581, some (.row ((Ty.int IntKind.i64).pair ((Ty.int IntKind.i64).pair ((Ty.int IntKind.i64).pair (Ty.str.pair ((Ty.int IntKind.i64).pair (Ty.str.pair (Ty.int IntKind.i64))))))) y9 0 false))] [580, 581, 420, 421, 292, 1116, 268, 932])
theorem law19_JobsOne_eq (x0 : List (Int × Int × Int × ByteArray × Int × ByteArray × Int)) (x1 : ByteArray) (x2 : Int) (x3 : Int) (x4 : Int) : law19_JobsOne x0 x1 x2 x3 x4 =
  (law19_may x0).bind fun val0 =>
  bif !val0
    then (law19_works).bind fun val4 =>
      some (val4)
    else bif decide (isize x1 > 60)
      then (law19_works).bind fun val6 =>
        some (val6)
      else (jobs_Lend x0 x1 (⟨#[97]⟩ : ByteArray) x2 x3 8).bind fun val6 =>
        bif val6.2.2 != 0
          then (law19_works).bind fun val10 =>
            some (val10)
          else bif decide (x4 < x2)
            then (law19_works).bind fun val12 =>
              some (val12)
            else bif decide (x4 > 1099511627776)
              then (law19_works).bind fun val14 =>
                some (val14)
              else (jobs_Lend val6.1 x1 (⟨#[98]⟩ : ByteArray) x4 1099511627776 8).bind fun val14 =>
                law19_JobsOne_l0 (x3) (x4) (val14.2.2) (0) (val6.1) (val6.2.1) (val14.1) (val14.2.1) := (law19_JobsOne_raw x0 x1 x2 x3 x4).trans (by kernel_rfl)
theorem law19_JobsOne_l0_eq (y0 : Int) (y1 : Int) (y2 : Int) (y3 : Int) (y4 : List ((Int) × ((Int) × ((Int) × ((ByteArray) × ((Int) × ((ByteArray) × (Int)))))))) (y5 : List ((Int) × ((Int) × ((Int) × ((ByteArray) × ((Int) × ((ByteArray) × (Int)))))))) (y6 : List ((Int) × ((Int) × ((Int) × ((ByteArray) × ((Int) × ((ByteArray) × (Int)))))))) (y7 : List ((Int) × ((Int) × ((Int) × ((ByteArray) × ((Int) × ((ByteArray) × (Int)))))))) : law19_JobsOne_l0 y0 y1 y2 y3 y4 y5 y6 y7 =
  bif decide (y3 < ilen y5)
  then law19_JobsOne_l2 (y0) (y1) (y2) (y3) (false) (0) (y4) (y5) (y6) (y7)
  else (law19_works).bind fun val2 =>
    some (val2) := (loopAt_step _ _ _ _ _ _ _).trans (by kernel_rfl)
theorem law19_JobsOne_l2_eq (y0 : Int) (y1 : Int) (y2 : Int) (y3 : Int) (y4 : Bool) (y5 : Int) (y6 : List ((Int) × ((Int) × ((Int) × ((ByteArray) × ((Int) × ((ByteArray) × (Int)))))))) (y7 : List ((Int) × ((Int) × ((Int) × ((ByteArray) × ((Int) × ((ByteArray) × (Int)))))))) (y8 : List ((Int) × ((Int) × ((Int) × ((ByteArray) × ((Int) × ((ByteArray) × (Int)))))))) (y9 : List ((Int) × ((Int) × ((Int) × ((ByteArray) × ((Int) × ((ByteArray) × (Int)))))))) : law19_JobsOne_l2 y0 y1 y2 y3 y4 y5 y6 y7 y8 y9 =
  bif decide (y5 < ilen y9)
  then bif y4
    then law19_JobsOne_l2 (y0) (y1) (y2) (y3) (true) (IntKind.i64.wrap (y5 + 1)) (y6) (y7) (y8) (y9)
    else bif decide (0 ≤ y5)
      then bif decide (y5 < ilen y9)
        then (y9[y5.toNat]?).bind fun val8 =>
          bif decide (0 ≤ y3)
            then bif decide (y3 < ilen y7)
              then (y7[y3.toNat]?).bind fun val14 =>
                law19_JobsOne_l2 (y0) (y1) (y2) (y3) (val8.fst == val14.fst) (IntKind.i64.wrap (y5 + 1)) (y6) (y7) (y8) (y9)
              else none
            else none
        else none
      else none
  else bif decide (y1 < y0)
    then bif y4
      then some false
      else bif decide (0 ≤ y3)
        then bif decide (y3 < ilen y7)
          then (y7[y3.toNat]?).bind fun val10 =>
            (jobs_Done y6 val10.fst (⟨#[97]⟩ : ByteArray) y1).bind fun val12 =>
              bif !(val12.2.2.2.2.2.2.2.2 == 0) == decide (y1 < y0)
                then some false
                else bif y2 == 0
                  then bif y4
                    then bif decide (0 ≤ y3)
                      then bif decide (y3 < ilen y7)
                        then (y7[y3.toNat]?).bind fun val24 =>
                          (jobs_Done y8 val24.fst (⟨#[97]⟩ : ByteArray) y1).bind fun val26 =>
                            bif val26.2.2.2.2.2.2.2.2 == 0
                              then some false
                              else law19_JobsOne_l0 (y0) (y1) (y2) (IntKind.i64.wrap (y3 + 1)) (y6) (y7) (y8) (y9)
                        else none
                      else none
                    else law19_JobsOne_l0 (y0) (y1) (y2) (IntKind.i64.wrap (y3 + 1)) (y6) (y7) (y8) (y9)
                  else law19_JobsOne_l0 (y0) (y1) (y2) (IntKind.i64.wrap (y3 + 1)) (y6) (y7) (y8) (y9)
          else none
        else none
    else bif decide (0 ≤ y3)
      then bif decide (y3 < ilen y7)
        then (y7[y3.toNat]?).bind fun val8 =>
          (jobs_Done y6 val8.fst (⟨#[97]⟩ : ByteArray) y1).bind fun val10 =>
            bif !(val10.2.2.2.2.2.2.2.2 == 0) == decide (y1 < y0)
              then some false
              else bif y2 == 0
                then bif y4
                  then bif decide (0 ≤ y3)
                    then bif decide (y3 < ilen y7)
                      then (y7[y3.toNat]?).bind fun val22 =>
                        (jobs_Done y8 val22.fst (⟨#[97]⟩ : ByteArray) y1).bind fun val24 =>
                          bif val24.2.2.2.2.2.2.2.2 == 0
                            then some false
                            else law19_JobsOne_l0 (y0) (y1) (y2) (IntKind.i64.wrap (y3 + 1)) (y6) (y7) (y8) (y9)
                      else none
                    else none
                  else law19_JobsOne_l0 (y0) (y1) (y2) (IntKind.i64.wrap (y3 + 1)) (y6) (y7) (y8) (y9)
                else law19_JobsOne_l0 (y0) (y1) (y2) (IntKind.i64.wrap (y3 + 1)) (y6) (y7) (y8) (y9)
        else none
      else none := (loopAt_step _ _ _ _ _ _ _).trans (by kernel_rfl)
noncomputable def law19_JobsOne_sig : Sig := { pm := [(false, [(false, .slice (.pair (.int .i64) (.pair (.int .i64) (.pair (.int .i64) (.pair (.str) (.pair (.int .i64) (.pair (.str) (.int .i64))))))))]), (false, [(false, .str)]), (false, [(false, .int .i64)]), (false, [(false, .int .i64)]), (false, [(false, .int .i64)])], rm := [(false, [(false, .bool)])], f := fun | [⟨.slice (.pair (.int .i64) (.pair (.int .i64) (.pair (.int .i64) (.pair (.str) (.pair (.int .i64) (.pair (.str) (.int .i64))))))), x0⟩, ⟨.str, x1⟩, ⟨.int .i64, x2⟩, ⟨.int .i64, x3⟩, ⟨.int .i64, x4⟩] => .yes _ (law19_JobsOne x0 x1 x2 x3 x4) law19_JobsOne_mk | _ => .no }
theorem law19_JobsOne_ok : SigOk Try.prog 6 law19_JobsOne_sig := by
  refine contract_of (C := law19_JobsOne_C) (d := 3) S44_ok (callable_ex (by kernel_rfl)) ?_
  intro dvs
  unfold law19_JobsOne_sig
  dsimp only
  split
  · refine .inr ⟨_, law19_JobsOne_un, law19_JobsOne_mk, congrArg (fun o => Cl.yes _ o _) (law19_JobsOne_raw _ _ _ _ _), ?_⟩
    intro ds x h
    unfold law19_JobsOne_un at h
    split at h
    · cases h; rfl
    · cases h
  · exact .inl rfl
noncomputable def S45 : List (Nat × Sig) := (6, law19_JobsOne_sig) :: S44
theorem S45_ok : ListOk Try.prog S45 := ListOk.cons S44_ok law19_JobsOne_ok
noncomputable def law19_JobsTries_C : Cfg := { P := Try.prog, sig := lookSig S45, hb := fun f b => bif Nat.beq f 7 && Nat.beq b 0 then some { tmps := [1, 2, 7, 9, 10, 11], obs := [156, 60], nils := [(9, 60, (.pair (.int .i64) (.pair (.int .i64) (.pair (.int .i64) (.pair (.str) (.pair (.int .i64) (.pair (.str) (.int .i64))))))))], kl := [412, 156, 612, 508, 509, 60] } else none, hr := fun f b => bif Nat.beq f 7 && Nat.beq b 20 then some { tmps := [1, 2, 7, 9, 10], obs := [156, 60], nils := [(9, 60, (.pair (.int .i64) (.pair (.int .i64) (.pair (.int .i64) (.pair (.str) (.pair (.int .i64) (.pair (.str) (.int .i64))))))))], kl := [508, 509, 412, 156, 612, 60] } else none }
noncomputable def law19_JobsTries_un : List DV → Option (Bool) := fun | [⟨.bool, r0⟩] => some r0 | _ => none
noncomputable def law19_JobsTries_mk : Bool → List DV := fun r0 => [⟨.bool, r0⟩]
theorem law19_JobsTries_ex : ∃ f : (List (Int × Int × Int × ByteArray × Int × ByteArray × Int)) → (Int) → (Int) → Option (Bool), f = fun (x0 : List (Int × Int × Int × ByteArray × Int × ByteArray × Int)) (x1 : Int) (x2 : Int) => funRun law19_JobsTries_C 3 7 [(false, [(false, .slice (.pair (.int .i64) (.pair (.int .i64) (.pair (.int .i64) (.pair (.str) (.pair (.int .i64) (.pair (.str) (.int .i64))))))))]), (false, [(false, .int .i64)]), (false, [(false, .int .u8)])] [(false, [(false, .bool)])] law19_JobsTries_un [⟨.slice (.pair (.int .i64) (.pair (.int .i64) (.pair (.int .i64) (.pair (.str) (.pair (.int .i64) (.pair (.str) (.int .i64))))))), x0⟩, ⟨.int .i64, x1⟩, ⟨.int .u8, x2⟩] := ⟨_, rfl⟩
noncomputable def law19_JobsTries : (List (Int × Int × Int × ByteArray × Int × ByteArray × Int)) → (Int) → (Int) → Option (Bool) := law19_JobsTries_ex.choose
theorem law19_JobsTries_raw (x0 : List (Int × Int × Int × ByteArray × Int × ByteArray × Int)) (x1 : Int) (x2 : Int) : law19_JobsTries x0 x1 x2 = funRun law19_JobsTries_C 3 7 [(false, [(false, .slice (.pair (.int .i64) (.pair (.int .i64) (.pair (.int .i64) (.pair (.str) (.pair (.int .i64) (.pair (.str) (.int .i64))))))))]), (false, [(false, .int .i64)]), (false, [(false, .int .u8)])] [(false, [(false, .bool)])] law19_JobsTries_un [⟨.slice (.pair (.int .i64) (.pair (.int .i64) (.pair (.int .i64) (.pair (.str) (.pair (.int .i64) (.pair (.str) (.int .i64))))))), x0⟩, ⟨.int .i64, x1⟩, ⟨.int .u8, x2⟩] := congrFun (congrFun (congrFun (law19_JobsTries_ex.choose_spec) x0) x1) x2
noncomputable def law19_JobsTries_l0 (y0 : Int) (y1 : Int) (y2 : Int) (y3 : Int) (y4 : Int) (y5 : Int) (y6 : Int) (y7 : ByteArray) (y8 : Int) (y9 : ByteArray) (y10 : Int) (y11 : List ((Int) × ((Int) × ((Int) × ((ByteArray) × ((Int) × ((ByteArray) × (Int)))))))) : Option (Bool) := loopAt law19_JobsTries_C 3 7 [(false, [(false, .bool)])] law19_JobsTries_un [true, true, true, true, true, true, false, true, false] (St.ofLists [(1, .int .i64 y0), (2, .int .u8 y1), (7, .ptr 156 0), (9, .ow 60), (10, .int .i64 y2), (11, .int .i64 y3)] [(156, some (.cells [.int .i64 y4, .int .i64 y5, .int .i64 y6, .str y7, .int .i64 y8, .str y9, .int .i64 y10])), (60, some (.row ((Ty.int IntKind.i64).pair ((Ty.int IntKind.i64).pair ((Ty.int IntKind.i64).pair (Ty.str.pair ((Ty.int IntKind.i64).pair (Ty.str.pair (Ty.int IntKind.i64))))))) y11 0 false))] [412, 156, 612, 508, 509, 60])
noncomputable def law19_JobsTries_r20 (y0 : Int) (y1 : Int) (y2 : Int) (y3 : Int) (y4 : Int) (y5 : Int) (y6 : ByteArray) (y7 : Int) (y8 : ByteArray) (y9 : Int) (y10 : List ((Int) × ((Int) × ((Int) × ((ByteArray) × ((Int) × ((ByteArray) × (Int)))))))) : Option (Bool) := regAt law19_JobsTries_C 3 7 [(false, [(false, .bool)])] law19_JobsTries_un [true, true, true, true, true, true, true, false, false] (St.ofLists [(1, .int .i64 y0), (2, .int .u8 y1), (7, .ptr 156 0), (9, .ow 60), (10, .int .i64 y2)] [(156, some (.cells [.int .i64 y3, .int .i64 y4, .int .i64 y5, .str y6, .int .i64 y7, .str y8, .int .i64 y9])), (60, some (.row ((Ty.int IntKind.i64).pair ((Ty.int IntKind.i64).pair ((Ty.int IntKind.i64).pair (Ty.str.pair ((Ty.int IntKind.i64).pair (Ty.str.pair (Ty.int IntKind.i64))))))) y10 0 false))] [508, 509, 412, 156, 612, 60])
theorem law19_JobsTries_eq (x0 : List (Int × Int × Int × ByteArray × Int × ByteArray × Int)) (x1 : Int) (x2 : Int) : law19_JobsTries x0 x1 x2 =
  (law19_may x0).bind fun val0 =>
  bif !val0
    then (law19_works).bind fun val4 =>
      some (val4)
    else (jobs_Get x0 x1).bind fun val4 =>
      bif !val4.2.2.2.2.2.2.2
        then (law19_works).bind fun val8 =>
          some (val8)
        else bif !val4.2.2.2.2.2.1.toList == (⟨#[]⟩ : ByteArray).toList
          then (law19_works).bind fun val10 =>
            some (val10)
          else law19_JobsTries_l0 (x1) (x2) (0) (0) (val4.1) (val4.2.1) (val4.2.2.1) (val4.2.2.2.1) (val4.2.2.2.2.1) (val4.2.2.2.2.2.1) (val4.2.2.2.2.2.2.1) ([(val4.1, val4.2.1, val4.2.2.1, val4.2.2.2.1, val4.2.2.2.2.1, val4.2.2.2.2.2.1, val4.2.2.2.2.2.2.1)]) := (law19_JobsTries_raw x0 x1 x2).trans (by kernel_rfl)
theorem law19_JobsTries_l0_eq (y0 : Int) (y1 : Int) (y2 : Int) (y3 : Int) (y4 : Int) (y5 : Int) (y6 : Int) (y7 : ByteArray) (y8 : Int) (y9 : ByteArray) (y10 : Int) (y11 : List ((Int) × ((Int) × ((Int) × ((ByteArray) × ((Int) × ((ByteArray) × (Int)))))))) : law19_JobsTries_l0 y0 y1 y2 y3 y4 y5 y6 y7 y8 y9 y10 y11 =
  bif decide (y3 < 20)
  then (jobs_Lend y11 y7 (⟨#[119]⟩ : ByteArray) y3 (IntKind.i64.wrap (y3 + 1)) 1).bind fun val2 =>
    bif val2.2.2 != 0
      then some false
      else bif ilen val2.2.1 == 0
        then law19_JobsTries_r20 (y0) (y1) (y2) (y4) (y5) (y6) (y7) (y8) (y9) (y10) (y11)
        else (jobs_Fail val2.1 y0 (⟨#[119]⟩ : ByteArray) y3).bind fun val8 =>
          bif val8.2.2.2.2.2.2.2.2 != 0
            then some false
            else law19_JobsTries_l0 (y0) (y1) (IntKind.i64.wrap (y2 + 1)) (IntKind.i64.wrap (y3 + 1)) (y4) (y5) (y6) (y7) (y8) (y9) (y10) (val8.1)
  else law19_JobsTries_r20 (y0) (y1) (y2) (y4) (y5) (y6) (y7) (y8) (y9) (y10) (y11) := (loopAt_step _ _ _ _ _ _ _).trans (by kernel_rfl)
theorem law19_JobsTries_r20_eq (y0 : Int) (y1 : Int) (y2 : Int) (y3 : Int) (y4 : Int) (y5 : Int) (y6 : ByteArray) (y7 : Int) (y8 : ByteArray) (y9 : Int) (y10 : List ((Int) × ((Int) × ((Int) × ((ByteArray) × ((Int) × ((ByteArray) × (Int)))))))) : law19_JobsTries_r20 y0 y1 y2 y3 y4 y5 y6 y7 y8 y9 y10 =
  bif y2 != y7
  then some false
  else (jobs_Again y10 y0 (IntKind.i64.wrap (1 + (IntKind.i64.wrap y1).tmod 9))).bind fun val2 =>
    bif val2.2 != 0
      then some false
      else (jobs_Get val2.1 y0).bind fun val6 =>
        bif val6.2.2.2.2.2.2.2
          then bif val6.2.2.2.2.1 == IntKind.i64.wrap (1 + (IntKind.i64.wrap y1).tmod 9)
            then bif val6.2.2.2.2.2.1.toList == (⟨#[]⟩ : ByteArray).toList
              then (law19_works).bind fun val14 =>
                some (val14)
              else some false
            else some false
          else some false := (regAt_step _ _ _ _ _ _ _).trans (by kernel_rfl)
noncomputable def law19_JobsTries_sig : Sig := { pm := [(false, [(false, .slice (.pair (.int .i64) (.pair (.int .i64) (.pair (.int .i64) (.pair (.str) (.pair (.int .i64) (.pair (.str) (.int .i64))))))))]), (false, [(false, .int .i64)]), (false, [(false, .int .u8)])], rm := [(false, [(false, .bool)])], f := fun | [⟨.slice (.pair (.int .i64) (.pair (.int .i64) (.pair (.int .i64) (.pair (.str) (.pair (.int .i64) (.pair (.str) (.int .i64))))))), x0⟩, ⟨.int .i64, x1⟩, ⟨.int .u8, x2⟩] => .yes _ (law19_JobsTries x0 x1 x2) law19_JobsTries_mk | _ => .no }
theorem law19_JobsTries_ok : SigOk Try.prog 7 law19_JobsTries_sig := by
  refine contract_of (C := law19_JobsTries_C) (d := 3) S45_ok (callable_ex (by kernel_rfl)) ?_
  intro dvs
  unfold law19_JobsTries_sig
  dsimp only
  split
  · refine .inr ⟨_, law19_JobsTries_un, law19_JobsTries_mk, congrArg (fun o => Cl.yes _ o _) (law19_JobsTries_raw _ _ _), ?_⟩
    intro ds x h
    unfold law19_JobsTries_un at h
    split at h
    · cases h; rfl
    · cases h
  · exact .inl rfl
noncomputable def S46 : List (Nat × Sig) := (7, law19_JobsTries_sig) :: S45
theorem S46_ok : ListOk Try.prog S46 := ListOk.cons S45_ok law19_JobsTries_ok
end Go.Proofs.Ytknmnhkocdnnhaa.PE
