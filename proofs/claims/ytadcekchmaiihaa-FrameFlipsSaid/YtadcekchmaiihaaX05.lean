import Derived.Test.YtadcekchmaiihaaEFun
import Derived.KernelRfl
namespace Go.Proofs.Ytadcekchmaiihaa.PE
set_option linter.unusedVariables false
open Go.Proofs
noncomputable def S0 : List (Nat × Sig) := []
theorem S0_ok : ListOk Try.prog S0 := ListOk.nil
noncomputable def P0 : List (Nat × Sig) := []
theorem P0_ok : ListPOk Try.prog P0 := ListPOk.nil
noncomputable def ref02_Same_C : Cfg := { P := Try.prog, sig := lookSig S0, hb := fun _ _ => none, hr := fun _ _ => none }
noncomputable def ref02_Same_un : List DV → Option (Bool) := fun | [⟨.bool, r0⟩] => some r0 | _ => none
noncomputable def ref02_Same_mk : Bool → List DV := fun r0 => [⟨.bool, r0⟩]
theorem ref02_Same_ex : ∃ f : (List Int) → (List Int) → Option (Bool), f = fun (x0 : List Int) (x1 : List Int) => funRun ref02_Same_C 3 11 [(false, [(false, .slice (.int .u8))]), (false, [(false, .slice (.int .u8))])] [(false, [(false, .bool)])] ref02_Same_un [⟨.slice (.int .u8), x0⟩, ⟨.slice (.int .u8), x1⟩] := ⟨_, rfl⟩
noncomputable def ref02_Same : (List Int) → (List Int) → Option (Bool) := ref02_Same_ex.choose
theorem ref02_Same_raw (x0 : List Int) (x1 : List Int) : ref02_Same x0 x1 = funRun ref02_Same_C 3 11 [(false, [(false, .slice (.int .u8))]), (false, [(false, .slice (.int .u8))])] [(false, [(false, .bool)])] ref02_Same_un [⟨.slice (.int .u8), x0⟩, ⟨.slice (.int .u8), x1⟩] := congrFun (congrFun (ref02_Same_ex.choose_spec) x0) x1
theorem ref02_Same_eq (x0 : List Int) (x1 : List Int) : ref02_Same x0 x1 =
  some ((strOf x0).toList == (strOf x1).toList) := (ref02_Same_raw x0 x1).trans (by kernel_rfl)
noncomputable def ref02_Same_sig : Sig := { pm := [(false, [(false, .slice (.int .u8))]), (false, [(false, .slice (.int .u8))])], rm := [(false, [(false, .bool)])], f := fun | [⟨.slice (.int .u8), x0⟩, ⟨.slice (.int .u8), x1⟩] => .yes _ (ref02_Same x0 x1) ref02_Same_mk | _ => .no }
theorem ref02_Same_ok : SigOk Try.prog 11 ref02_Same_sig := by
  refine contract_of (C := ref02_Same_C) (d := 3) ⟨S0_ok, noPs⟩ (callable_ex (by kernel_rfl)) ?_
  intro dvs
  unfold ref02_Same_sig
  dsimp only
  split
  · refine .inr ⟨_, ref02_Same_un, ref02_Same_mk, congrArg (fun o => Cl.yes _ o _) (ref02_Same_raw _ _), ?_⟩
    intro ds x h
    unfold ref02_Same_un at h
    split at h
    · cases h; rfl
    · cases h
  · exact .inl rfl
noncomputable def S1 : List (Nat × Sig) := (11, ref02_Same_sig) :: S0
theorem S1_ok : ListOk Try.prog S1 := ListOk.cons S0_ok ref02_Same_ok
noncomputable def frame_put_C : Cfg := { P := Try.prog, sig := lookSig S1, hb := fun _ _ => none, hr := fun _ _ => none }
noncomputable def frame_put_un : List DV → Option ((List Int)) := fun | [⟨.slice (.int .u8), r0⟩] => some r0 | _ => none
noncomputable def frame_put_mk : (List Int) → List DV := fun r0 => [⟨.slice (.int .u8), r0⟩]
theorem frame_put_ex : ∃ f : (List Int) → (Int) → Option ((List Int)), f = fun (x0 : List Int) (x1 : Int) => funRun frame_put_C 3 20 [(false, [(true, .slice (.int .u8))]), (false, [(false, .int .u32)])] [(false, [(true, .slice (.int .u8))])] frame_put_un [⟨.slice (.int .u8), x0⟩, ⟨.int .u32, x1⟩] := ⟨_, rfl⟩
noncomputable def frame_put : (List Int) → (Int) → Option ((List Int)) := frame_put_ex.choose
theorem frame_put_raw (x0 : List Int) (x1 : Int) : frame_put x0 x1 = funRun frame_put_C 3 20 [(false, [(true, .slice (.int .u8))]), (false, [(false, .int .u32)])] [(false, [(true, .slice (.int .u8))])] frame_put_un [⟨.slice (.int .u8), x0⟩, ⟨.int .u32, x1⟩] := congrFun (congrFun (frame_put_ex.choose_spec) x0) x1
theorem frame_put_eq (x0 : List Int) (x1 : Int) : frame_put x0 x1 =
  bif decide ((ilen x0 + ilen [IntKind.u8.wrap x1, IntKind.u8.wrap (x1.fdiv (2 ^ min (Int.toNat 8) IntKind.u32.bits)), IntKind.u8.wrap (x1.fdiv (2 ^ min (Int.toNat 16) IntKind.u32.bits)), IntKind.u8.wrap (x1.fdiv (2 ^ min (Int.toNat 24) IntKind.u32.bits))]) * 1 ≤ room)
  then some (x0 ++ [IntKind.u8.wrap x1, IntKind.u8.wrap (x1.fdiv (2 ^ min (Int.toNat 8) IntKind.u32.bits)), IntKind.u8.wrap (x1.fdiv (2 ^ min (Int.toNat 16) IntKind.u32.bits)), IntKind.u8.wrap (x1.fdiv (2 ^ min (Int.toNat 24) IntKind.u32.bits))])
  else none := (frame_put_raw x0 x1).trans (by kernel_rfl)
noncomputable def frame_put_sig : Sig := { pm := [(false, [(true, .slice (.int .u8))]), (false, [(false, .int .u32)])], rm := [(false, [(true, .slice (.int .u8))])], f := fun | [⟨.slice (.int .u8), x0⟩, ⟨.int .u32, x1⟩] => .yes _ (frame_put x0 x1) frame_put_mk | _ => .no }
theorem frame_put_ok : SigOk Try.prog 20 frame_put_sig := by
  refine contract_of (C := frame_put_C) (d := 3) ⟨S1_ok, noPs⟩ (callable_ex (by kernel_rfl)) ?_
  intro dvs
  unfold frame_put_sig
  dsimp only
  split
  · refine .inr ⟨_, frame_put_un, frame_put_mk, congrArg (fun o => Cl.yes _ o _) (frame_put_raw _ _), ?_⟩
    intro ds x h
    unfold frame_put_un at h
    split at h
    · cases h; rfl
    · cases h
  · exact .inl rfl
noncomputable def S2 : List (Nat × Sig) := (20, frame_put_sig) :: S1
theorem S2_ok : ListOk Try.prog S2 := ListOk.cons S1_ok frame_put_ok
noncomputable def crc_Update_C : Cfg := { P := Try.prog, sig := lookSig S2, hb := fun f b =>   bif Nat.beq f 21 && Nat.beq b 0 then some { tmps := [0, 10, 11, 12], obs := [], nils := [], kl := [] } else bif Nat.beq f 21 && Nat.beq b 2 then some { tmps := [0, 10, 11, 12, 20], obs := [], nils := [], kl := [] } else none, hr := fun _ _ => none }
noncomputable def crc_Update_un : List DV → Option (Int) := fun | [⟨.int .u32, r0⟩] => some r0 | _ => none
noncomputable def crc_Update_mk : Int → List DV := fun r0 => [⟨.int .u32, r0⟩]
theorem crc_Update_ex : ∃ f : (Int) → (List Int) → Option (Int), f = fun (x0 : Int) (x1 : List Int) => funRun crc_Update_C 3 21 [(false, [(false, .int .u32)]), (false, [(false, .slice (.int .u8))])] [(false, [(false, .int .u32)])] crc_Update_un [⟨.int .u32, x0⟩, ⟨.slice (.int .u8), x1⟩] := ⟨_, rfl⟩
noncomputable def crc_Update : (Int) → (List Int) → Option (Int) := crc_Update_ex.choose
theorem crc_Update_raw (x0 : Int) (x1 : List Int) : crc_Update x0 x1 = funRun crc_Update_C 3 21 [(false, [(false, .int .u32)]), (false, [(false, .slice (.int .u8))])] [(false, [(false, .int .u32)])] crc_Update_un [⟨.int .u32, x0⟩, ⟨.slice (.int .u8), x1⟩] := congrFun (congrFun (crc_Update_ex.choose_spec) x0) x1
noncomputable def crc_Update_l0 (y0 : Int) (y1 : List (Int)) (y2 : Int) (y3 : Int) : Option (Int) := loopAt crc_Update_C 3 21 [(false, [(false, .int .u32)])] crc_Update_un [true, true, false, true, false] (St.ofLists [(0, .int .u32 y0), (10, .fz (Ty.int IntKind.u8) y1 false false), (11, .int .i64 y2), (12, .int .i64 y3)] [] [])
noncomputable def crc_Update_l2 (y0 : Int) (y1 : List (Int)) (y2 : Int) (y3 : Int) (y4 : Int) : Option (Int) := loopAt crc_Update_C 3 21 [(false, [(false, .int .u32)])] crc_Update_un [true, true, false, true, false, false, true, true, false, false, true, true, true, false] (St.ofLists [(0, .int .u32 y0), (10, .fz (Ty.int IntKind.u8) y1 false false), (11, .int .i64 y2), (12, .int .i64 y3), (20, .int .i64 y4)] [] [])
theorem crc_Update_eq (x0 : Int) (x1 : List Int) : crc_Update x0 x1 =
  crc_Update_l0 (IntKind.u32.wrap ↑(BitVec.ofInt IntKind.u32.bits (bif IntKind.u32.signed then -1 else IntKind.u32.max) ^^^ BitVec.ofInt IntKind.u32.bits x0).toNat) (x1) (ilen x1) (0) := (crc_Update_raw x0 x1).trans (by kernel_rfl)
theorem crc_Update_l0_eq (y0 : Int) (y1 : List (Int)) (y2 : Int) (y3 : Int) : crc_Update_l0 y0 y1 y2 y3 =
  bif decide (y3 < y2)
  then bif decide (0 ≤ y3)
    then (y1[y3.toNat]?).bind fun val4 =>
      crc_Update_l2 (IntKind.u32.wrap ↑(BitVec.ofInt IntKind.u32.bits y0 ^^^ BitVec.ofInt IntKind.u32.bits (IntKind.u32.wrap val4)).toNat) (y1) (y2) (y3) (0)
    else none
  else some (IntKind.u32.wrap ↑(BitVec.ofInt IntKind.u32.bits (bif IntKind.u32.signed then -1 else IntKind.u32.max) ^^^ BitVec.ofInt IntKind.u32.bits y0).toNat) := (loopAt_step _ _ _ _ _ _ _).trans (by kernel_rfl)
theorem crc_Update_l2_eq (y0 : Int) (y1 : List (Int)) (y2 : Int) (y3 : Int) (y4 : Int) : crc_Update_l2 y0 y1 y2 y3 y4 =
  bif decide (y4 < 8)
  then bif IntKind.u32.wrap ↑(BitVec.ofInt IntKind.u32.bits y0 &&& BitVec.ofInt IntKind.u32.bits 1).toNat == 1
    then crc_Update_l2 (IntKind.u32.wrap ↑(BitVec.ofInt IntKind.u32.bits (y0.fdiv (2 ^ min (Int.toNat 1) IntKind.u32.bits)) ^^^ BitVec.ofInt IntKind.u32.bits 3988292384).toNat) (y1) (y2) (y3) (IntKind.i64.wrap (y4 + 1))
    else crc_Update_l2 (y0.fdiv (2 ^ min (Int.toNat 1) IntKind.u32.bits)) (y1) (y2) (y3) (IntKind.i64.wrap (y4 + 1))
  else crc_Update_l0 (y0) (y1) (y2) (IntKind.i64.wrap (y3 + 1)) := (loopAt_step _ _ _ _ _ _ _).trans (by kernel_rfl)
noncomputable def crc_Update_sig : Sig := { pm := [(false, [(false, .int .u32)]), (false, [(false, .slice (.int .u8))])], rm := [(false, [(false, .int .u32)])], f := fun | [⟨.int .u32, x0⟩, ⟨.slice (.int .u8), x1⟩] => .yes _ (crc_Update x0 x1) crc_Update_mk | _ => .no }
theorem crc_Update_ok : SigOk Try.prog 21 crc_Update_sig := by
  refine contract_of (C := crc_Update_C) (d := 3) ⟨S2_ok, noPs⟩ (callable_ex (by kernel_rfl)) ?_
  intro dvs
  unfold crc_Update_sig
  dsimp only
  split
  · refine .inr ⟨_, crc_Update_un, crc_Update_mk, congrArg (fun o => Cl.yes _ o _) (crc_Update_raw _ _), ?_⟩
    intro ds x h
    unfold crc_Update_un at h
    split at h
    · cases h; rfl
    · cases h
  · exact .inl rfl
noncomputable def S3 : List (Nat × Sig) := (21, crc_Update_sig) :: S2
theorem S3_ok : ListOk Try.prog S3 := ListOk.cons S2_ok crc_Update_ok
noncomputable def crc_Sum_C : Cfg := { P := Try.prog, sig := lookSig S3, hb := fun _ _ => none, hr := fun _ _ => none }
noncomputable def crc_Sum_un : List DV → Option (Int) := fun | [⟨.int .u32, r0⟩] => some r0 | _ => none
noncomputable def crc_Sum_mk : Int → List DV := fun r0 => [⟨.int .u32, r0⟩]
theorem crc_Sum_ex : ∃ f : (List Int) → Option (Int), f = fun (x0 : List Int) => funRun crc_Sum_C 3 22 [(false, [(false, .slice (.int .u8))])] [(false, [(false, .int .u32)])] crc_Sum_un [⟨.slice (.int .u8), x0⟩] := ⟨_, rfl⟩
noncomputable def crc_Sum : (List Int) → Option (Int) := crc_Sum_ex.choose
theorem crc_Sum_raw (x0 : List Int) : crc_Sum x0 = funRun crc_Sum_C 3 22 [(false, [(false, .slice (.int .u8))])] [(false, [(false, .int .u32)])] crc_Sum_un [⟨.slice (.int .u8), x0⟩] := congrFun (crc_Sum_ex.choose_spec) x0
theorem crc_Sum_eq (x0 : List Int) : crc_Sum x0 =
  (crc_Update 0 x0).bind fun val0 =>
  some (val0) := (crc_Sum_raw x0).trans (by kernel_rfl)
noncomputable def crc_Sum_sig : Sig := { pm := [(false, [(false, .slice (.int .u8))])], rm := [(false, [(false, .int .u32)])], f := fun | [⟨.slice (.int .u8), x0⟩] => .yes _ (crc_Sum x0) crc_Sum_mk | _ => .no }
theorem crc_Sum_ok : SigOk Try.prog 22 crc_Sum_sig := by
  refine contract_of (C := crc_Sum_C) (d := 3) ⟨S3_ok, noPs⟩ (callable_ex (by kernel_rfl)) ?_
  intro dvs
  unfold crc_Sum_sig
  dsimp only
  split
  · refine .inr ⟨_, crc_Sum_un, crc_Sum_mk, congrArg (fun o => Cl.yes _ o _) (crc_Sum_raw _), ?_⟩
    intro ds x h
    unfold crc_Sum_un at h
    split at h
    · cases h; rfl
    · cases h
  · exact .inl rfl
noncomputable def S4 : List (Nat × Sig) := (22, crc_Sum_sig) :: S3
theorem S4_ok : ListOk Try.prog S4 := ListOk.cons S3_ok crc_Sum_ok
noncomputable def frame_get_C : Cfg := { P := Try.prog, sig := lookSig S4, hb := fun _ _ => none, hr := fun _ _ => none }
noncomputable def frame_get_un : List DV → Option (Int) := fun | [⟨.int .u32, r0⟩] => some r0 | _ => none
noncomputable def frame_get_mk : Int → List DV := fun r0 => [⟨.int .u32, r0⟩]
theorem frame_get_ex : ∃ f : (List Int) → Option (Int), f = fun (x0 : List Int) => funRun frame_get_C 3 23 [(false, [(false, .slice (.int .u8))])] [(false, [(false, .int .u32)])] frame_get_un [⟨.slice (.int .u8), x0⟩] := ⟨_, rfl⟩
noncomputable def frame_get : (List Int) → Option (Int) := frame_get_ex.choose
theorem frame_get_raw (x0 : List Int) : frame_get x0 = funRun frame_get_C 3 23 [(false, [(false, .slice (.int .u8))])] [(false, [(false, .int .u32)])] frame_get_un [⟨.slice (.int .u8), x0⟩] := congrFun (frame_get_ex.choose_spec) x0
theorem frame_get_eq (x0 : List Int) : frame_get x0 =
  (x0[Int.toNat 0]?).bind fun val0 =>
  (x0[Int.toNat 1]?).bind fun val2 =>
    (x0[Int.toNat 2]?).bind fun val4 =>
      (x0[Int.toNat 3]?).bind fun val6 =>
        some (IntKind.u32.wrap ↑(BitVec.ofInt IntKind.u32.bits (IntKind.u32.wrap ↑(BitVec.ofInt IntKind.u32.bits (IntKind.u32.wrap ↑(BitVec.ofInt IntKind.u32.bits (IntKind.u32.wrap val0) ||| BitVec.ofInt IntKind.u32.bits (IntKind.u32.wrap (IntKind.u32.wrap val2 * 2 ^ min (Int.toNat 8) IntKind.u32.bits))).toNat) ||| BitVec.ofInt IntKind.u32.bits (IntKind.u32.wrap (IntKind.u32.wrap val4 * 2 ^ min (Int.toNat 16) IntKind.u32.bits))).toNat) ||| BitVec.ofInt IntKind.u32.bits (IntKind.u32.wrap (IntKind.u32.wrap val6 * 2 ^ min (Int.toNat 24) IntKind.u32.bits))).toNat) := (frame_get_raw x0).trans (by kernel_rfl)
noncomputable def frame_get_sig : Sig := { pm := [(false, [(false, .slice (.int .u8))])], rm := [(false, [(false, .int .u32)])], f := fun | [⟨.slice (.int .u8), x0⟩] => .yes _ (frame_get x0) frame_get_mk | _ => .no }
theorem frame_get_ok : SigOk Try.prog 23 frame_get_sig := by
  refine contract_of (C := frame_get_C) (d := 3) ⟨S4_ok, noPs⟩ (callable_ex (by kernel_rfl)) ?_
  intro dvs
  unfold frame_get_sig
  dsimp only
  split
  · refine .inr ⟨_, frame_get_un, frame_get_mk, congrArg (fun o => Cl.yes _ o _) (frame_get_raw _), ?_⟩
    intro ds x h
    unfold frame_get_un at h
    split at h
    · cases h; rfl
    · cases h
  · exact .inl rfl
noncomputable def S5 : List (Nat × Sig) := (23, frame_get_sig) :: S4
theorem S5_ok : ListOk Try.prog S5 := ListOk.cons S4_ok frame_get_ok
noncomputable def frame_Put_C : Cfg := { P := Try.prog, sig := lookSig S5, hb := fun _ _ => none, hr := fun _ _ => none }
noncomputable def frame_Put_un : List DV → Option ((List Int)) := fun | [⟨.slice (.int .u8), r0⟩] => some r0 | _ => none
noncomputable def frame_Put_mk : (List Int) → List DV := fun r0 => [⟨.slice (.int .u8), r0⟩]
theorem frame_Put_ex : ∃ f : (List Int) → (List Int) → Option ((List Int)), f = fun (x0 : List Int) (x1 : List Int) => funRun frame_Put_C 3 12 [(false, [(true, .slice (.int .u8))]), (false, [(false, .slice (.int .u8))])] [(false, [(true, .slice (.int .u8))])] frame_Put_un [⟨.slice (.int .u8), x0⟩, ⟨.slice (.int .u8), x1⟩] := ⟨_, rfl⟩
noncomputable def frame_Put : (List Int) → (List Int) → Option ((List Int)) := frame_Put_ex.choose
theorem frame_Put_raw (x0 : List Int) (x1 : List Int) : frame_Put x0 x1 = funRun frame_Put_C 3 12 [(false, [(true, .slice (.int .u8))]), (false, [(false, .slice (.int .u8))])] [(false, [(true, .slice (.int .u8))])] frame_Put_un [⟨.slice (.int .u8), x0⟩, ⟨.slice (.int .u8), x1⟩] := congrFun (congrFun (frame_Put_ex.choose_spec) x0) x1
theorem frame_Put_eq (x0 : List Int) (x1 : List Int) : frame_Put x0 x1 =
  (frame_put [] (IntKind.u32.wrap (ilen x1))).bind fun val0 =>
  bif decide ((ilen x0 + ilen val0) * 1 ≤ room)
    then (crc_Sum val0).bind fun val4 =>
      (crc_Update val4 x1).bind fun val6 =>
        (frame_put (x0 ++ val0) val6).bind fun val8 =>
          bif decide ((ilen val8 + ilen x1) * 1 ≤ room)
            then some (val8 ++ x1)
            else none
    else none := (frame_Put_raw x0 x1).trans (by kernel_rfl)
noncomputable def frame_Put_sig : Sig := { pm := [(false, [(true, .slice (.int .u8))]), (false, [(false, .slice (.int .u8))])], rm := [(false, [(true, .slice (.int .u8))])], f := fun | [⟨.slice (.int .u8), x0⟩, ⟨.slice (.int .u8), x1⟩] => .yes _ (frame_Put x0 x1) frame_Put_mk | _ => .no }
theorem frame_Put_ok : SigOk Try.prog 12 frame_Put_sig := by
  refine contract_of (C := frame_Put_C) (d := 3) ⟨S5_ok, noPs⟩ (callable_ex (by kernel_rfl)) ?_
  intro dvs
  unfold frame_Put_sig
  dsimp only
  split
  · refine .inr ⟨_, frame_Put_un, frame_Put_mk, congrArg (fun o => Cl.yes _ o _) (frame_Put_raw _ _), ?_⟩
    intro ds x h
    unfold frame_Put_un at h
    split at h
    · cases h; rfl
    · cases h
  · exact .inl rfl
noncomputable def S6 : List (Nat × Sig) := (12, frame_Put_sig) :: S5
theorem S6_ok : ListOk Try.prog S6 := ListOk.cons S5_ok frame_Put_ok
noncomputable def frame_Scan_C : Cfg := { P := Try.prog, sig := lookSig S6, hb := fun f b =>   bif Nat.beq f 13 && Nat.beq b 90000 then some { tmps := [0, 4, 5], obs := [60], nils := [(4, 60, (.slice (.int .u8)))], kl := [580, 572, 60] } else none, hr := fun _ _ => none }
noncomputable def frame_Scan_un : List DV → Option ((List (List Int)) × Int) := fun | [⟨.slice (.slice (.int .u8)), r0⟩, ⟨.int .i64, r1⟩] => some (r0, r1) | _ => none
noncomputable def frame_Scan_mk : ((List (List Int)) × Int) → List DV := fun ⟨r0, r1⟩ => [⟨.slice (.slice (.int .u8)), r0⟩, ⟨.int .i64, r1⟩]
theorem frame_Scan_ex : ∃ f : (List Int) → Option ((List (List Int)) × Int), f = fun (x0 : List Int) => funRun frame_Scan_C 3 13 [(false, [(false, .slice (.int .u8))])] [(false, [(false, .slice (.slice (.int .u8)))]), (false, [(false, .int .i64)])] frame_Scan_un [⟨.slice (.int .u8), x0⟩] := ⟨_, rfl⟩
noncomputable def frame_Scan : (List Int) → Option ((List (List Int)) × Int) := frame_Scan_ex.choose
theorem frame_Scan_raw (x0 : List Int) : frame_Scan x0 = funRun frame_Scan_C 3 13 [(false, [(false, .slice (.int .u8))])] [(false, [(false, .slice (.slice (.int .u8)))]), (false, [(false, .int .i64)])] frame_Scan_un [⟨.slice (.int .u8), x0⟩] := congrFun (frame_Scan_ex.choose_spec) x0
noncomputable def frame_Scan_l90000 (y0 : List (Int)) (y1 : Int) (y2 : List (List (Int))) : Option ((List (List Int)) × Int) := loopAt frame_Scan_C 3 13 [(false, [(false, .slice (.slice (.int .u8)))]), (false, [(false, .int .i64)])] frame_Scan_un [true] (St.ofLists [(0, .fz (Ty.int IntKind.u8) y0 false false), (4, .ow 60), (5, .int .i64 y1)] [(60, some (.row ((Ty.int IntKind.u8).slice) y2 0 false))] [580, 572, 60])
theorem frame_Scan_eq (x0 : List Int) : frame_Scan x0 =
  frame_Scan_l90000 (x0) (0) ([]) := (frame_Scan_raw x0).trans (by kernel_rfl)
theorem frame_Scan_l90000_eq (y0 : List (Int)) (y1 : Int) (y2 : List (List (Int))) : frame_Scan_l90000 y0 y1 y2 =
  bif decide (IntKind.i64.wrap (ilen y0 - y1) < 8)
  then some ((y2), (y1))
  else bif decide (0 ≤ y1)
    then bif decide (y1 ≤ ilen y0)
      then bif decide (ilen y0 ≤ ilen y0)
        then (frame_get (List.drop y1.toNat (List.take (ilen y0).toNat y0))).bind fun val8 =>
          bif decide (IntKind.i64.wrap val8 > IntKind.i64.wrap (IntKind.i64.wrap (ilen y0 - y1) - 8))
            then some ((y2), (y1))
            else bif decide (0 ≤ IntKind.i64.wrap (y1 + 8))
              then bif decide (IntKind.i64.wrap (y1 + 8) ≤ IntKind.i64.wrap (IntKind.i64.wrap (y1 + 8) + IntKind.i64.wrap val8))
                then bif decide (IntKind.i64.wrap (IntKind.i64.wrap (y1 + 8) + IntKind.i64.wrap val8) ≤ IntKind.i64.wrap (IntKind.i64.wrap (y1 + 8) + IntKind.i64.wrap val8))
                  then bif decide (IntKind.i64.wrap (IntKind.i64.wrap (y1 + 8) + IntKind.i64.wrap val8) ≤ ilen y0)
                    then bif decide (0 ≤ IntKind.i64.wrap (y1 + 4))
                      then bif decide (IntKind.i64.wrap (y1 + 4) ≤ ilen y0)
                        then bif decide (ilen y0 ≤ ilen y0)
                          then (frame_get (List.drop (IntKind.i64.wrap (y1 + 4)).toNat (List.take (ilen y0).toNat y0))).bind fun val26 =>
                            bif decide (0 ≤ y1)
                              then bif decide (y1 ≤ IntKind.i64.wrap (y1 + 4))
                                then bif decide (IntKind.i64.wrap (y1 + 4) ≤ ilen y0)
                                  then (crc_Sum (List.drop y1.toNat (List.take (IntKind.i64.wrap (y1 + 4)).toNat y0))).bind fun val34 =>
                                    (crc_Update val34 (List.drop (IntKind.i64.wrap (y1 + 8)).toNat (List.take (IntKind.i64.wrap (IntKind.i64.wrap (y1 + 8) + IntKind.i64.wrap val8)).toNat y0))).bind fun val36 =>
                                      bif val26 != val36
                                        then some ((y2), (y1))
                                        else bif decide ((ilen y2 + ilen [List.drop (IntKind.i64.wrap (y1 + 8)).toNat (List.take (IntKind.i64.wrap (IntKind.i64.wrap (y1 + 8) + IntKind.i64.wrap val8)).toNat y0)]) * 24 ≤ room)
                                          then frame_Scan_l90000 (y0) (IntKind.i64.wrap (y1 + IntKind.i64.wrap (8 + IntKind.i64.wrap val8))) (y2 ++ [List.drop (IntKind.i64.wrap (y1 + 8)).toNat (List.take (IntKind.i64.wrap (IntKind.i64.wrap (y1 + 8) + IntKind.i64.wrap val8)).toNat y0)])
                                          else none
                                  else none
                                else none
                              else none
                          else none
                        else none
                      else none
                    else none
                  else none
                else none
              else none
        else none
      else none
    else none := (loopAt_step _ _ _ _ _ _ _).trans (by kernel_rfl)
noncomputable def frame_Scan_sig : Sig := { pm := [(false, [(false, .slice (.int .u8))])], rm := [(false, [(false, .slice (.slice (.int .u8)))]), (false, [(false, .int .i64)])], f := fun | [⟨.slice (.int .u8), x0⟩] => .yes _ (frame_Scan x0) frame_Scan_mk | _ => .no }
theorem frame_Scan_ok : SigOk Try.prog 13 frame_Scan_sig := by
  refine contract_of (C := frame_Scan_C) (d := 3) ⟨S6_ok, noPs⟩ (callable_ex (by kernel_rfl)) ?_
  intro dvs
  unfold frame_Scan_sig
  dsimp only
  split
  · refine .inr ⟨_, frame_Scan_un, frame_Scan_mk, congrArg (fun o => Cl.yes _ o _) (frame_Scan_raw _), ?_⟩
    intro ds x h
    unfold frame_Scan_un at h
    split at h
    · cases h; rfl
    · cases h
  · exact .inl rfl
noncomputable def S7 : List (Nat × Sig) := (13, frame_Scan_sig) :: S6
theorem S7_ok : ListOk Try.prog S7 := ListOk.cons S6_ok frame_Scan_ok
noncomputable def ref05_SameAll_C : Cfg := { P := Try.prog, sig := lookSig S7, hb := fun f b =>   bif Nat.beq f 15 && Nat.beq b 0 then some { tmps := [0, 1, 5], obs := [], nils := [], kl := [] } else none, hr := fun _ _ => none }
noncomputable def ref05_SameAll_un : List DV → Option (Bool) := fun | [⟨.bool, r0⟩] => some r0 | _ => none
noncomputable def ref05_SameAll_mk : Bool → List DV := fun r0 => [⟨.bool, r0⟩]
theorem ref05_SameAll_ex : ∃ f : (List (List Int)) → (List (List Int)) → Option (Bool), f = fun (x0 : List (List Int)) (x1 : List (List Int)) => funRun ref05_SameAll_C 3 15 [(false, [(false, .slice (.slice (.int .u8)))]), (false, [(false, .slice (.slice (.int .u8)))])] [(false, [(false, .bool)])] ref05_SameAll_un [⟨.slice (.slice (.int .u8)), x0⟩, ⟨.slice (.slice (.int .u8)), x1⟩] := ⟨_, rfl⟩
noncomputable def ref05_SameAll : (List (List Int)) → (List (List Int)) → Option (Bool) := ref05_SameAll_ex.choose
theorem ref05_SameAll_raw (x0 : List (List Int)) (x1 : List (List Int)) : ref05_SameAll x0 x1 = funRun ref05_SameAll_C 3 15 [(false, [(false, .slice (.slice (.int .u8)))]), (false, [(false, .slice (.slice (.int .u8)))])] [(false, [(false, .bool)])] ref05_SameAll_un [⟨.slice (.slice (.int .u8)), x0⟩, ⟨.slice (.slice (.int .u8)), x1⟩] := congrFun (congrFun (ref05_SameAll_ex.choose_spec) x0) x1
noncomputable def ref05_SameAll_l0 (y0 : List (List (Int))) (y1 : List (List (Int))) (y2 : Int) : Option (Bool) := loopAt ref05_SameAll_C 3 15 [(false, [(false, .bool)])] ref05_SameAll_un [true, true, false, true, false] (St.ofLists [(0, .fz ((Ty.int IntKind.u8).slice) y0 false false), (1, .fz ((Ty.int IntKind.u8).slice) y1 false false), (5, .int .i64 y2)] [] [])
theorem ref05_SameAll_eq (x0 : List (List Int)) (x1 : List (List Int)) : ref05_SameAll x0 x1 =
  bif ilen x0 != ilen x1
  then some false
  else ref05_SameAll_l0 (x0) (x1) (0) := (ref05_SameAll_raw x0 x1).trans (by kernel_rfl)
theorem ref05_SameAll_l0_eq (y0 : List (List (Int))) (y1 : List (List (Int))) (y2 : Int) : ref05_SameAll_l0 y0 y1 y2 =
  bif decide (y2 < ilen y0)
  then bif decide (0 ≤ y2)
    then (y0[y2.toNat]?).bind fun val4 =>
      bif decide (0 ≤ y2)
        then (y1[y2.toNat]?).bind fun val8 =>
          bif !(strOf val4).toList == (strOf val8).toList
            then some false
            else ref05_SameAll_l0 (y0) (y1) (IntKind.i64.wrap (y2 + 1))
        else none
    else none
  else some true := (loopAt_step _ _ _ _ _ _ _).trans (by kernel_rfl)
noncomputable def ref05_SameAll_sig : Sig := { pm := [(false, [(false, .slice (.slice (.int .u8)))]), (false, [(false, .slice (.slice (.int .u8)))])], rm := [(false, [(false, .bool)])], f := fun | [⟨.slice (.slice (.int .u8)), x0⟩, ⟨.slice (.slice (.int .u8)), x1⟩] => .yes _ (ref05_SameAll x0 x1) ref05_SameAll_mk | _ => .no }
theorem ref05_SameAll_ok : SigOk Try.prog 15 ref05_SameAll_sig := by
  refine contract_of (C := ref05_SameAll_C) (d := 3) ⟨S7_ok, noPs⟩ (callable_ex (by kernel_rfl)) ?_
  intro dvs
  unfold ref05_SameAll_sig
  dsimp only
  split
  · refine .inr ⟨_, ref05_SameAll_un, ref05_SameAll_mk, congrArg (fun o => Cl.yes _ o _) (ref05_SameAll_raw _ _), ?_⟩
    intro ds x h
    unfold ref05_SameAll_un at h
    split at h
    · cases h; rfl
    · cases h
  · exact .inl rfl
noncomputable def S8 : List (Nat × Sig) := (15, ref05_SameAll_sig) :: S7
theorem S8_ok : ListOk Try.prog S8 := ListOk.cons S7_ok ref05_SameAll_ok
noncomputable def law05_light_C : Cfg := { P := Try.prog, sig := lookSig S8, hb := fun f b =>   bif Nat.beq f 16 && Nat.beq b 0 then some { tmps := [0, 3, 4], obs := [], nils := [], kl := [] } else none, hr := fun _ _ => none }
noncomputable def law05_light_un : List DV → Option (Bool) := fun | [⟨.bool, r0⟩] => some r0 | _ => none
noncomputable def law05_light_mk : Bool → List DV := fun r0 => [⟨.bool, r0⟩]
theorem law05_light_ex : ∃ f : (List (List Int)) → Option (Bool), f = fun (x0 : List (List Int)) => funRun law05_light_C 3 16 [(false, [(false, .slice (.slice (.int .u8)))])] [(false, [(false, .bool)])] law05_light_un [⟨.slice (.slice (.int .u8)), x0⟩] := ⟨_, rfl⟩
noncomputable def law05_light : (List (List Int)) → Option (Bool) := law05_light_ex.choose
theorem law05_light_raw (x0 : List (List Int)) : law05_light x0 = funRun law05_light_C 3 16 [(false, [(false, .slice (.slice (.int .u8)))])] [(false, [(false, .bool)])] law05_light_un [⟨.slice (.slice (.int .u8)), x0⟩] := congrFun (law05_light_ex.choose_spec) x0
noncomputable def law05_light_l0 (y0 : List (List (Int))) (y1 : Int) (y2 : Int) : Option (Bool) := loopAt law05_light_C 3 16 [(false, [(false, .bool)])] law05_light_un [true, true, true, false, true, false] (St.ofLists [(0, .fz ((Ty.int IntKind.u8).slice) y0 false false), (3, .int .i64 y1), (4, .int .i64 y2)] [] [])
theorem law05_light_eq (x0 : List (List Int)) : law05_light x0 =
  bif decide (ilen x0 > 60)
  then some false
  else law05_light_l0 (x0) (0) (0) := (law05_light_raw x0).trans (by kernel_rfl)
theorem law05_light_l0_eq (y0 : List (List (Int))) (y1 : Int) (y2 : Int) : law05_light_l0 y0 y1 y2 =
  bif decide (y2 < ilen y0)
  then bif decide (0 ≤ y2)
    then (y0[y2.toNat]?).bind fun val4 =>
      bif decide (IntKind.i64.wrap (y1 + ilen val4) > 600)
        then some false
        else law05_light_l0 (y0) (IntKind.i64.wrap (y1 + ilen val4)) (IntKind.i64.wrap (y2 + 1))
    else none
  else some true := (loopAt_step _ _ _ _ _ _ _).trans (by kernel_rfl)
noncomputable def law05_light_sig : Sig := { pm := [(false, [(false, .slice (.slice (.int .u8)))])], rm := [(false, [(false, .bool)])], f := fun | [⟨.slice (.slice (.int .u8)), x0⟩] => .yes _ (law05_light x0) law05_light_mk | _ => .no }
theorem law05_light_ok : SigOk Try.prog 16 law05_light_sig := by
  refine contract_of (C := law05_light_C) (d := 3) ⟨S8_ok, noPs⟩ (callable_ex (by kernel_rfl)) ?_
  intro dvs
  unfold law05_light_sig
  dsimp only
  split
  · refine .inr ⟨_, law05_light_un, law05_light_mk, congrArg (fun o => Cl.yes _ o _) (law05_light_raw _), ?_⟩
    intro ds x h
    unfold law05_light_un at h
    split at h
    · cases h; rfl
    · cases h
  · exact .inl rfl
noncomputable def S9 : List (Nat × Sig) := (16, law05_light_sig) :: S8
theorem S9_ok : ListOk Try.prog S9 := ListOk.cons S8_ok law05_light_ok
noncomputable def law05_written_C : Cfg := { P := Try.prog, sig := lookSig S9, hb := fun f b =>   bif Nat.beq f 17 && Nat.beq b 0 then some { tmps := [0, 3, 4], obs := [60], nils := [(3, 60, (.int .u8))], kl := [228, 60] } else none, hr := fun _ _ => none }
noncomputable def law05_written_un : List DV → Option ((List Int)) := fun | [⟨.slice (.int .u8), r0⟩] => some r0 | _ => none
noncomputable def law05_written_mk : (List Int) → List DV := fun r0 => [⟨.slice (.int .u8), r0⟩]
theorem law05_written_ex : ∃ f : (List (List Int)) → Option ((List Int)), f = fun (x0 : List (List Int)) => funRun law05_written_C 3 17 [(false, [(false, .slice (.slice (.int .u8)))])] [(false, [(true, .slice (.int .u8))])] law05_written_un [⟨.slice (.slice (.int .u8)), x0⟩] := ⟨_, rfl⟩
noncomputable def law05_written : (List (List Int)) → Option ((List Int)) := law05_written_ex.choose
theorem law05_written_raw (x0 : List (List Int)) : law05_written x0 = funRun law05_written_C 3 17 [(false, [(false, .slice (.slice (.int .u8)))])] [(false, [(true, .slice (.int .u8))])] law05_written_un [⟨.slice (.slice (.int .u8)), x0⟩] := congrFun (law05_written_ex.choose_spec) x0
noncomputable def law05_written_l0 (y0 : List (List (Int))) (y1 : Int) (y2 : List (Int)) : Option ((List Int)) := loopAt law05_written_C 3 17 [(false, [(true, .slice (.int .u8))])] law05_written_un [true, true, false, true, false] (St.ofLists [(0, .fz ((Ty.int IntKind.u8).slice) y0 false false), (3, .ow 60), (4, .int .i64 y1)] [(60, some (.row (Ty.int IntKind.u8) y2 0 false))] [228, 60])
theorem law05_written_eq (x0 : List (List Int)) : law05_written x0 =
  law05_written_l0 (x0) (0) ([]) := (law05_written_raw x0).trans (by kernel_rfl)
theorem law05_written_l0_eq (y0 : List (List (Int))) (y1 : Int) (y2 : List (Int)) : law05_written_l0 y0 y1 y2 =
  bif decide (y1 < ilen y0)
  then bif decide (0 ≤ y1)
    then (y0[y1.toNat]?).bind fun val4 =>
      (frame_Put y2 val4).bind fun val6 =>
        law05_written_l0 (y0) (IntKind.i64.wrap (y1 + 1)) (val6)
    else none
  else some (y2) := (loopAt_step _ _ _ _ _ _ _).trans (by kernel_rfl)
noncomputable def law05_written_sig : Sig := { pm := [(false, [(false, .slice (.slice (.int .u8)))])], rm := [(false, [(true, .slice (.int .u8))])], f := fun | [⟨.slice (.slice (.int .u8)), x0⟩] => .yes _ (law05_written x0) law05_written_mk | _ => .no }
theorem law05_written_ok : SigOk Try.prog 17 law05_written_sig := by
  refine contract_of (C := law05_written_C) (d := 3) ⟨S9_ok, noPs⟩ (callable_ex (by kernel_rfl)) ?_
  intro dvs
  unfold law05_written_sig
  dsimp only
  split
  · refine .inr ⟨_, law05_written_un, law05_written_mk, congrArg (fun o => Cl.yes _ o _) (law05_written_raw _), ?_⟩
    intro ds x h
    unfold law05_written_un at h
    split at h
    · cases h; rfl
    · cases h
  · exact .inl rfl
noncomputable def S10 : List (Nat × Sig) := (17, law05_written_sig) :: S9
theorem S10_ok : ListOk Try.prog S10 := ListOk.cons S9_ok law05_written_ok
noncomputable def law05_works_C : Cfg := { P := Try.prog, sig := lookSig S10, hb := fun _ _ => none, hr := fun f b => bif Nat.beq f 9 && Nat.beq b 2 then some { tmps := [], obs := [], whole := true, slim := [1] } else   none, mv := true }
noncomputable def law05_works_un : List DV → Option (Bool) := fun | [⟨.bool, r0⟩] => some r0 | _ => none
noncomputable def law05_works_mk : Bool → List DV := fun r0 => [⟨.bool, r0⟩]
theorem law05_works_ex : ∃ f : Option (Bool), f = funRun law05_works_C 3 9 [] [(false, [(false, .bool)])] law05_works_un [] := ⟨_, rfl⟩
noncomputable def law05_works : Option (Bool) := law05_works_ex.choose
theorem law05_works_raw  : law05_works = funRun law05_works_C 3 9 [] [(false, [(false, .bool)])] law05_works_un [] := law05_works_ex.choose_spec
theorem law05_works_eq  : law05_works =
  (frame_Put [] [1, 2]).bind fun val0 =>
  (frame_Put val0 []).bind fun val2 =>
    bif val2.length.ble val2.length
      then bif decide ((ilen (List.take val2.length val2) + ilen [9]) * 1 ≤ room)
        then (frame_Scan (List.take val2.length val2 ++ [9])).bind fun val8 =>
          bif (val2.length : Int) == 18
            then bif ilen val8.1 == 2
              then bif val8.2 == 18
                then (val8.1[Int.toNat 0]?).bind fun val16 =>
                  (ref02_Same val16 [1, 2]).bind fun val18 =>
                    bif val18
                      then (val8.1[Int.toNat 1]?).bind fun val22 =>
                        some (ilen val22 == 0)
                      else some false
                else some false
              else some false
            else some false
        else none
      else none := (law05_works_raw).trans (by kernel_rfl)
noncomputable def law05_works_sig : Sig := { pm := [], rm := [(false, [(false, .bool)])], f := fun | [] => .yes _ (law05_works) law05_works_mk | _ => .no }
theorem law05_works_ok : SigOk Try.prog 9 law05_works_sig := by
  refine contract_of (C := law05_works_C) (d := 3) ⟨S10_ok, noPs⟩ (callable_ex (by kernel_rfl)) ?_
  intro dvs
  unfold law05_works_sig
  dsimp only
  split
  · refine .inr ⟨_, law05_works_un, law05_works_mk, congrArg (fun o => Cl.yes _ o _) (law05_works_raw), ?_⟩
    intro ds x h
    unfold law05_works_un at h
    split at h
    · cases h; rfl
    · cases h
  · exact .inl rfl
noncomputable def S11 : List (Nat × Sig) := (9, law05_works_sig) :: S10
theorem S11_ok : ListOk Try.prog S11 := ListOk.cons S10_ok law05_works_ok
noncomputable def law05_FrameTears_C : Cfg := { P := Try.prog, sig := lookSig S11, hb := fun _ _ => none, hr := fun _ _ => none }
noncomputable def law05_FrameTears_un : List DV → Option (Bool) := fun | [⟨.bool, r0⟩] => some r0 | _ => none
noncomputable def law05_FrameTears_mk : Bool → List DV := fun r0 => [⟨.bool, r0⟩]
theorem law05_FrameTears_ex : ∃ f : (List (List Int)) → (Int) → Option (Bool), f = fun (x0 : List (List Int)) (x1 : Int) => funRun law05_FrameTears_C 3 6 [(false, [(false, .slice (.slice (.int .u8)))]), (false, [(false, .int .i64)])] [(false, [(false, .bool)])] law05_FrameTears_un [⟨.slice (.slice (.int .u8)), x0⟩, ⟨.int .i64, x1⟩] := ⟨_, rfl⟩
noncomputable def law05_FrameTears : (List (List Int)) → (Int) → Option (Bool) := law05_FrameTears_ex.choose
theorem law05_FrameTears_raw (x0 : List (List Int)) (x1 : Int) : law05_FrameTears x0 x1 = funRun law05_FrameTears_C 3 6 [(false, [(false, .slice (.slice (.int .u8)))]), (false, [(false, .int .i64)])] [(false, [(false, .bool)])] law05_FrameTears_un [⟨.slice (.slice (.int .u8)), x0⟩, ⟨.int .i64, x1⟩] := congrFun (congrFun (law05_FrameTears_ex.choose_spec) x0) x1
theorem law05_FrameTears_eq (x0 : List (List Int)) (x1 : Int) : law05_FrameTears x0 x1 =
  (law05_light x0).bind fun val0 =>
  bif !val0
    then (law05_works).bind fun val4 =>
      some (val4)
    else (law05_written x0).bind fun val4 =>
      bif decide (IntKind.u64.wrap (IntKind.i64.wrap (ilen val4 + 1)) = 0)
        then none
        else bif decide (0 ≤ IntKind.i64.wrap ((IntKind.u64.wrap x1).tmod (IntKind.u64.wrap (IntKind.i64.wrap (ilen val4 + 1)))))
          then bif decide (IntKind.i64.wrap ((IntKind.u64.wrap x1).tmod (IntKind.u64.wrap (IntKind.i64.wrap (ilen val4 + 1)))) ≤ ilen val4)
            then bif (Int.toNat 0 + ((IntKind.i64.wrap ((IntKind.u64.wrap x1).tmod (IntKind.u64.wrap (IntKind.i64.wrap (ilen val4 + 1))))).toNat - Int.toNat 0)).ble val4.length
              then (frame_Scan (List.take ((IntKind.i64.wrap ((IntKind.u64.wrap x1).tmod (IntKind.u64.wrap (IntKind.i64.wrap (ilen val4 + 1))))).toNat - Int.toNat 0) (List.drop (Int.toNat 0) val4))).bind fun val14 =>
                bif decide (val14.2 > IntKind.i64.wrap ((IntKind.u64.wrap x1).tmod (IntKind.u64.wrap (IntKind.i64.wrap (ilen val4 + 1)))))
                  then some false
                  else bif decide (ilen val14.1 > ilen x0)
                    then some false
                    else bif decide (0 ≤ ilen val14.1)
                      then bif decide (ilen val14.1 ≤ ilen x0)
                        then (ref05_SameAll val14.1 (List.drop (Int.toNat 0) (List.take (ilen val14.1).toNat x0))).bind fun val24 =>
                          bif !val24
                            then some false
                            else (law05_written val14.1).bind fun val28 =>
                              bif decide (0 ≤ val14.2)
                                then bif decide (val14.2 ≤ ilen val4)
                                  then bif (Int.toNat 0 + (val14.2.toNat - Int.toNat 0)).ble val4.length
                                    then (ref02_Same val28 (List.take (val14.2.toNat - Int.toNat 0) (List.drop (Int.toNat 0) val4))).bind fun val36 =>
                                      bif !val36
                                        then some false
                                        else bif ilen val14.1 == ilen x0
                                          then (law05_works).bind fun val42 =>
                                            some (val42)
                                          else bif decide (0 ≤ ilen val14.1)
                                            then (x0[(ilen val14.1).toNat]?).bind fun val44 =>
                                              bif decide (IntKind.i64.wrap (IntKind.i64.wrap (val14.2 + 8) + ilen val44) > IntKind.i64.wrap ((IntKind.u64.wrap x1).tmod (IntKind.u64.wrap (IntKind.i64.wrap (ilen val4 + 1)))))
                                                then (law05_works).bind fun val48 =>
                                                  some (val48)
                                                else some false
                                            else none
                                    else none
                                  else bif decide (val14.2 ≤ ↑0)
                                    then bif (Int.toNat 0 + (val14.2.toNat - Int.toNat 0)).ble val4.length
                                      then (ref02_Same val28 (List.take (val14.2.toNat - Int.toNat 0) (List.drop (Int.toNat 0) val4))).bind fun val38 =>
                                        bif !val38
                                          then some false
                                          else bif ilen val14.1 == ilen x0
                                            then (law05_works).bind fun val44 =>
                                              some (val44)
                                            else bif decide (0 ≤ ilen val14.1)
                                              then (x0[(ilen val14.1).toNat]?).bind fun val46 =>
                                                bif decide (IntKind.i64.wrap (IntKind.i64.wrap (val14.2 + 8) + ilen val46) > IntKind.i64.wrap ((IntKind.u64.wrap x1).tmod (IntKind.u64.wrap (IntKind.i64.wrap (ilen val4 + 1)))))
                                                  then (law05_works).bind fun val50 =>
                                                    some (val50)
                                                  else some false
                                              else none
                                      else none
                                    else none
                                else none
                        else none
                      else none
              else none
            else bif decide (IntKind.i64.wrap ((IntKind.u64.wrap x1).tmod (IntKind.u64.wrap (IntKind.i64.wrap (ilen val4 + 1)))) ≤ ↑0)
              then bif (Int.toNat 0 + ((IntKind.i64.wrap ((IntKind.u64.wrap x1).tmod (IntKind.u64.wrap (IntKind.i64.wrap (ilen val4 + 1))))).toNat - Int.toNat 0)).ble val4.length
                then (frame_Scan (List.take ((IntKind.i64.wrap ((IntKind.u64.wrap x1).tmod (IntKind.u64.wrap (IntKind.i64.wrap (ilen val4 + 1))))).toNat - Int.toNat 0) (List.drop (Int.toNat 0) val4))).bind fun val16 =>
                  bif decide (val16.2 > IntKind.i64.wrap ((IntKind.u64.wrap x1).tmod (IntKind.u64.wrap (IntKind.i64.wrap (ilen val4 + 1)))))
                    then some false
                    else bif decide (ilen val16.1 > ilen x0)
                      then some false
                      else bif decide (0 ≤ ilen val16.1)
                        then bif decide (ilen val16.1 ≤ ilen x0)
                          then (ref05_SameAll val16.1 (List.drop (Int.toNat 0) (List.take (ilen val16.1).toNat x0))).bind fun val26 =>
                            bif !val26
                              then some false
                              else (law05_written val16.1).bind fun val30 =>
                                bif decide (0 ≤ val16.2)
                                  then bif decide (val16.2 ≤ ilen val4)
                                    then bif (Int.toNat 0 + (val16.2.toNat - Int.toNat 0)).ble val4.length
                                      then (ref02_Same val30 (List.take (val16.2.toNat - Int.toNat 0) (List.drop (Int.toNat 0) val4))).bind fun val38 =>
                                        bif !val38
                                          then some false
                                          else bif ilen val16.1 == ilen x0
                                            then (law05_works).bind fun val44 =>
                                              some (val44)
                                            else bif decide (0 ≤ ilen val16.1)
                                              then (x0[(ilen val16.1).toNat]?).bind fun val46 =>
                                                bif decide (IntKind.i64.wrap (IntKind.i64.wrap (val16.2 + 8) + ilen val46) > IntKind.i64.wrap ((IntKind.u64.wrap x1).tmod (IntKind.u64.wrap (IntKind.i64.wrap (ilen val4 + 1)))))
                                                  then (law05_works).bind fun val50 =>
                                                    some (val50)
                                                  else some false
                                              else none
                                      else none
                                    else bif decide (val16.2 ≤ ↑0)
                                      then bif (Int.toNat 0 + (val16.2.toNat - Int.toNat 0)).ble val4.length
                                        then (ref02_Same val30 (List.take (val16.2.toNat - Int.toNat 0) (List.drop (Int.toNat 0) val4))).bind fun val40 =>
                                          bif !val40
                                            then some false
                                            else bif ilen val16.1 == ilen x0
                                              then (law05_works).bind fun val46 =>
                                                some (val46)
                                              else bif decide (0 ≤ ilen val16.1)
                                                then (x0[(ilen val16.1).toNat]?).bind fun val48 =>
                                                  bif decide (IntKind.i64.wrap (IntKind.i64.wrap (val16.2 + 8) + ilen val48) > IntKind.i64.wrap ((IntKind.u64.wrap x1).tmod (IntKind.u64.wrap (IntKind.i64.wrap (ilen val4 + 1)))))
                                                    then (law05_works).bind fun val52 =>
                                                      some (val52)
                                                    else some false
                                                else none
                                        else none
                                      else none
                                  else none
                          else none
                        else none
                else none
              else none
          else none := (law05_FrameTears_raw x0 x1).trans (by kernel_rfl)
noncomputable def law05_FrameTears_sig : Sig := { pm := [(false, [(false, .slice (.slice (.int .u8)))]), (false, [(false, .int .i64)])], rm := [(false, [(false, .bool)])], f := fun | [⟨.slice (.slice (.int .u8)), x0⟩, ⟨.int .i64, x1⟩] => .yes _ (law05_FrameTears x0 x1) law05_FrameTears_mk | _ => .no }
theorem law05_FrameTears_ok : SigOk Try.prog 6 law05_FrameTears_sig := by
  refine contract_of (C := law05_FrameTears_C) (d := 3) ⟨S11_ok, noPs⟩ (callable_ex (by kernel_rfl)) ?_
  intro dvs
  unfold law05_FrameTears_sig
  dsimp only
  split
  · refine .inr ⟨_, law05_FrameTears_un, law05_FrameTears_mk, congrArg (fun o => Cl.yes _ o _) (law05_FrameTears_raw _ _), ?_⟩
    intro ds x h
    unfold law05_FrameTears_un at h
    split at h
    · cases h; rfl
    · cases h
  · exact .inl rfl
noncomputable def S12 : List (Nat × Sig) := (6, law05_FrameTears_sig) :: S11
theorem S12_ok : ListOk Try.prog S12 := ListOk.cons S11_ok law05_FrameTears_ok
noncomputable def law05_FrameFlips_C : Cfg := { P := Try.prog, sig := lookSig S12, hb := fun _ _ => none, hr := fun _ _ => none }
noncomputable def law05_FrameFlips_un : List DV → Option (Bool) := fun | [⟨.bool, r0⟩] => some r0 | _ => none
noncomputable def law05_FrameFlips_mk : Bool → List DV := fun r0 => [⟨.bool, r0⟩]
theorem law05_FrameFlips_ex : ∃ f : (List (List Int)) → (Int) → (Int) → (Int) → Option (Bool), f = fun (x0 : List (List Int)) (x1 : Int) (x2 : Int) (x3 : Int) => funRun law05_FrameFlips_C 3 7 [(false, [(false, .slice (.slice (.int .u8)))]), (false, [(false, .int .i64)]), (false, [(false, .int .i64)]), (false, [(false, .int .u8)])] [(false, [(false, .bool)])] law05_FrameFlips_un [⟨.slice (.slice (.int .u8)), x0⟩, ⟨.int .i64, x1⟩, ⟨.int .i64, x2⟩, ⟨.int .u8, x3⟩] := ⟨_, rfl⟩
noncomputable def law05_FrameFlips : (List (List Int)) → (Int) → (Int) → (Int) → Option (Bool) := law05_FrameFlips_ex.choose
theorem law05_FrameFlips_raw (x0 : List (List Int)) (x1 : Int) (x2 : Int) (x3 : Int) : law05_FrameFlips x0 x1 x2 x3 = funRun law05_FrameFlips_C 3 7 [(false, [(false, .slice (.slice (.int .u8)))]), (false, [(false, .int .i64)]), (false, [(false, .int .i64)]), (false, [(false, .int .u8)])] [(false, [(false, .bool)])] law05_FrameFlips_un [⟨.slice (.slice (.int .u8)), x0⟩, ⟨.int .i64, x1⟩, ⟨.int .i64, x2⟩, ⟨.int .u8, x3⟩] := congrFun (congrFun (congrFun (congrFun (law05_FrameFlips_ex.choose_spec) x0) x1) x2) x3
theorem law05_FrameFlips_eq (x0 : List (List Int)) (x1 : Int) (x2 : Int) (x3 : Int) : law05_FrameFlips x0 x1 x2 x3 =
  (law05_light x0).bind fun val0 =>
  bif !val0
    then (law05_works).bind fun val4 =>
      some (val4)
    else bif ilen x0 == 0
      then (law05_works).bind fun val6 =>
        some (val6)
      else bif x3 == 0
        then (law05_works).bind fun val8 =>
          some (val8)
        else bif decide (IntKind.u64.wrap (ilen x0) = 0)
          then none
          else bif decide (0 ≤ IntKind.i64.wrap ((IntKind.u64.wrap x1).tmod (IntKind.u64.wrap (ilen x0))))
            then bif decide (IntKind.i64.wrap ((IntKind.u64.wrap x1).tmod (IntKind.u64.wrap (ilen x0))) ≤ ilen x0)
              then (law05_written (List.drop (Int.toNat 0) (List.take (IntKind.i64.wrap ((IntKind.u64.wrap x1).tmod (IntKind.u64.wrap (ilen x0)))).toNat x0))).bind fun val14 =>
                (law05_written x0).bind fun val16 =>
                  bif decide (0 ≤ IntKind.i64.wrap ((IntKind.u64.wrap x1).tmod (IntKind.u64.wrap (ilen x0))))
                    then (x0[(IntKind.i64.wrap ((IntKind.u64.wrap x1).tmod (IntKind.u64.wrap (ilen x0)))).toNat]?).bind fun val20 =>
                      bif decide (IntKind.u64.wrap (IntKind.i64.wrap (4 + ilen val20)) = 0)
                        then none
                        else bif decide (ilen val16 ≤ IntKind.i64.wrap (IntKind.i64.wrap (ilen val14 + 4) + IntKind.i64.wrap ((IntKind.u64.wrap x2).tmod (IntKind.u64.wrap (IntKind.i64.wrap (4 + ilen val20))))))
                          then some false
                          else bif decide ((0 + ilen val16) * 1 ≤ room)
                            then bif decide (0 ≤ IntKind.i64.wrap (IntKind.i64.wrap (ilen val14 + 4) + IntKind.i64.wrap ((IntKind.u64.wrap x2).tmod (IntKind.u64.wrap (IntKind.i64.wrap (4 + ilen val20))))))
                              then bif decide (IntKind.i64.wrap (IntKind.i64.wrap (ilen val14 + 4) + IntKind.i64.wrap ((IntKind.u64.wrap x2).tmod (IntKind.u64.wrap (IntKind.i64.wrap (4 + ilen val20))))) < ilen ([] ++ val16))
                                then (([] ++ val16)[(IntKind.i64.wrap (IntKind.i64.wrap (ilen val14 + 4) + IntKind.i64.wrap ((IntKind.u64.wrap x2).tmod (IntKind.u64.wrap (IntKind.i64.wrap (4 + ilen val20)))))).toNat]?).bind fun val32 =>
                                  bif decide (0 ≤ IntKind.i64.wrap (IntKind.i64.wrap (ilen val14 + 4) + IntKind.i64.wrap ((IntKind.u64.wrap x2).tmod (IntKind.u64.wrap (IntKind.i64.wrap (4 + ilen val20))))))
                                    then bif decide (IntKind.i64.wrap (IntKind.i64.wrap (ilen val14 + 4) + IntKind.i64.wrap ((IntKind.u64.wrap x2).tmod (IntKind.u64.wrap (IntKind.i64.wrap (4 + ilen val20))))) < ilen ([] ++ val16))
                                      then (([] ++ val16)[(IntKind.i64.wrap (IntKind.i64.wrap (ilen val14 + 4) + IntKind.i64.wrap ((IntKind.u64.wrap x2).tmod (IntKind.u64.wrap (IntKind.i64.wrap (4 + ilen val20)))))).toNat]?).bind fun val38 =>
                                        (frame_Scan (([] ++ val16).set (IntKind.i64.wrap (IntKind.i64.wrap (ilen val14 + 4) + IntKind.i64.wrap ((IntKind.u64.wrap x2).tmod (IntKind.u64.wrap (IntKind.i64.wrap (4 + ilen val20)))))).toNat (IntKind.u8.wrap ↑(BitVec.ofInt IntKind.u8.bits val32 ^^^ BitVec.ofInt IntKind.u8.bits x3).toNat))).bind fun val40 =>
                                          bif val40.2 == ilen val14
                                            then bif decide (0 ≤ IntKind.i64.wrap ((IntKind.u64.wrap x1).tmod (IntKind.u64.wrap (ilen x0))))
                                              then bif decide (IntKind.i64.wrap ((IntKind.u64.wrap x1).tmod (IntKind.u64.wrap (ilen x0))) ≤ ilen x0)
                                                then (ref05_SameAll val40.1 (List.drop (Int.toNat 0) (List.take (IntKind.i64.wrap ((IntKind.u64.wrap x1).tmod (IntKind.u64.wrap (ilen x0)))).toNat x0))).bind fun val48 =>
                                                  bif val48
                                                    then (law05_works).bind fun val52 =>
                                                      some (val52)
                                                    else some false
                                                else none
                                              else none
                                            else some false
                                      else none
                                    else none
                                else none
                              else none
                            else none
                    else none
              else none
            else none := (law05_FrameFlips_raw x0 x1 x2 x3).trans (by kernel_rfl)
noncomputable def law05_FrameFlips_sig : Sig := { pm := [(false, [(false, .slice (.slice (.int .u8)))]), (false, [(false, .int .i64)]), (false, [(false, .int .i64)]), (false, [(false, .int .u8)])], rm := [(false, [(false, .bool)])], f := fun | [⟨.slice (.slice (.int .u8)), x0⟩, ⟨.int .i64, x1⟩, ⟨.int .i64, x2⟩, ⟨.int .u8, x3⟩] => .yes _ (law05_FrameFlips x0 x1 x2 x3) law05_FrameFlips_mk | _ => .no }
theorem law05_FrameFlips_ok : SigOk Try.prog 7 law05_FrameFlips_sig := by
  refine contract_of (C := law05_FrameFlips_C) (d := 3) ⟨S12_ok, noPs⟩ (callable_ex (by kernel_rfl)) ?_
  intro dvs
  unfold law05_FrameFlips_sig
  dsimp only
  split
  · refine .inr ⟨_, law05_FrameFlips_un, law05_FrameFlips_mk, congrArg (fun o => Cl.yes _ o _) (law05_FrameFlips_raw _ _ _ _), ?_⟩
    intro ds x h
    unfold law05_FrameFlips_un at h
    split at h
    · cases h; rfl
    · cases h
  · exact .inl rfl
noncomputable def S13 : List (Nat × Sig) := (7, law05_FrameFlips_sig) :: S12
theorem S13_ok : ListOk Try.prog S13 := ListOk.cons S12_ok law05_FrameFlips_ok
end Go.Proofs.Ytadcekchmaiihaa.PE
