import Derived.Test.YtgaihonnbdhbmaaEFun
import Derived.KernelRfl
namespace Go.Proofs.Ytgaihonnbdhbmaa.PE
set_option linter.unusedVariables false
open Go.Proofs
noncomputable def S0 : List (Nat × Sig) := []
theorem S0_ok : ListOk Try.prog S0 := ListOk.nil
noncomputable def P0 : List (Nat × Sig) := []
theorem P0_ok : ListPOk Try.prog P0 := ListPOk.nil
noncomputable def ref02_Same_C : Cfg := { P := Try.prog, sig := lookSig S0, hb := fun _ _ => none, hr := fun _ _ => none }
noncomputable def ref02_Same_un : List DV → Option (Bool) := fun | [⟨.bool, r0⟩] => some r0 | _ => none
noncomputable def ref02_Same_mk : Bool → List DV := fun r0 => [⟨.bool, r0⟩]
theorem ref02_Same_ex : ∃ f : (List Int) → (List Int) → Option (Bool), f = fun (x0 : List Int) (x1 : List Int) => funRun ref02_Same_C 3 16 [(false, [(false, .slice (.int .u8))]), (false, [(false, .slice (.int .u8))])] [(false, [(false, .bool)])] ref02_Same_un [⟨.slice (.int .u8), x0⟩, ⟨.slice (.int .u8), x1⟩] := ⟨_, rfl⟩
noncomputable def ref02_Same : (List Int) → (List Int) → Option (Bool) := ref02_Same_ex.choose
theorem ref02_Same_raw (x0 : List Int) (x1 : List Int) : ref02_Same x0 x1 = funRun ref02_Same_C 3 16 [(false, [(false, .slice (.int .u8))]), (false, [(false, .slice (.int .u8))])] [(false, [(false, .bool)])] ref02_Same_un [⟨.slice (.int .u8), x0⟩, ⟨.slice (.int .u8), x1⟩] := congrFun (congrFun (ref02_Same_ex.choose_spec) x0) x1
theorem ref02_Same_eq (x0 : List Int) (x1 : List Int) : ref02_Same x0 x1 =
  some ((strOf x0).toList == (strOf x1).toList) := (ref02_Same_raw x0 x1).trans (by kernel_rfl)
noncomputable def ref02_Same_sig : Sig := { pm := [(false, [(false, .slice (.int .u8))]), (false, [(false, .slice (.int .u8))])], rm := [(false, [(false, .bool)])], f := fun | [⟨.slice (.int .u8), x0⟩, ⟨.slice (.int .u8), x1⟩] => .yes _ (ref02_Same x0 x1) ref02_Same_mk | _ => .no }
theorem ref02_Same_ok : SigOk Try.prog 16 ref02_Same_sig := by
  refine contract_of (C := ref02_Same_C) (d := 3) ⟨S0_ok, noPs⟩ (callable_ex (by kernel_rfl)) ?_
  intro dvs
  unfold ref02_Same_sig
  dsimp only
  split
  · refine .inr ⟨_, ref02_Same_un, ref02_Same_mk, congrArg (fun o => Cl.yes _ o _) (ref02_Same_raw _ _), ?_⟩
    intro ds x h
    unfold ref02_Same_un at h
    split at h
    · cases h; rfl
    · cases h
  · exact .inl rfl
noncomputable def S1 : List (Nat × Sig) := (16, ref02_Same_sig) :: S0
theorem S1_ok : ListOk Try.prog S1 := ListOk.cons S0_ok ref02_Same_ok
noncomputable def cmd_CloneB_C : Cfg := { P := Try.prog, sig := lookSig S1, hb := fun _ _ => none, hr := fun _ _ => none }
noncomputable def cmd_CloneB_un : List DV → Option ((List Int)) := fun | [⟨.slice (.int .u8), r0⟩] => some r0 | _ => none
noncomputable def cmd_CloneB_mk : (List Int) → List DV := fun r0 => [⟨.slice (.int .u8), r0⟩]
theorem cmd_CloneB_ex : ∃ f : (List Int) → Option ((List Int)), f = fun (x0 : List Int) => avRun cmd_CloneB_C 3 54 [(false, [(true, .slice (.int .u8))])] cmd_CloneB_un [.fz (.int .u8) x0 false true] := ⟨_, rfl⟩
noncomputable def cmd_CloneB : (List Int) → Option ((List Int)) := cmd_CloneB_ex.choose
theorem cmd_CloneB_raw (x0 : List Int) : cmd_CloneB x0 = avRun cmd_CloneB_C 3 54 [(false, [(true, .slice (.int .u8))])] cmd_CloneB_un [.fz (.int .u8) x0 false true] := congrFun (cmd_CloneB_ex.choose_spec) x0
theorem cmd_CloneB_eq (x0 : List Int) : cmd_CloneB x0 =
  bif decide ((0 + ilen x0) * 1 ≤ room)
  then some ([] ++ x0)
  else none := (cmd_CloneB_raw x0).trans (by kernel_rfl)
theorem cmd_CloneB_nil : avRun cmd_CloneB_C 3 54 [(false, [(true, .slice (.int .u8))])] cmd_CloneB_un [.nils] = some ([]) := by kernel_rfl
noncomputable def cmd_CloneB_sig : Sig := { pm := [(false, [(false, .slice (.int .u8))])], rm := [(false, [(true, .slice (.int .u8))])], f := fun | [⟨.slice (.int .u8), x0⟩] => .yes _ (cmd_CloneB x0) cmd_CloneB_mk | _ => .no }
theorem cmd_CloneB_ok : SigOk Try.prog 54 cmd_CloneB_sig := by
  refine contract_slice (C := cmd_CloneB_C) (d := 3) ⟨S1_ok, noPs⟩ rfl (callable_ex (by kernel_rfl)) ?_
  intro dvs
  unfold cmd_CloneB_sig
  dsimp only
  split
  · refine .inr ⟨_, cmd_CloneB_un, cmd_CloneB_mk, _, rfl, congrArg (fun o => Cl.yes _ o _) (cmd_CloneB_raw _), ?_, ?_⟩
    · intro ds x h
      unfold cmd_CloneB_un at h
      split at h
      · cases h; rfl
      · cases h
    · intro x hl ho
      subst hl
      rw [← cmd_CloneB_raw, cmd_CloneB_eq] at ho
      rw [cmd_CloneB_nil]
      simpa [ilen, room] using ho
  · exact .inl rfl
noncomputable def S2 : List (Nat × Sig) := (54, cmd_CloneB_sig) :: S1
theorem S2_ok : ListOk Try.prog S2 := ListOk.cons S1_ok cmd_CloneB_ok
noncomputable def pack_Uint_C : Cfg := { P := Try.prog, sig := lookSig S2, hb := fun f b =>  bif Nat.beq f 36 && Nat.beq b 0 then some { tmps := [0, 1], obs := [0], nils := [], kl := [0, 188] } else none, hr := fun _ _ => none }
noncomputable def pack_Uint_un : List DV → Option ((List Int)) := fun | [⟨.slice (.int .u8), r0⟩] => some r0 | _ => none
noncomputable def pack_Uint_mk : (List Int) → List DV := fun r0 => [⟨.slice (.int .u8), r0⟩]
theorem pack_Uint_ex : ∃ f : (List Int) → (Int) → Option ((List Int)), f = fun (x0 : List Int) (x1 : Int) => funRun pack_Uint_C 3 36 [(false, [(true, .slice (.int .u8))]), (false, [(false, .int .u64)])] [(false, [(true, .slice (.int .u8))])] pack_Uint_un [⟨.slice (.int .u8), x0⟩, ⟨.int .u64, x1⟩] := ⟨_, rfl⟩
noncomputable def pack_Uint : (List Int) → (Int) → Option ((List Int)) := pack_Uint_ex.choose
theorem pack_Uint_raw (x0 : List Int) (x1 : Int) : pack_Uint x0 x1 = funRun pack_Uint_C 3 36 [(false, [(true, .slice (.int .u8))]), (false, [(false, .int .u64)])] [(false, [(true, .slice (.int .u8))])] pack_Uint_un [⟨.slice (.int .u8), x0⟩, ⟨.int .u64, x1⟩] := congrFun (congrFun (pack_Uint_ex.choose_spec) x0) x1
noncomputable def pack_Uint_l0 (y0 : Int) (y1 : List (Int)) : Option ((List Int)) := loopAt pack_Uint_C 3 36 [(false, [(true, .slice (.int .u8))])] pack_Uint_un [true, false, false] (St.ofLists [(0, .ow 0), (1, .int .u64 y0)] [(0, some (.row (Ty.int IntKind.u8) y1 0 false))] [0, 188])
theorem pack_Uint_eq (x0 : List Int) (x1 : Int) : pack_Uint x0 x1 =
  pack_Uint_l0 (x1) (x0) := (pack_Uint_raw x0 x1).trans (by kernel_rfl)
theorem pack_Uint_l0_eq (y0 : Int) (y1 : List (Int)) : pack_Uint_l0 y0 y1 =
  bif decide (y0 ≥ 128)
  then bif decide ((ilen y1 + ilen [IntKind.u8.wrap ↑(BitVec.ofInt IntKind.u8.bits (IntKind.u8.wrap y0) ||| BitVec.ofInt IntKind.u8.bits 128).toNat]) * 1 ≤ room)
    then pack_Uint_l0 (y0.fdiv (2 ^ min (Int.toNat 7) IntKind.u64.bits)) (y1 ++ [IntKind.u8.wrap ↑(BitVec.ofInt IntKind.u8.bits (IntKind.u8.wrap y0) ||| BitVec.ofInt IntKind.u8.bits 128).toNat])
    else none
  else bif decide ((ilen y1 + ilen [IntKind.u8.wrap y0]) * 1 ≤ room)
    then some (y1 ++ [IntKind.u8.wrap y0])
    else none := (loopAt_step _ _ _ _ _ _ _).trans (by kernel_rfl)
noncomputable def pack_Uint_sig : Sig := { pm := [(false, [(true, .slice (.int .u8))]), (false, [(false, .int .u64)])], rm := [(false, [(true, .slice (.int .u8))])], f := fun | [⟨.slice (.int .u8), x0⟩, ⟨.int .u64, x1⟩] => .yes _ (pack_Uint x0 x1) pack_Uint_mk | _ => .no }
theorem pack_Uint_ok : SigOk Try.prog 36 pack_Uint_sig := by
  refine contract_of (C := pack_Uint_C) (d := 3) ⟨S2_ok, noPs⟩ (callable_ex (by kernel_rfl)) ?_
  intro dvs
  unfold pack_Uint_sig
  dsimp only
  split
  · refine .inr ⟨_, pack_Uint_un, pack_Uint_mk, congrArg (fun o => Cl.yes _ o _) (pack_Uint_raw _ _), ?_⟩
    intro ds x h
    unfold pack_Uint_un at h
    split at h
    · cases h; rfl
    · cases h
  · exact .inl rfl
noncomputable def S3 : List (Nat × Sig) := (36, pack_Uint_sig) :: S2
theorem S3_ok : ListOk Try.prog S3 := ListOk.cons S2_ok pack_Uint_ok
noncomputable def pack_Int_C : Cfg := { P := Try.prog, sig := lookSig S3, hb := fun _ _ => none, hr := fun _ _ => none }
noncomputable def pack_Int_un : List DV → Option ((List Int)) := fun | [⟨.slice (.int .u8), r0⟩] => some r0 | _ => none
noncomputable def pack_Int_mk : (List Int) → List DV := fun r0 => [⟨.slice (.int .u8), r0⟩]
theorem pack_Int_ex : ∃ f : (List Int) → (Int) → Option ((List Int)), f = fun (x0 : List Int) (x1 : Int) => funRun pack_Int_C 3 38 [(false, [(true, .slice (.int .u8))]), (false, [(false, .int .i64)])] [(false, [(true, .slice (.int .u8))])] pack_Int_un [⟨.slice (.int .u8), x0⟩, ⟨.int .i64, x1⟩] := ⟨_, rfl⟩
noncomputable def pack_Int : (List Int) → (Int) → Option ((List Int)) := pack_Int_ex.choose
theorem pack_Int_raw (x0 : List Int) (x1 : Int) : pack_Int x0 x1 = funRun pack_Int_C 3 38 [(false, [(true, .slice (.int .u8))]), (false, [(false, .int .i64)])] [(false, [(true, .slice (.int .u8))])] pack_Int_un [⟨.slice (.int .u8), x0⟩, ⟨.int .i64, x1⟩] := congrFun (congrFun (pack_Int_ex.choose_spec) x0) x1
theorem pack_Int_eq (x0 : List Int) (x1 : Int) : pack_Int x0 x1 =
  (pack_Uint x0 (IntKind.u64.wrap ↑(BitVec.ofInt IntKind.u64.bits (IntKind.u64.wrap (IntKind.u64.wrap x1 * 2 ^ min (Int.toNat 1) IntKind.u64.bits)) ^^^ BitVec.ofInt IntKind.u64.bits (IntKind.u64.wrap (x1.fdiv (2 ^ min (Int.toNat 63) IntKind.i64.bits)))).toNat)).bind fun val0 =>
  some (val0) := (pack_Int_raw x0 x1).trans (by kernel_rfl)
noncomputable def pack_Int_sig : Sig := { pm := [(false, [(true, .slice (.int .u8))]), (false, [(false, .int .i64)])], rm := [(false, [(true, .slice (.int .u8))])], f := fun | [⟨.slice (.int .u8), x0⟩, ⟨.int .i64, x1⟩] => .yes _ (pack_Int x0 x1) pack_Int_mk | _ => .no }
theorem pack_Int_ok : SigOk Try.prog 38 pack_Int_sig := by
  refine contract_of (C := pack_Int_C) (d := 3) ⟨S3_ok, noPs⟩ (callable_ex (by kernel_rfl)) ?_
  intro dvs
  unfold pack_Int_sig
  dsimp only
  split
  · refine .inr ⟨_, pack_Int_un, pack_Int_mk, congrArg (fun o => Cl.yes _ o _) (pack_Int_raw _ _), ?_⟩
    intro ds x h
    unfold pack_Int_un at h
    split at h
    · cases h; rfl
    · cases h
  · exact .inl rfl
noncomputable def S4 : List (Nat × Sig) := (38, pack_Int_sig) :: S3
theorem S4_ok : ListOk Try.prog S4 := ListOk.cons S3_ok pack_Int_ok
noncomputable def pack_Bytes_C : Cfg := { P := Try.prog, sig := lookSig S4, hb := fun _ _ => none, hr := fun _ _ => none }
noncomputable def pack_Bytes_un : List DV → Option ((List Int)) := fun | [⟨.slice (.int .u8), r0⟩] => some r0 | _ => none
noncomputable def pack_Bytes_mk : (List Int) → List DV := fun r0 => [⟨.slice (.int .u8), r0⟩]
theorem pack_Bytes_ex : ∃ f : (List Int) → (List Int) → Option ((List Int)), f = fun (x0 : List Int) (x1 : List Int) => funRun pack_Bytes_C 3 37 [(false, [(true, .slice (.int .u8))]), (false, [(false, .slice (.int .u8))])] [(false, [(true, .slice (.int .u8))])] pack_Bytes_un [⟨.slice (.int .u8), x0⟩, ⟨.slice (.int .u8), x1⟩] := ⟨_, rfl⟩
noncomputable def pack_Bytes : (List Int) → (List Int) → Option ((List Int)) := pack_Bytes_ex.choose
theorem pack_Bytes_raw (x0 : List Int) (x1 : List Int) : pack_Bytes x0 x1 = funRun pack_Bytes_C 3 37 [(false, [(true, .slice (.int .u8))]), (false, [(false, .slice (.int .u8))])] [(false, [(true, .slice (.int .u8))])] pack_Bytes_un [⟨.slice (.int .u8), x0⟩, ⟨.slice (.int .u8), x1⟩] := congrFun (congrFun (pack_Bytes_ex.choose_spec) x0) x1
theorem pack_Bytes_eq (x0 : List Int) (x1 : List Int) : pack_Bytes x0 x1 =
  (pack_Uint x0 (IntKind.u64.wrap (ilen x1))).bind fun val0 =>
  bif decide ((ilen val0 + ilen x1) * 1 ≤ room)
    then some (val0 ++ x1)
    else none := (pack_Bytes_raw x0 x1).trans (by kernel_rfl)
noncomputable def pack_Bytes_sig : Sig := { pm := [(false, [(true, .slice (.int .u8))]), (false, [(false, .slice (.int .u8))])], rm := [(false, [(true, .slice (.int .u8))])], f := fun | [⟨.slice (.int .u8), x0⟩, ⟨.slice (.int .u8), x1⟩] => .yes _ (pack_Bytes x0 x1) pack_Bytes_mk | _ => .no }
theorem pack_Bytes_ok : SigOk Try.prog 37 pack_Bytes_sig := by
  refine contract_of (C := pack_Bytes_C) (d := 3) ⟨S4_ok, noPs⟩ (callable_ex (by kernel_rfl)) ?_
  intro dvs
  unfold pack_Bytes_sig
  dsimp only
  split
  · refine .inr ⟨_, pack_Bytes_un, pack_Bytes_mk, congrArg (fun o => Cl.yes _ o _) (pack_Bytes_raw _ _), ?_⟩
    intro ds x h
    unfold pack_Bytes_un at h
    split at h
    · cases h; rfl
    · cases h
  · exact .inl rfl
noncomputable def S5 : List (Nat × Sig) := (37, pack_Bytes_sig) :: S4
theorem S5_ok : ListOk Try.prog S5 := ListOk.cons S4_ok pack_Bytes_ok
noncomputable def pack_ReadUint_C : Cfg := { P := Try.prog, sig := lookSig S5, hb := fun f b =>  bif Nat.beq f 68 && Nat.beq b 0 then some { tmps := [0, 5, 10, 11], obs := [], nils := [], kl := [] } else none, hr := fun _ _ => none }
noncomputable def pack_ReadUint_un : List DV → Option (Int × (List Int) × Int) := fun | [⟨.int .u64, r0⟩, ⟨.slice (.int .u8), r1⟩, ⟨.int .i64, r2⟩] => some (r0, r1, r2) | _ => none
noncomputable def pack_ReadUint_mk : (Int × (List Int) × Int) → List DV := fun ⟨r0, r1, r2⟩ => [⟨.int .u64, r0⟩, ⟨.slice (.int .u8), r1⟩, ⟨.int .i64, r2⟩]
theorem pack_ReadUint_ex : ∃ f : (List Int) → Option (Int × (List Int) × Int), f = fun (x0 : List Int) => funRun pack_ReadUint_C 3 68 [(false, [(false, .slice (.int .u8))])] [(false, [(false, .int .u64)]), (false, [(false, .slice (.int .u8))]), (false, [(false, .int .i64)])] pack_ReadUint_un [⟨.slice (.int .u8), x0⟩] := ⟨_, rfl⟩
noncomputable def pack_ReadUint : (List Int) → Option (Int × (List Int) × Int) := pack_ReadUint_ex.choose
theorem pack_ReadUint_raw (x0 : List Int) : pack_ReadUint x0 = funRun pack_ReadUint_C 3 68 [(false, [(false, .slice (.int .u8))])] [(false, [(false, .int .u64)]), (false, [(false, .slice (.int .u8))]), (false, [(false, .int .i64)])] pack_ReadUint_un [⟨.slice (.int .u8), x0⟩] := congrFun (pack_ReadUint_ex.choose_spec) x0
noncomputable def pack_ReadUint_l0 (y0 : List (Int)) (y1 : Int) (y2 : Int) (y3 : Int) : Option (Int × (List Int) × Int) := loopAt pack_ReadUint_C 3 68 [(false, [(false, .int .u64)]), (false, [(false, .slice (.int .u8))]), (false, [(false, .int .i64)])] pack_ReadUint_un [true, true, false, true, false] (St.ofLists [(0, .fz (Ty.int IntKind.u8) y0 false false), (5, .int .u64 y1), (10, .int .i64 y2), (11, .int .i64 y3)] [] [])
theorem pack_ReadUint_eq (x0 : List Int) : pack_ReadUint x0 =
  pack_ReadUint_l0 (x0) (0) (if 10 < ilen x0 then 10 else ilen x0) (0) := (pack_ReadUint_raw x0).trans (by kernel_rfl)
theorem pack_ReadUint_l0_eq (y0 : List (Int)) (y1 : Int) (y2 : Int) (y3 : Int) : pack_ReadUint_l0 y0 y1 y2 y3 =
  bif decide (y3 < y2)
  then bif decide (0 ≤ y3)
    then (y0[y3.toNat]?).bind fun val4 =>
      bif y3 == 9
        then bif decide (IntKind.u64.wrap val4 > 1)
          then some ((0), (([]), (2)))
          else bif decide (IntKind.i64.wrap (7 * y3) < 0)
            then none
            else bif decide (IntKind.u64.wrap val4 < 128)
              then bif IntKind.u64.wrap val4 == 0
                then bif decide (y3 > 0)
                  then some ((0), (([]), (2)))
                  else bif decide (0 ≤ IntKind.i64.wrap (y3 + 1))
                    then bif decide (IntKind.i64.wrap (y3 + 1) ≤ ilen y0)
                      then bif decide (ilen y0 ≤ ilen y0)
                        then some ((IntKind.u64.wrap ↑(BitVec.ofInt IntKind.u64.bits y1 ||| BitVec.ofInt IntKind.u64.bits (IntKind.u64.wrap (IntKind.u64.wrap ↑(BitVec.ofInt IntKind.u64.bits (IntKind.u64.wrap val4) &&& BitVec.ofInt IntKind.u64.bits 127).toNat * 2 ^ min (IntKind.i64.wrap (7 * y3)).toNat IntKind.u64.bits))).toNat), ((List.drop (IntKind.i64.wrap (y3 + 1)).toNat (List.take (ilen y0).toNat y0)), (0)))
                        else none
                      else none
                    else none
                else bif decide (0 ≤ IntKind.i64.wrap (y3 + 1))
                  then bif decide (IntKind.i64.wrap (y3 + 1) ≤ ilen y0)
                    then bif decide (ilen y0 ≤ ilen y0)
                      then some ((IntKind.u64.wrap ↑(BitVec.ofInt IntKind.u64.bits y1 ||| BitVec.ofInt IntKind.u64.bits (IntKind.u64.wrap (IntKind.u64.wrap ↑(BitVec.ofInt IntKind.u64.bits (IntKind.u64.wrap val4) &&& BitVec.ofInt IntKind.u64.bits 127).toNat * 2 ^ min (IntKind.i64.wrap (7 * y3)).toNat IntKind.u64.bits))).toNat), ((List.drop (IntKind.i64.wrap (y3 + 1)).toNat (List.take (ilen y0).toNat y0)), (0)))
                      else none
                    else none
                  else none
              else pack_ReadUint_l0 (y0) (IntKind.u64.wrap ↑(BitVec.ofInt IntKind.u64.bits y1 ||| BitVec.ofInt IntKind.u64.bits (IntKind.u64.wrap (IntKind.u64.wrap ↑(BitVec.ofInt IntKind.u64.bits (IntKind.u64.wrap val4) &&& BitVec.ofInt IntKind.u64.bits 127).toNat * 2 ^ min (IntKind.i64.wrap (7 * y3)).toNat IntKind.u64.bits))).toNat) (y2) (IntKind.i64.wrap (y3 + 1))
        else bif decide (IntKind.i64.wrap (7 * y3) < 0)
          then none
          else bif decide (IntKind.u64.wrap val4 < 128)
            then bif IntKind.u64.wrap val4 == 0
              then bif decide (y3 > 0)
                then some ((0), (([]), (2)))
                else bif decide (0 ≤ IntKind.i64.wrap (y3 + 1))
                  then bif decide (IntKind.i64.wrap (y3 + 1) ≤ ilen y0)
                    then bif decide (ilen y0 ≤ ilen y0)
                      then some ((IntKind.u64.wrap ↑(BitVec.ofInt IntKind.u64.bits y1 ||| BitVec.ofInt IntKind.u64.bits (IntKind.u64.wrap (IntKind.u64.wrap ↑(BitVec.ofInt IntKind.u64.bits (IntKind.u64.wrap val4) &&& BitVec.ofInt IntKind.u64.bits 127).toNat * 2 ^ min (IntKind.i64.wrap (7 * y3)).toNat IntKind.u64.bits))).toNat), ((List.drop (IntKind.i64.wrap (y3 + 1)).toNat (List.take (ilen y0).toNat y0)), (0)))
                      else none
                    else none
                  else none
              else bif decide (0 ≤ IntKind.i64.wrap (y3 + 1))
                then bif decide (IntKind.i64.wrap (y3 + 1) ≤ ilen y0)
                  then bif decide (ilen y0 ≤ ilen y0)
                    then some ((IntKind.u64.wrap ↑(BitVec.ofInt IntKind.u64.bits y1 ||| BitVec.ofInt IntKind.u64.bits (IntKind.u64.wrap (IntKind.u64.wrap ↑(BitVec.ofInt IntKind.u64.bits (IntKind.u64.wrap val4) &&& BitVec.ofInt IntKind.u64.bits 127).toNat * 2 ^ min (IntKind.i64.wrap (7 * y3)).toNat IntKind.u64.bits))).toNat), ((List.drop (IntKind.i64.wrap (y3 + 1)).toNat (List.take (ilen y0).toNat y0)), (0)))
                    else none
                  else none
                else none
            else pack_ReadUint_l0 (y0) (IntKind.u64.wrap ↑(BitVec.ofInt IntKind.u64.bits y1 ||| BitVec.ofInt IntKind.u64.bits (IntKind.u64.wrap (IntKind.u64.wrap ↑(BitVec.ofInt IntKind.u64.bits (IntKind.u64.wrap val4) &&& BitVec.ofInt IntKind.u64.bits 127).toNat * 2 ^ min (IntKind.i64.wrap (7 * y3)).toNat IntKind.u64.bits))).toNat) (y2) (IntKind.i64.wrap (y3 + 1))
    else none
  else some ((0), (([]), (5))) := (loopAt_step _ _ _ _ _ _ _).trans (by kernel_rfl)
noncomputable def pack_ReadUint_sig : Sig := { pm := [(false, [(false, .slice (.int .u8))])], rm := [(false, [(false, .int .u64)]), (false, [(false, .slice (.int .u8))]), (false, [(false, .int .i64)])], f := fun | [⟨.slice (.int .u8), x0⟩] => .yes _ (pack_ReadUint x0) pack_ReadUint_mk | _ => .no }
theorem pack_ReadUint_ok : SigOk Try.prog 68 pack_ReadUint_sig := by
  refine contract_of (C := pack_ReadUint_C) (d := 3) ⟨S5_ok, noPs⟩ (callable_ex (by kernel_rfl)) ?_
  intro dvs
  unfold pack_ReadUint_sig
  dsimp only
  split
  · refine .inr ⟨_, pack_ReadUint_un, pack_ReadUint_mk, congrArg (fun o => Cl.yes _ o _) (pack_ReadUint_raw _), ?_⟩
    intro ds x h
    unfold pack_ReadUint_un at h
    split at h
    · cases h; rfl
    · cases h
  · exact .inl rfl
noncomputable def S6 : List (Nat × Sig) := (68, pack_ReadUint_sig) :: S5
theorem S6_ok : ListOk Try.prog S6 := ListOk.cons S5_ok pack_ReadUint_ok
noncomputable def pack_ReadInt_C : Cfg := { P := Try.prog, sig := lookSig S6, hb := fun _ _ => none, hr := fun _ _ => none }
noncomputable def pack_ReadInt_un : List DV → Option (Int × (List Int) × Int) := fun | [⟨.int .i64, r0⟩, ⟨.slice (.int .u8), r1⟩, ⟨.int .i64, r2⟩] => some (r0, r1, r2) | _ => none
noncomputable def pack_ReadInt_mk : (Int × (List Int) × Int) → List DV := fun ⟨r0, r1, r2⟩ => [⟨.int .i64, r0⟩, ⟨.slice (.int .u8), r1⟩, ⟨.int .i64, r2⟩]
theorem pack_ReadInt_ex : ∃ f : (List Int) → Option (Int × (List Int) × Int), f = fun (x0 : List Int) => funRun pack_ReadInt_C 3 51 [(false, [(false, .slice (.int .u8))])] [(false, [(false, .int .i64)]), (false, [(false, .slice (.int .u8))]), (false, [(false, .int .i64)])] pack_ReadInt_un [⟨.slice (.int .u8), x0⟩] := ⟨_, rfl⟩
noncomputable def pack_ReadInt : (List Int) → Option (Int × (List Int) × Int) := pack_ReadInt_ex.choose
theorem pack_ReadInt_raw (x0 : List Int) : pack_ReadInt x0 = funRun pack_ReadInt_C 3 51 [(false, [(false, .slice (.int .u8))])] [(false, [(false, .int .i64)]), (false, [(false, .slice (.int .u8))]), (false, [(false, .int .i64)])] pack_ReadInt_un [⟨.slice (.int .u8), x0⟩] := congrFun (pack_ReadInt_ex.choose_spec) x0
theorem pack_ReadInt_eq (x0 : List Int) : pack_ReadInt x0 =
  (pack_ReadUint x0).bind fun val0 =>
  some ((IntKind.i64.wrap ↑(BitVec.ofInt IntKind.i64.bits (IntKind.i64.wrap (val0.1.fdiv (2 ^ min (Int.toNat 1) IntKind.u64.bits))) ^^^ BitVec.ofInt IntKind.i64.bits (IntKind.i64.wrap (0 - IntKind.i64.wrap (IntKind.u64.wrap ↑(BitVec.ofInt IntKind.u64.bits val0.1 &&& BitVec.ofInt IntKind.u64.bits 1).toNat)))).toNat), ((val0.2.1), (val0.2.2))) := (pack_ReadInt_raw x0).trans (by kernel_rfl)
noncomputable def pack_ReadInt_sig : Sig := { pm := [(false, [(false, .slice (.int .u8))])], rm := [(false, [(false, .int .i64)]), (false, [(false, .slice (.int .u8))]), (false, [(false, .int .i64)])], f := fun | [⟨.slice (.int .u8), x0⟩] => .yes _ (pack_ReadInt x0) pack_ReadInt_mk | _ => .no }
theorem pack_ReadInt_ok : SigOk Try.prog 51 pack_ReadInt_sig := by
  refine contract_of (C := pack_ReadInt_C) (d := 3) ⟨S6_ok, noPs⟩ (callable_ex (by kernel_rfl)) ?_
  intro dvs
  unfold pack_ReadInt_sig
  dsimp only
  split
  · refine .inr ⟨_, pack_ReadInt_un, pack_ReadInt_mk, congrArg (fun o => Cl.yes _ o _) (pack_ReadInt_raw _), ?_⟩
    intro ds x h
    unfold pack_ReadInt_un at h
    split at h
    · cases h; rfl
    · cases h
  · exact .inl rfl
noncomputable def S7 : List (Nat × Sig) := (51, pack_ReadInt_sig) :: S6
theorem S7_ok : ListOk Try.prog S7 := ListOk.cons S6_ok pack_ReadInt_ok
noncomputable def pack_ReadBytes_C : Cfg := { P := Try.prog, sig := lookSig S7, hb := fun _ _ => none, hr := fun _ _ => none }
noncomputable def pack_ReadBytes_un : List DV → Option ((List Int) × (List Int) × Int) := fun | [⟨.slice (.int .u8), r0⟩, ⟨.slice (.int .u8), r1⟩, ⟨.int .i64, r2⟩] => some (r0, r1, r2) | _ => none
noncomputable def pack_ReadBytes_mk : ((List Int) × (List Int) × Int) → List DV := fun ⟨r0, r1, r2⟩ => [⟨.slice (.int .u8), r0⟩, ⟨.slice (.int .u8), r1⟩, ⟨.int .i64, r2⟩]
theorem pack_ReadBytes_ex : ∃ f : (List Int) → Option ((List Int) × (List Int) × Int), f = fun (x0 : List Int) => funRun pack_ReadBytes_C 3 56 [(false, [(false, .slice (.int .u8))])] [(false, [(false, .slice (.int .u8))]), (false, [(false, .slice (.int .u8))]), (false, [(false, .int .i64)])] pack_ReadBytes_un [⟨.slice (.int .u8), x0⟩] := ⟨_, rfl⟩
noncomputable def pack_ReadBytes : (List Int) → Option ((List Int) × (List Int) × Int) := pack_ReadBytes_ex.choose
theorem pack_ReadBytes_raw (x0 : List Int) : pack_ReadBytes x0 = funRun pack_ReadBytes_C 3 56 [(false, [(false, .slice (.int .u8))])] [(false, [(false, .slice (.int .u8))]), (false, [(false, .slice (.int .u8))]), (false, [(false, .int .i64)])] pack_ReadBytes_un [⟨.slice (.int .u8), x0⟩] := congrFun (pack_ReadBytes_ex.choose_spec) x0
theorem pack_ReadBytes_eq (x0 : List Int) : pack_ReadBytes x0 =
  (pack_ReadUint x0).bind fun val0 =>
  bif val0.2.2 != 0
    then some (([]), (([]), (val0.2.2)))
    else bif decide (val0.1 > IntKind.u64.wrap (ilen val0.2.1))
      then some (([]), (([]), (5)))
      else bif decide (0 ≤ val0.1)
        then bif decide (val0.1 ≤ val0.1)
          then bif decide (val0.1 ≤ ilen val0.2.1)
            then bif decide (0 ≤ val0.1)
              then bif decide (val0.1 ≤ ilen val0.2.1)
                then bif decide (ilen val0.2.1 ≤ ilen val0.2.1)
                  then some ((List.drop (Int.toNat 0) (List.take val0.1.toNat val0.2.1)), ((List.drop val0.1.toNat (List.take (ilen val0.2.1).toNat val0.2.1)), (0)))
                  else none
                else none
              else none
            else none
          else none
        else none := (pack_ReadBytes_raw x0).trans (by kernel_rfl)
noncomputable def pack_ReadBytes_sig : Sig := { pm := [(false, [(false, .slice (.int .u8))])], rm := [(false, [(false, .slice (.int .u8))]), (false, [(false, .slice (.int .u8))]), (false, [(false, .int .i64)])], f := fun | [⟨.slice (.int .u8), x0⟩] => .yes _ (pack_ReadBytes x0) pack_ReadBytes_mk | _ => .no }
theorem pack_ReadBytes_ok : SigOk Try.prog 56 pack_ReadBytes_sig := by
  refine contract_of (C := pack_ReadBytes_C) (d := 3) ⟨S7_ok, noPs⟩ (callable_ex (by kernel_rfl)) ?_
  intro dvs
  unfold pack_ReadBytes_sig
  dsimp only
  split
  · refine .inr ⟨_, pack_ReadBytes_un, pack_ReadBytes_mk, congrArg (fun o => Cl.yes _ o _) (pack_ReadBytes_raw _), ?_⟩
    intro ds x h
    unfold pack_ReadBytes_un at h
    split at h
    · cases h; rfl
    · cases h
  · exact .inl rfl
noncomputable def S8 : List (Nat × Sig) := (56, pack_ReadBytes_sig) :: S7
theorem S8_ok : ListOk Try.prog S8 := ListOk.cons S7_ok pack_ReadBytes_ok
noncomputable def pack_Name_C : Cfg := { P := Try.prog, sig := lookSig S8, hb := fun f b =>  bif Nat.beq f 61 && Nat.beq b 0 then some { tmps := [0, 7, 8, 9], obs := [156], nils := [], kl := [156] } else none, hr := fun _ _ => none }
noncomputable def pack_Name_un : List DV → Option (Bool) := fun | [⟨.bool, r0⟩] => some r0 | _ => none
noncomputable def pack_Name_mk : Bool → List DV := fun r0 => [⟨.bool, r0⟩]
theorem pack_Name_ex : ∃ f : (ByteArray) → Option (Bool), f = fun (x0 : ByteArray) => funRun pack_Name_C 3 61 [(false, [(false, .str)])] [(false, [(false, .bool)])] pack_Name_un [⟨.str, x0⟩] := ⟨_, rfl⟩
noncomputable def pack_Name : (ByteArray) → Option (Bool) := pack_Name_ex.choose
theorem pack_Name_raw (x0 : ByteArray) : pack_Name x0 = funRun pack_Name_C 3 61 [(false, [(false, .str)])] [(false, [(false, .bool)])] pack_Name_un [⟨.str, x0⟩] := congrFun (pack_Name_ex.choose_spec) x0
noncomputable def pack_Name_l0 (y0 : ByteArray) (y1 : Int) (y2 : Int) (y3 : List (Int)) : Option (Bool) := loopAt pack_Name_C 3 61 [(false, [(false, .bool)])] pack_Name_un [true, false, true, false] (St.ofLists [(0, .str y0), (7, .ow 156), (8, .int .i64 y1), (9, .int .i64 y2)] [(156, some (.row (Ty.int IntKind.u8) y3 0 false))] [156])
theorem pack_Name_eq (x0 : ByteArray) : pack_Name x0 =
  pack_Name_l0 (x0) (ilen (bytesList x0)) (0) (bytesList x0) := (pack_Name_raw x0).trans (by kernel_rfl)
theorem pack_Name_l0_eq (y0 : ByteArray) (y1 : Int) (y2 : Int) (y3 : List (Int)) : pack_Name_l0 y0 y1 y2 y3 =
  bif decide (y2 < y1)
  then bif decide (0 ≤ y2)
    then bif decide (y2 < ilen y3)
      then (y3[y2.toNat]?).bind fun val6 =>
        bif decide (val6 ≥ 97)
          then bif !decide (val6 ≤ 122)
            then bif y2 == 0
              then some false
              else bif decide (val6 < 48)
                then some false
                else bif decide (val6 > 57)
                  then some false
                  else pack_Name_l0 (y0) (y1) (IntKind.i64.wrap (y2 + 1)) (y3)
            else pack_Name_l0 (y0) (y1) (IntKind.i64.wrap (y2 + 1)) (y3)
          else bif y2 == 0
            then some false
            else bif decide (val6 < 48)
              then some false
              else bif decide (val6 > 57)
                then some false
                else pack_Name_l0 (y0) (y1) (IntKind.i64.wrap (y2 + 1)) (y3)
      else none
    else none
  else bif decide (isize y0 ≥ 1)
    then some (decide (isize y0 ≤ 32))
    else some false := (loopAt_step _ _ _ _ _ _ _).trans (by kernel_rfl)
noncomputable def pack_Name_sig : Sig := { pm := [(false, [(false, .str)])], rm := [(false, [(false, .bool)])], f := fun | [⟨.str, x0⟩] => .yes _ (pack_Name x0) pack_Name_mk | _ => .no }
theorem pack_Name_ok : SigOk Try.prog 61 pack_Name_sig := by
  refine contract_of (C := pack_Name_C) (d := 3) ⟨S8_ok, noPs⟩ (callable_ex (by kernel_rfl)) ?_
  intro dvs
  unfold pack_Name_sig
  dsimp only
  split
  · refine .inr ⟨_, pack_Name_un, pack_Name_mk, congrArg (fun o => Cl.yes _ o _) (pack_Name_raw _), ?_⟩
    intro ds x h
    unfold pack_Name_un at h
    split at h
    · cases h; rfl
    · cases h
  · exact .inl rfl
noncomputable def S9 : List (Nat × Sig) := (61, pack_Name_sig) :: S8
theorem S9_ok : ListOk Try.prog S9 := ListOk.cons S8_ok pack_Name_ok
noncomputable def ref02_Name_C : Cfg := { P := Try.prog, sig := lookSig S9, hb := fun f b =>  bif Nat.beq f 63 && Nat.beq b 0 then some { tmps := [0, 3], obs := [], nils := [], kl := [] } else none, hr := fun _ _ => none }
noncomputable def ref02_Name_un : List DV → Option (Bool) := fun | [⟨.bool, r0⟩] => some r0 | _ => none
noncomputable def ref02_Name_mk : Bool → List DV := fun r0 => [⟨.bool, r0⟩]
theorem ref02_Name_ex : ∃ f : (ByteArray) → Option (Bool), f = fun (x0 : ByteArray) => funRun ref02_Name_C 3 63 [(false, [(false, .str)])] [(false, [(false, .bool)])] ref02_Name_un [⟨.str, x0⟩] := ⟨_, rfl⟩
noncomputable def ref02_Name : (ByteArray) → Option (Bool) := ref02_Name_ex.choose
theorem ref02_Name_raw (x0 : ByteArray) : ref02_Name x0 = funRun ref02_Name_C 3 63 [(false, [(false, .str)])] [(false, [(false, .bool)])] ref02_Name_un [⟨.str, x0⟩] := congrFun (ref02_Name_ex.choose_spec) x0
noncomputable def ref02_Name_l0 (y0 : ByteArray) (y1 : Int) : Option (Bool) := loopAt ref02_Name_C 3 63 [(false, [(false, .bool)])] ref02_Name_un [true, true, false, true, false] (St.ofLists [(0, .str y0), (3, .int .i64 y1)] [] [])
theorem ref02_Name_eq (x0 : ByteArray) : ref02_Name x0 =
  bif isize x0 == 0
  then some false
  else bif decide (isize x0 > 32)
    then some false
    else (x0.data[Int.toNat 0]?).bind fun val4 =>
      bif decide ((val4.toNat : Int) < 97)
        then some false
        else ref02_Name_l0 (x0) (0) := (ref02_Name_raw x0).trans (by kernel_rfl)
theorem ref02_Name_l0_eq (y0 : ByteArray) (y1 : Int) : ref02_Name_l0 y0 y1 =
  bif decide (y1 < isize y0)
  then bif decide (0 ≤ y1)
    then (y0.data[y1.toNat]?).bind fun val4 =>
      bif decide ((val4.toNat : Int) ≥ 48)
        then bif decide (0 ≤ y1)
          then (y0.data[y1.toNat]?).bind fun val10 =>
            bif decide (0 ≤ y1)
              then (y0.data[y1.toNat]?).bind fun val14 =>
                bif decide ((val14.toNat : Int) ≥ 97)
                  then bif decide (0 ≤ y1)
                    then (y0.data[y1.toNat]?).bind fun val20 =>
                      bif !decide ((val10.toNat : Int) ≤ 57)
                        then bif !decide ((val20.toNat : Int) ≤ 122)
                          then some false
                          else ref02_Name_l0 (y0) (IntKind.i64.wrap (y1 + 1))
                        else ref02_Name_l0 (y0) (IntKind.i64.wrap (y1 + 1))
                    else none
                  else bif !decide ((val10.toNat : Int) ≤ 57)
                    then some false
                    else ref02_Name_l0 (y0) (IntKind.i64.wrap (y1 + 1))
              else none
          else none
        else bif decide (0 ≤ y1)
          then (y0.data[y1.toNat]?).bind fun val10 =>
            bif decide ((val10.toNat : Int) ≥ 97)
              then bif decide (0 ≤ y1)
                then (y0.data[y1.toNat]?).bind fun val16 =>
                  bif !decide ((val16.toNat : Int) ≤ 122)
                    then some false
                    else ref02_Name_l0 (y0) (IntKind.i64.wrap (y1 + 1))
                else none
              else some false
          else none
    else none
  else some true := (loopAt_step _ _ _ _ _ _ _).trans (by kernel_rfl)
noncomputable def ref02_Name_sig : Sig := { pm := [(false, [(false, .str)])], rm := [(false, [(false, .bool)])], f := fun | [⟨.str, x0⟩] => .yes _ (ref02_Name x0) ref02_Name_mk | _ => .no }
theorem ref02_Name_ok : SigOk Try.prog 63 ref02_Name_sig := by
  refine contract_of (C := ref02_Name_C) (d := 3) ⟨S9_ok, noPs⟩ (callable_ex (by kernel_rfl)) ?_
  intro dvs
  unfold ref02_Name_sig
  dsimp only
  split
  · refine .inr ⟨_, ref02_Name_un, ref02_Name_mk, congrArg (fun o => Cl.yes _ o _) (ref02_Name_raw _), ?_⟩
    intro ds x h
    unfold ref02_Name_un at h
    split at h
    · cases h; rfl
    · cases h
  · exact .inl rfl
noncomputable def S10 : List (Nat × Sig) := (63, ref02_Name_sig) :: S9
theorem S10_ok : ListOk Try.prog S10 := ListOk.cons S9_ok ref02_Name_ok
noncomputable def vars_Check_C : Cfg := { P := Try.prog, sig := lookSig S10, hb := fun f b =>  bif Nat.beq f 62 && Nat.beq b 1 then some { tmps := [1, 19, 20, 21], obs := [108], nils := [], kl := [108] } else none, hr := fun _ _ => none }
noncomputable def vars_Check_un : List DV → Option (Int) := fun | [⟨.int .i64, r0⟩] => some r0 | _ => none
noncomputable def vars_Check_mk : Int → List DV := fun r0 => [⟨.int .i64, r0⟩]
theorem vars_Check_ex : ∃ f : (List ByteArray) → (List Int) → Option (Int), f = fun (x0 : List ByteArray) (x1 : List Int) => funRun vars_Check_C 3 62 [(true, [(false, .slice (.str)), (false, .slice (.int .i64))])] [(false, [(false, .int .i64)])] vars_Check_un [⟨.slice (.str), x0⟩, ⟨.slice (.int .i64), x1⟩] := ⟨_, rfl⟩
noncomputable def vars_Check : (List ByteArray) → (List Int) → Option (Int) := vars_Check_ex.choose
theorem vars_Check_raw (x0 : List ByteArray) (x1 : List Int) : vars_Check x0 x1 = funRun vars_Check_C 3 62 [(true, [(false, .slice (.str)), (false, .slice (.int .i64))])] [(false, [(false, .int .i64)])] vars_Check_un [⟨.slice (.str), x0⟩, ⟨.slice (.int .i64), x1⟩] := congrFun (congrFun (vars_Check_ex.choose_spec) x0) x1
noncomputable def vars_Check_l1 (y0 : List (ByteArray)) (y1 : Int) (y2 : Int) (y3 : List (ByteArray)) (y4 : List (Int)) : Option (Int) := loopAt vars_Check_C 3 62 [(false, [(false, .int .i64)])] vars_Check_un [true, true, false, true, false] (St.ofLists [(1, .ptr 108 0), (19, .fz (Ty.str) y0 false false), (20, .int .i64 y1), (21, .int .i64 y2)] [(108, some (.cells [.fz (Ty.str) y3 false false, .fz (Ty.int IntKind.i64) y4 false false]))] [108])
theorem vars_Check_eq (x0 : List ByteArray) (x1 : List Int) : vars_Check x0 x1 =
  bif ilen x0 != ilen x1
  then some (1)
  else bif decide (ilen x0 > 64)
    then some (6)
    else vars_Check_l1 (x0) (ilen x0) (0) (x0) (x1) := (vars_Check_raw x0 x1).trans (by kernel_rfl)
theorem vars_Check_l1_eq (y0 : List (ByteArray)) (y1 : Int) (y2 : Int) (y3 : List (ByteArray)) (y4 : List (Int)) : vars_Check_l1 y0 y1 y2 y3 y4 =
  bif decide (y2 < y1)
  then bif decide (0 ≤ y2)
    then (y0[y2.toNat]?).bind fun val4 =>
      (pack_Name val4).bind fun val6 =>
        bif !val6
          then some (1)
          else bif ByteArray.toList val4 == (⟨#[121, 101, 115]⟩ : ByteArray).toList
            then some (1)
            else bif ByteArray.toList val4 == (⟨#[110, 111]⟩ : ByteArray).toList
              then some (1)
              else bif decide (y2 > 0)
                then bif decide (0 ≤ IntKind.i64.wrap (y2 - 1))
                  then (y3[(IntKind.i64.wrap (y2 - 1)).toNat]?).bind fun val18 =>
                    bif !Op.bytesLess (ByteArray.toList val18) (ByteArray.toList val4)
                      then some (1)
                      else vars_Check_l1 (y0) (y1) (IntKind.i64.wrap (y2 + 1)) (y3) (y4)
                  else none
                else vars_Check_l1 (y0) (y1) (IntKind.i64.wrap (y2 + 1)) (y3) (y4)
    else none
  else some (0) := (loopAt_step _ _ _ _ _ _ _).trans (by kernel_rfl)
noncomputable def vars_Check_sig : Sig := { pm := [(true, [(false, .slice (.str)), (false, .slice (.int .i64))])], rm := [(false, [(false, .int .i64)])], f := fun | [⟨.slice (.str), x0⟩, ⟨.slice (.int .i64), x1⟩] => .yes _ (vars_Check x0 x1) vars_Check_mk | _ => .no }
theorem vars_Check_ok : SigOk Try.prog 62 vars_Check_sig := by
  refine contract_of (C := vars_Check_C) (d := 3) ⟨S10_ok, noPs⟩ (callable_ex (by kernel_rfl)) ?_
  intro dvs
  unfold vars_Check_sig
  dsimp only
  split
  · refine .inr ⟨_, vars_Check_un, vars_Check_mk, congrArg (fun o => Cl.yes _ o _) (vars_Check_raw _ _), ?_⟩
    intro ds x h
    unfold vars_Check_un at h
    split at h
    · cases h; rfl
    · cases h
  · exact .inl rfl
noncomputable def S11 : List (Nat × Sig) := (62, vars_Check_sig) :: S10
theorem S11_ok : ListOk Try.prog S11 := ListOk.cons S10_ok vars_Check_ok
noncomputable def ref09_Check_C : Cfg := { P := Try.prog, sig := lookSig S11, hb := fun f b =>  bif Nat.beq f 64 && Nat.beq b 0 then some { tmps := [1, 3], obs := [108], nils := [], kl := [108] } else none, hr := fun _ _ => none }
noncomputable def ref09_Check_un : List DV → Option (Int) := fun | [⟨.int .i64, r0⟩] => some r0 | _ => none
noncomputable def ref09_Check_mk : Int → List DV := fun r0 => [⟨.int .i64, r0⟩]
theorem ref09_Check_ex : ∃ f : (List ByteArray) → (List Int) → Option (Int), f = fun (x0 : List ByteArray) (x1 : List Int) => funRun ref09_Check_C 3 64 [(true, [(false, .slice (.str)), (false, .slice (.int .i64))])] [(false, [(false, .int .i64)])] ref09_Check_un [⟨.slice (.str), x0⟩, ⟨.slice (.int .i64), x1⟩] := ⟨_, rfl⟩
noncomputable def ref09_Check : (List ByteArray) → (List Int) → Option (Int) := ref09_Check_ex.choose
theorem ref09_Check_raw (x0 : List ByteArray) (x1 : List Int) : ref09_Check x0 x1 = funRun ref09_Check_C 3 64 [(true, [(false, .slice (.str)), (false, .slice (.int .i64))])] [(false, [(false, .int .i64)])] ref09_Check_un [⟨.slice (.str), x0⟩, ⟨.slice (.int .i64), x1⟩] := congrFun (congrFun (ref09_Check_ex.choose_spec) x0) x1
noncomputable def ref09_Check_l0 (y0 : Int) (y1 : List (ByteArray)) (y2 : List (Int)) : Option (Int) := loopAt ref09_Check_C 3 64 [(false, [(false, .int .i64)])] ref09_Check_un [true, true, true, false, true, false] (St.ofLists [(1, .ptr 108 0), (3, .int .i64 y0)] [(108, some (.cells [.fz (Ty.str) y1 false false, .fz (Ty.int IntKind.i64) y2 false false]))] [108])
theorem ref09_Check_eq (x0 : List ByteArray) (x1 : List Int) : ref09_Check x0 x1 =
  bif ilen x0 != ilen x1
  then some (1)
  else bif decide (ilen x0 > 64)
    then some (6)
    else ref09_Check_l0 (0) (x0) (x1) := (ref09_Check_raw x0 x1).trans (by kernel_rfl)
theorem ref09_Check_l0_eq (y0 : Int) (y1 : List (ByteArray)) (y2 : List (Int)) : ref09_Check_l0 y0 y1 y2 =
  bif decide (y0 < ilen y1)
  then bif decide (0 ≤ y0)
    then (y1[y0.toNat]?).bind fun val4 =>
      (ref02_Name val4).bind fun val6 =>
        bif !val6
          then some (1)
          else bif ByteArray.toList val4 == (⟨#[121, 101, 115]⟩ : ByteArray).toList
            then some (1)
            else bif ByteArray.toList val4 == (⟨#[110, 111]⟩ : ByteArray).toList
              then some (1)
              else bif decide (y0 > 0)
                then bif decide (0 ≤ IntKind.i64.wrap (y0 - 1))
                  then (y1[(IntKind.i64.wrap (y0 - 1)).toNat]?).bind fun val18 =>
                    bif !Op.bytesLess (ByteArray.toList val18) (ByteArray.toList val4)
                      then some (1)
                      else ref09_Check_l0 (IntKind.i64.wrap (y0 + 1)) (y1) (y2)
                  else none
                else ref09_Check_l0 (IntKind.i64.wrap (y0 + 1)) (y1) (y2)
    else none
  else some (0) := (loopAt_step _ _ _ _ _ _ _).trans (by kernel_rfl)
noncomputable def ref09_Check_sig : Sig := { pm := [(true, [(false, .slice (.str)), (false, .slice (.int .i64))])], rm := [(false, [(false, .int .i64)])], f := fun | [⟨.slice (.str), x0⟩, ⟨.slice (.int .i64), x1⟩] => .yes _ (ref09_Check x0 x1) ref09_Check_mk | _ => .no }
theorem ref09_Check_ok : SigOk Try.prog 64 ref09_Check_sig := by
  refine contract_of (C := ref09_Check_C) (d := 3) ⟨S11_ok, noPs⟩ (callable_ex (by kernel_rfl)) ?_
  intro dvs
  unfold ref09_Check_sig
  dsimp only
  split
  · refine .inr ⟨_, ref09_Check_un, ref09_Check_mk, congrArg (fun o => Cl.yes _ o _) (ref09_Check_raw _ _), ?_⟩
    intro ds x h
    unfold ref09_Check_un at h
    split at h
    · cases h; rfl
    · cases h
  · exact .inl rfl
noncomputable def S12 : List (Nat × Sig) := (64, ref09_Check_sig) :: S11
theorem S12_ok : ListOk Try.prog S12 := ListOk.cons S11_ok ref09_Check_ok
noncomputable def vars_Put_C : Cfg := { P := Try.prog, sig := lookSig S12, hb := fun f b =>  bif Nat.beq f 39 && Nat.beq b 0 then some { tmps := [0, 3, 14, 15, 16], obs := [124, 60], nils := [(0, 60, (.int .u8))], kl := [196, 124, 348, 292, 284, 60] } else none, hr := fun _ _ => none }
noncomputable def vars_Put_un : List DV → Option ((List Int)) := fun | [⟨.slice (.int .u8), r0⟩] => some r0 | _ => none
noncomputable def vars_Put_mk : (List Int) → List DV := fun r0 => [⟨.slice (.int .u8), r0⟩]
theorem vars_Put_ex : ∃ f : (List Int) → (List ByteArray) → (List Int) → Option ((List Int)), f = fun (x0 : List Int) (x1 : List ByteArray) (x2 : List Int) => funRun vars_Put_C 3 39 [(false, [(true, .slice (.int .u8))]), (true, [(false, .slice (.str)), (false, .slice (.int .i64))])] [(false, [(true, .slice (.int .u8))])] vars_Put_un [⟨.slice (.int .u8), x0⟩, ⟨.slice (.str), x1⟩, ⟨.slice (.int .i64), x2⟩] := ⟨_, rfl⟩
noncomputable def vars_Put : (List Int) → (List ByteArray) → (List Int) → Option ((List Int)) := vars_Put_ex.choose
theorem vars_Put_raw (x0 : List Int) (x1 : List ByteArray) (x2 : List Int) : vars_Put x0 x1 x2 = funRun vars_Put_C 3 39 [(false, [(true, .slice (.int .u8))]), (true, [(false, .slice (.str)), (false, .slice (.int .i64))])] [(false, [(true, .slice (.int .u8))])] vars_Put_un [⟨.slice (.int .u8), x0⟩, ⟨.slice (.str), x1⟩, ⟨.slice (.int .i64), x2⟩] := congrFun (congrFun (congrFun (vars_Put_ex.choose_spec) x0) x1) x2
noncomputable def vars_Put_l0 (y0 : List (ByteArray)) (y1 : Int) (y2 : Int) (y3 : List (ByteArray)) (y4 : List (Int)) (y5 : List (Int)) : Option ((List Int)) := loopAt vars_Put_C 3 39 [(false, [(true, .slice (.int .u8))])] vars_Put_un [true, true, false, true, false] (St.ofLists [(0, .ow 60), (3, .ptr 124 0), (14, .fz (Ty.str) y0 false false), (15, .int .i64 y1), (16, .int .i64 y2)] [(124, some (.cells [.fz (Ty.str) y3 false false, .fz (Ty.int IntKind.i64) y4 false false])), (60, some (.row (Ty.int IntKind.u8) y5 0 false))] [196, 124, 348, 292, 284, 60])
theorem vars_Put_eq (x0 : List Int) (x1 : List ByteArray) (x2 : List Int) : vars_Put x0 x1 x2 =
  (pack_Uint x0 (IntKind.u64.wrap (ilen x1))).bind fun val0 =>
  vars_Put_l0 (x1) (ilen x1) (0) (x1) (x2) (val0) := (vars_Put_raw x0 x1 x2).trans (by kernel_rfl)
theorem vars_Put_l0_eq (y0 : List (ByteArray)) (y1 : Int) (y2 : Int) (y3 : List (ByteArray)) (y4 : List (Int)) (y5 : List (Int)) : vars_Put_l0 y0 y1 y2 y3 y4 y5 =
  bif decide (y2 < y1)
  then bif decide (0 ≤ y2)
    then (y0[y2.toNat]?).bind fun val4 =>
      (pack_Bytes y5 (bytesList val4)).bind fun val6 =>
        bif decide (0 ≤ y2)
          then (y4[y2.toNat]?).bind fun val10 =>
            (pack_Int val6 val10).bind fun val12 =>
              vars_Put_l0 (y0) (y1) (IntKind.i64.wrap (y2 + 1)) (y3) (y4) (val12)
          else none
    else none
  else some (y5) := (loopAt_step _ _ _ _ _ _ _).trans (by kernel_rfl)
noncomputable def vars_Put_sig : Sig := { pm := [(false, [(true, .slice (.int .u8))]), (true, [(false, .slice (.str)), (false, .slice (.int .i64))])], rm := [(false, [(true, .slice (.int .u8))])], f := fun | [⟨.slice (.int .u8), x0⟩, ⟨.slice (.str), x1⟩, ⟨.slice (.int .i64), x2⟩] => .yes _ (vars_Put x0 x1 x2) vars_Put_mk | _ => .no }
theorem vars_Put_ok : SigOk Try.prog 39 vars_Put_sig := by
  refine contract_of (C := vars_Put_C) (d := 3) ⟨S12_ok, noPs⟩ (callable_ex (by kernel_rfl)) ?_
  intro dvs
  unfold vars_Put_sig
  dsimp only
  split
  · refine .inr ⟨_, vars_Put_un, vars_Put_mk, congrArg (fun o => Cl.yes _ o _) (vars_Put_raw _ _ _), ?_⟩
    intro ds x h
    unfold vars_Put_un at h
    split at h
    · cases h; rfl
    · cases h
  · exact .inl rfl
noncomputable def S13 : List (Nat × Sig) := (39, vars_Put_sig) :: S12
theorem S13_ok : ListOk Try.prog S13 := ListOk.cons S12_ok vars_Put_ok
noncomputable def vars_Read_C : Cfg := { P := Try.prog, sig := lookSig S13, hb := fun f b =>  bif Nat.beq f 53 && Nat.beq b 0 then some { tmps := [0, 2, 7, 26, 27], obs := [116, 156, 60, 61], nils := [], kl := [156, 116, 572, 564, 532, 524, 61, 60], cn := [(156, 0, 60, (.str)), (156, 1, 61, (.int .i64))] } else none, hr := fun _ _ => none, mv := true }
noncomputable def vars_Read_un : List DV → Option ((List ByteArray) × (List Int) × (List Int) × Int) := fun | [⟨.slice (.str), r0⟩, ⟨.slice (.int .i64), r1⟩, ⟨.slice (.int .u8), r2⟩, ⟨.int .i64, r3⟩] => some (r0, r1, r2, r3) | _ => none
noncomputable def vars_Read_mk : ((List ByteArray) × (List Int) × (List Int) × Int) → List DV := fun ⟨r0, r1, r2, r3⟩ => [⟨.slice (.str), r0⟩, ⟨.slice (.int .i64), r1⟩, ⟨.slice (.int .u8), r2⟩, ⟨.int .i64, r3⟩]
theorem vars_Read_ex : ∃ f : (List Int) → Option ((List ByteArray) × (List Int) × (List Int) × Int), f = fun (x0 : List Int) => funRun vars_Read_C 3 53 [(false, [(false, .slice (.int .u8))])] [(true, [(false, .slice (.str)), (false, .slice (.int .i64))]), (false, [(false, .slice (.int .u8))]), (false, [(false, .int .i64)])] vars_Read_un [⟨.slice (.int .u8), x0⟩] := ⟨_, rfl⟩
noncomputable def vars_Read : (List Int) → Option ((List ByteArray) × (List Int) × (List Int) × Int) := vars_Read_ex.choose
theorem vars_Read_raw (x0 : List Int) : vars_Read x0 = funRun vars_Read_C 3 53 [(false, [(false, .slice (.int .u8))])] [(true, [(false, .slice (.str)), (false, .slice (.int .i64))]), (false, [(false, .slice (.int .u8))]), (false, [(false, .int .i64)])] vars_Read_un [⟨.slice (.int .u8), x0⟩] := congrFun (vars_Read_ex.choose_spec) x0
noncomputable def vars_Read_l0 (y0 : List (Int)) (y1 : Int) (y2 : Int) (y3 : List (ByteArray)) (y4 : List (Int)) : Option ((List ByteArray) × (List Int) × (List Int) × Int) := loopAt vars_Read_C 3 53 [(true, [(false, .slice (.str)), (false, .slice (.int .i64))]), (false, [(false, .slice (.int .u8))]), (false, [(false, .int .i64)])] vars_Read_un [true, true, true, true, true, false, true, false] (St.ofLists [(0, .fz (Ty.int IntKind.u8) y0 false false), (2, .ptr 116 0), (7, .ptr 156 0), (26, .int .u64 y1), (27, .int .u64 y2)] [(116, some (.cells [.nils, .nils])), (156, some (.cells [.ow 60, .ow 61])), (60, some (.row (Ty.str) y3 0 false)), (61, some (.row (Ty.int IntKind.i64) y4 0 false))] [156, 116, 572, 564, 532, 524, 61, 60])
theorem vars_Read_eq (x0 : List Int) : vars_Read x0 =
  (pack_ReadUint x0).bind fun val0 =>
  bif val0.2.2 != 0
    then some (([]), (([]), (([]), (val0.2.2))))
    else bif decide (val0.1 > 64)
      then some (([]), (([]), (([]), (6))))
      else vars_Read_l0 (val0.2.1) (val0.1) (0) ([]) ([]) := (vars_Read_raw x0).trans (by kernel_rfl)
theorem vars_Read_l0_eq (y0 : List (Int)) (y1 : Int) (y2 : Int) (y3 : List (ByteArray)) (y4 : List (Int)) : vars_Read_l0 y0 y1 y2 y3 y4 =
  bif decide (y2 < y1)
  then (pack_ReadBytes y0).bind fun val2 =>
    bif val2.2.2 != 0
      then some (([]), (([]), (([]), (val2.2.2))))
      else (pack_ReadInt val2.2.1).bind fun val6 =>
        bif val6.2.2 != 0
          then some (([]), (([]), (([]), (val6.2.2))))
          else bif decide ((ilen y3 + ilen [strOf val2.1]) * 16 ≤ room)
            then bif decide ((ilen y4 + ilen [val6.1]) * 8 ≤ room)
              then vars_Read_l0 (val6.2.1) (y1) (IntKind.u64.wrap (y2 + 1)) (y3 ++ [strOf val2.1]) (y4 ++ [val6.1])
              else none
            else none
  else (vars_Check y3 y4).bind fun val2 =>
    bif val2 != 0
      then some (([]), (([]), (([]), (val2))))
      else some ((y3), ((y4), ((y0), (0)))) := (loopAt_step _ _ _ _ _ _ _).trans (by kernel_rfl)
noncomputable def vars_Read_sig : Sig := { pm := [(false, [(false, .slice (.int .u8))])], rm := [(true, [(false, .slice (.str)), (false, .slice (.int .i64))]), (false, [(false, .slice (.int .u8))]), (false, [(false, .int .i64)])], f := fun | [⟨.slice (.int .u8), x0⟩] => .yes _ (vars_Read x0) vars_Read_mk | _ => .no }
theorem vars_Read_ok : SigOk Try.prog 53 vars_Read_sig := by
  refine contract_of (C := vars_Read_C) (d := 3) ⟨S13_ok, noPs⟩ (callable_ex (by kernel_rfl)) ?_
  intro dvs
  unfold vars_Read_sig
  dsimp only
  split
  · refine .inr ⟨_, vars_Read_un, vars_Read_mk, congrArg (fun o => Cl.yes _ o _) (vars_Read_raw _), ?_⟩
    intro ds x h
    unfold vars_Read_un at h
    split at h
    · cases h; rfl
    · cases h
  · exact .inl rfl
noncomputable def S14 : List (Nat × Sig) := (53, vars_Read_sig) :: S13
theorem S14_ok : ListOk Try.prog S14 := ListOk.cons S13_ok vars_Read_ok
noncomputable def jobs_Check_C : Cfg := { P := Try.prog, sig := lookSig S14, hb := fun f b =>  bif Nat.beq f 33 && Nat.beq b 0 then some { tmps := [3, 6, 7, 8], obs := [], nils := [], kl := [140] } else none, hr := fun _ _ => none }
noncomputable def jobs_Check_un : List DV → Option (Int) := fun | [⟨.int .i64, r0⟩] => some r0 | _ => none
noncomputable def jobs_Check_mk : Int → List DV := fun r0 => [⟨.int .i64, r0⟩]
theorem jobs_Check_ex : ∃ f : (List (Int × Int × Int × ByteArray × Int × ByteArray × Int)) → Option (Int), f = fun (x0 : List (Int × Int × Int × ByteArray × Int × ByteArray × Int)) => funRun jobs_Check_C 3 33 [(false, [(false, .slice (.pair (.int .i64) (.pair (.int .i64) (.pair (.int .i64) (.pair (.str) (.pair (.int .i64) (.pair (.str) (.int .i64))))))))])] [(false, [(false, .int .i64)])] jobs_Check_un [⟨.slice (.pair (.int .i64) (.pair (.int .i64) (.pair (.int .i64) (.pair (.str) (.pair (.int .i64) (.pair (.str) (.int .i64))))))), x0⟩] := ⟨_, rfl⟩
noncomputable def jobs_Check : (List (Int × Int × Int × ByteArray × Int × ByteArray × Int)) → Option (Int) := jobs_Check_ex.choose
theorem jobs_Check_raw (x0 : List (Int × Int × Int × ByteArray × Int × ByteArray × Int)) : jobs_Check x0 = funRun jobs_Check_C 3 33 [(false, [(false, .slice (.pair (.int .i64) (.pair (.int .i64) (.pair (.int .i64) (.pair (.str) (.pair (.int .i64) (.pair (.str) (.int .i64))))))))])] [(false, [(false, .int .i64)])] jobs_Check_un [⟨.slice (.pair (.int .i64) (.pair (.int .i64) (.pair (.int .i64) (.pair (.str) (.pair (.int .i64) (.pair (.str) (.int .i64))))))), x0⟩] := congrFun (jobs_Check_ex.choose_spec) x0
noncomputable def jobs_Check_l0 (y0 : Int) (y1 : List ((Int) × ((Int) × ((Int) × ((ByteArray) × ((Int) × ((ByteArray) × (Int)))))))) (y2 : Int) (y3 : Int) : Option (Int) := loopAt jobs_Check_C 3 33 [(false, [(false, .int .i64)])] jobs_Check_un [true, true, false, true, false] (St.ofLists [(3, .int .i64 y0), (6, .fz ((Ty.int IntKind.i64).pair ((Ty.int IntKind.i64).pair ((Ty.int IntKind.i64).pair (Ty.str.pair ((Ty.int IntKind.i64).pair (Ty.str.pair (Ty.int IntKind.i64))))))) y1 false false), (7, .int .i64 y2), (8, .int .i64 y3)] [] [140])
theorem jobs_Check_eq (x0 : List (Int × Int × Int × ByteArray × Int × ByteArray × Int)) : jobs_Check x0 =
  jobs_Check_l0 (0) (x0) (ilen x0) (0) := (jobs_Check_raw x0).trans (by kernel_rfl)
theorem jobs_Check_l0_eq (y0 : Int) (y1 : List ((Int) × ((Int) × ((Int) × ((ByteArray) × ((Int) × ((ByteArray) × (Int)))))))) (y2 : Int) (y3 : Int) : jobs_Check_l0 y0 y1 y2 y3 =
  bif decide (y3 < y2)
  then bif decide (0 ≤ y3)
    then (y1[y3.toNat]?).bind fun val4 =>
      bif decide (val4.fst ≤ y0)
        then some (1)
        else bif decide (val4.fst > 1099511627776)
          then some (1)
          else bif decide (val4.snd.fst < 1)
            then some (1)
            else bif decide (val4.snd.fst > 1099511627776)
              then some (1)
              else bif decide (val4.snd.snd.fst < 1)
                then some (1)
                else bif decide (val4.snd.snd.fst > 1099511627776)
                  then some (1)
                  else (pack_Name val4.snd.snd.snd.fst).bind fun val18 =>
                    bif !val18
                      then some (1)
                      else bif !ByteArray.toList val4.snd.snd.snd.snd.snd.fst == (⟨#[]⟩ : ByteArray).toList
                        then (pack_Name val4.snd.snd.snd.snd.snd.fst).bind fun val24 =>
                          bif !val24
                            then some (1)
                            else bif decide (val4.snd.snd.snd.snd.fst < 0)
                              then some (1)
                              else bif decide (val4.snd.snd.snd.snd.fst > 9)
                                then some (1)
                                else bif decide (val4.snd.snd.snd.snd.snd.snd < 0)
                                  then some (1)
                                  else bif decide (val4.snd.snd.snd.snd.snd.snd > 1099511627776)
                                    then some (1)
                                    else bif ByteArray.toList val4.snd.snd.snd.snd.snd.fst == (⟨#[]⟩ : ByteArray).toList
                                      then bif val4.snd.snd.snd.snd.snd.snd != 0
                                        then some (1)
                                        else bif !ByteArray.toList val4.snd.snd.snd.snd.snd.fst == (⟨#[]⟩ : ByteArray).toList
                                          then bif val4.snd.snd.snd.snd.fst == 0
                                            then some (1)
                                            else jobs_Check_l0 (val4.fst) (y1) (y2) (IntKind.i64.wrap (y3 + 1))
                                          else jobs_Check_l0 (val4.fst) (y1) (y2) (IntKind.i64.wrap (y3 + 1))
                                      else bif !ByteArray.toList val4.snd.snd.snd.snd.snd.fst == (⟨#[]⟩ : ByteArray).toList
                                        then bif val4.snd.snd.snd.snd.fst == 0
                                          then some (1)
                                          else jobs_Check_l0 (val4.fst) (y1) (y2) (IntKind.i64.wrap (y3 + 1))
                                        else jobs_Check_l0 (val4.fst) (y1) (y2) (IntKind.i64.wrap (y3 + 1))
                        else bif decide (val4.snd.snd.snd.snd.fst < 0)
                          then some (1)
                          else bif decide (val4.snd.snd.snd.snd.fst > 9)
                            then some (1)
                            else bif decide (val4.snd.snd.snd.snd.snd.snd < 0)
                              then some (1)
                              else bif decide (val4.snd.snd.snd.snd.snd.snd > 1099511627776)
                                then some (1)
                                else bif ByteArray.toList val4.snd.snd.snd.snd.snd.fst == (⟨#[]⟩ : ByteArray).toList
                                  then bif val4.snd.snd.snd.snd.snd.snd != 0
                                    then some (1)
                                    else bif !ByteArray.toList val4.snd.snd.snd.snd.snd.fst == (⟨#[]⟩ : ByteArray).toList
                                      then bif val4.snd.snd.snd.snd.fst == 0
                                        then some (1)
                                        else jobs_Check_l0 (val4.fst) (y1) (y2) (IntKind.i64.wrap (y3 + 1))
                                      else jobs_Check_l0 (val4.fst) (y1) (y2) (IntKind.i64.wrap (y3 + 1))
                                  else bif !ByteArray.toList val4.snd.snd.snd.snd.snd.fst == (⟨#[]⟩ : ByteArray).toList
                                    then bif val4.snd.snd.snd.snd.fst == 0
                                      then some (1)
                                      else jobs_Check_l0 (val4.fst) (y1) (y2) (IntKind.i64.wrap (y3 + 1))
                                    else jobs_Check_l0 (val4.fst) (y1) (y2) (IntKind.i64.wrap (y3 + 1))
    else none
  else some (0) := (loopAt_step _ _ _ _ _ _ _).trans (by kernel_rfl)
noncomputable def jobs_Check_sig : Sig := { pm := [(false, [(false, .slice (.pair (.int .i64) (.pair (.int .i64) (.pair (.int .i64) (.pair (.str) (.pair (.int .i64) (.pair (.str) (.int .i64))))))))])], rm := [(false, [(false, .int .i64)])], f := fun | [⟨.slice (.pair (.int .i64) (.pair (.int .i64) (.pair (.int .i64) (.pair (.str) (.pair (.int .i64) (.pair (.str) (.int .i64))))))), x0⟩] => .yes _ (jobs_Check x0) jobs_Check_mk | _ => .no }
theorem jobs_Check_ok : SigOk Try.prog 33 jobs_Check_sig := by
  refine contract_of (C := jobs_Check_C) (d := 3) ⟨S14_ok, noPs⟩ (callable_ex (by kernel_rfl)) ?_
  intro dvs
  unfold jobs_Check_sig
  dsimp only
  split
  · refine .inr ⟨_, jobs_Check_un, jobs_Check_mk, congrArg (fun o => Cl.yes _ o _) (jobs_Check_raw _), ?_⟩
    intro ds x h
    unfold jobs_Check_un at h
    split at h
    · cases h; rfl
    · cases h
  · exact .inl rfl
noncomputable def S15 : List (Nat × Sig) := (33, jobs_Check_sig) :: S14
theorem S15_ok : ListOk Try.prog S15 := ListOk.cons S14_ok jobs_Check_ok
noncomputable def jobs_one_C : Cfg := { P := Try.prog, sig := lookSig S15, hb := fun _ _ => none, hr := fun _ _ => none, un := fun f b => bif Nat.beq f 70 && Nat.beq b 0 then 7 else bif Nat.beq f 70 && Nat.beq b 3 then 4 else 0 }
noncomputable def jobs_one_un : List DV → Option (Int × Int × Int × ByteArray × Int × ByteArray × Int × (List Int) × Int) := fun | [⟨.int .i64, r0⟩, ⟨.int .i64, r1⟩, ⟨.int .i64, r2⟩, ⟨.str, r3⟩, ⟨.int .i64, r4⟩, ⟨.str, r5⟩, ⟨.int .i64, r6⟩, ⟨.slice (.int .u8), r7⟩, ⟨.int .i64, r8⟩] => some (r0, r1, r2, r3, r4, r5, r6, r7, r8) | _ => none
noncomputable def jobs_one_mk : (Int × Int × Int × ByteArray × Int × ByteArray × Int × (List Int) × Int) → List DV := fun ⟨r0, r1, r2, r3, r4, r5, r6, r7, r8⟩ => [⟨.int .i64, r0⟩, ⟨.int .i64, r1⟩, ⟨.int .i64, r2⟩, ⟨.str, r3⟩, ⟨.int .i64, r4⟩, ⟨.str, r5⟩, ⟨.int .i64, r6⟩, ⟨.slice (.int .u8), r7⟩, ⟨.int .i64, r8⟩]
theorem jobs_one_ex : ∃ f : (List Int) → Option (Int × Int × Int × ByteArray × Int × ByteArray × Int × (List Int) × Int), f = fun (x0 : List Int) => funRun jobs_one_C 3 70 [(false, [(false, .slice (.int .u8))])] [(true, [(false, .int .i64), (false, .int .i64), (false, .int .i64), (false, .str), (false, .int .i64), (false, .str), (false, .int .i64)]), (false, [(false, .slice (.int .u8))]), (false, [(false, .int .i64)])] jobs_one_un [⟨.slice (.int .u8), x0⟩] := ⟨_, rfl⟩
noncomputable def jobs_one : (List Int) → Option (Int × Int × Int × ByteArray × Int × ByteArray × Int × (List Int) × Int) := jobs_one_ex.choose
theorem jobs_one_raw (x0 : List Int) : jobs_one x0 = funRun jobs_one_C 3 70 [(false, [(false, .slice (.int .u8))])] [(true, [(false, .int .i64), (false, .int .i64), (false, .int .i64), (false, .str), (false, .int .i64), (false, .str), (false, .int .i64)]), (false, [(false, .slice (.int .u8))]), (false, [(false, .int .i64)])] jobs_one_un [⟨.slice (.int .u8), x0⟩] := congrFun (jobs_one_ex.choose_spec) x0
theorem jobs_one_eq (x0 : List Int) : jobs_one x0 =
  (pack_ReadUint x0).bind fun val0 =>
  bif val0.2.2 != 0
    then some ((0), ((0), ((0), (((⟨#[]⟩ : ByteArray)), ((0), (((⟨#[]⟩ : ByteArray)), ((0), (([]), (val0.2.2)))))))))
    else bif decide (val0.1 > 1099511627776)
      then some ((0), ((0), ((0), (((⟨#[]⟩ : ByteArray)), ((0), (((⟨#[]⟩ : ByteArray)), ((0), (([]), (6)))))))))
      else (pack_ReadUint val0.2.1).bind fun val6 =>
        bif val6.2.2 != 0
          then some ((0), ((0), ((0), (((⟨#[]⟩ : ByteArray)), ((0), (((⟨#[]⟩ : ByteArray)), ((0), (([]), (val6.2.2)))))))))
          else bif decide (val6.1 > 1099511627776)
            then some ((0), ((0), ((0), (((⟨#[]⟩ : ByteArray)), ((0), (((⟨#[]⟩ : ByteArray)), ((0), (([]), (6)))))))))
            else (pack_ReadUint val6.2.1).bind fun val12 =>
              bif val12.2.2 != 0
                then some ((0), ((0), ((0), (((⟨#[]⟩ : ByteArray)), ((0), (((⟨#[]⟩ : ByteArray)), ((0), (([]), (val12.2.2)))))))))
                else bif decide (val12.1 > 1099511627776)
                  then some ((0), ((0), ((0), (((⟨#[]⟩ : ByteArray)), ((0), (((⟨#[]⟩ : ByteArray)), ((0), (([]), (6)))))))))
                  else (pack_ReadUint val12.2.1).bind fun val18 =>
                    bif val18.2.2 != 0
                      then some ((0), ((0), ((0), (((⟨#[]⟩ : ByteArray)), ((0), (((⟨#[]⟩ : ByteArray)), ((0), (([]), (val18.2.2)))))))))
                      else bif decide (val18.1 > 1099511627776)
                        then some ((0), ((0), ((0), (((⟨#[]⟩ : ByteArray)), ((0), (((⟨#[]⟩ : ByteArray)), ((0), (([]), (6)))))))))
                        else (pack_ReadUint val18.2.1).bind fun val24 =>
                          bif val24.2.2 != 0
                            then some ((0), ((0), ((0), (((⟨#[]⟩ : ByteArray)), ((0), (((⟨#[]⟩ : ByteArray)), ((0), (([]), (val24.2.2)))))))))
                            else bif decide (val24.1 > 1099511627776)
                              then some ((0), ((0), ((0), (((⟨#[]⟩ : ByteArray)), ((0), (((⟨#[]⟩ : ByteArray)), ((0), (([]), (6)))))))))
                              else (pack_ReadBytes val24.2.1).bind fun val30 =>
                                bif val30.2.2 != 0
                                  then some ((0), ((0), ((0), (((⟨#[]⟩ : ByteArray)), ((0), (((⟨#[]⟩ : ByteArray)), ((0), (([]), (val30.2.2)))))))))
                                  else (pack_ReadBytes val30.2.1).bind fun val34 =>
                                    bif val34.2.2 != 0
                                      then some ((0), ((0), ((0), (((⟨#[]⟩ : ByteArray)), ((0), (((⟨#[]⟩ : ByteArray)), ((0), (([]), (val34.2.2)))))))))
                                      else some ((IntKind.i64.wrap val0.1), ((IntKind.i64.wrap val6.1), ((IntKind.i64.wrap val12.1), ((strOf val30.1), ((IntKind.i64.wrap val18.1), ((strOf val34.1), ((IntKind.i64.wrap val24.1), ((val34.2.1), (0))))))))) := (jobs_one_raw x0).trans (by kernel_rfl)
noncomputable def jobs_one_sig : Sig := { pm := [(false, [(false, .slice (.int .u8))])], rm := [(true, [(false, .int .i64), (false, .int .i64), (false, .int .i64), (false, .str), (false, .int .i64), (false, .str), (false, .int .i64)]), (false, [(false, .slice (.int .u8))]), (false, [(false, .int .i64)])], f := fun | [⟨.slice (.int .u8), x0⟩] => .yes _ (jobs_one x0) jobs_one_mk | _ => .no }
theorem jobs_one_ok : SigOk Try.prog 70 jobs_one_sig := by
  refine contract_of (C := jobs_one_C) (d := 3) ⟨S15_ok, noPs⟩ (callable_ex (by kernel_rfl)) ?_
  intro dvs
  unfold jobs_one_sig
  dsimp only
  split
  · refine .inr ⟨_, jobs_one_un, jobs_one_mk, congrArg (fun o => Cl.yes _ o _) (jobs_one_raw _), ?_⟩
    intro ds x h
    unfold jobs_one_un at h
    split at h
    · cases h; rfl
    · cases h
  · exact .inl rfl
noncomputable def S16 : List (Nat × Sig) := (70, jobs_one_sig) :: S15
theorem S16_ok : ListOk Try.prog S16 := ListOk.cons S15_ok jobs_one_ok
noncomputable def jobs_Put_C : Cfg := { P := Try.prog, sig := lookSig S16, hb := fun f b =>  bif Nat.beq f 60 && Nat.beq b 0 then some { tmps := [0, 14, 15, 16], obs := [60], nils := [(0, 60, (.int .u8))], kl := [204, 500, 492, 460, 452, 412, 412, 412, 412, 412, 340, 148, 60] } else none, hr := fun _ _ => none, un := fun f b => bif Nat.beq f 60 && Nat.beq b 2 then 7 else 0 }
noncomputable def jobs_Put_un : List DV → Option ((List Int)) := fun | [⟨.slice (.int .u8), r0⟩] => some r0 | _ => none
noncomputable def jobs_Put_mk : (List Int) → List DV := fun r0 => [⟨.slice (.int .u8), r0⟩]
theorem jobs_Put_ex : ∃ f : (List Int) → (List (Int × Int × Int × ByteArray × Int × ByteArray × Int)) → Option ((List Int)), f = fun (x0 : List Int) (x1 : List (Int × Int × Int × ByteArray × Int × ByteArray × Int)) => funRun jobs_Put_C 3 60 [(false, [(true, .slice (.int .u8))]), (false, [(false, .slice (.pair (.int .i64) (.pair (.int .i64) (.pair (.int .i64) (.pair (.str) (.pair (.int .i64) (.pair (.str) (.int .i64))))))))])] [(false, [(true, .slice (.int .u8))])] jobs_Put_un [⟨.slice (.int .u8), x0⟩, ⟨.slice (.pair (.int .i64) (.pair (.int .i64) (.pair (.int .i64) (.pair (.str) (.pair (.int .i64) (.pair (.str) (.int .i64))))))), x1⟩] := ⟨_, rfl⟩
noncomputable def jobs_Put : (List Int) → (List (Int × Int × Int × ByteArray × Int × ByteArray × Int)) → Option ((List Int)) := jobs_Put_ex.choose
theorem jobs_Put_raw (x0 : List Int) (x1 : List (Int × Int × Int × ByteArray × Int × ByteArray × Int)) : jobs_Put x0 x1 = funRun jobs_Put_C 3 60 [(false, [(true, .slice (.int .u8))]), (false, [(false, .slice (.pair (.int .i64) (.pair (.int .i64) (.pair (.int .i64) (.pair (.str) (.pair (.int .i64) (.pair (.str) (.int .i64))))))))])] [(false, [(true, .slice (.int .u8))])] jobs_Put_un [⟨.slice (.int .u8), x0⟩, ⟨.slice (.pair (.int .i64) (.pair (.int .i64) (.pair (.int .i64) (.pair (.str) (.pair (.int .i64) (.pair (.str) (.int .i64))))))), x1⟩] := congrFun (congrFun (jobs_Put_ex.choose_spec) x0) x1
noncomputable def jobs_Put_l0 (y0 : List ((Int) × ((Int) × ((Int) × ((ByteArray) × ((Int) × ((ByteArray) × (Int)))))))) (y1 : Int) (y2 : Int) (y3 : List (Int)) : Option ((List Int)) := loopAt jobs_Put_C 3 60 [(false, [(true, .slice (.int .u8))])] jobs_Put_un [true, true, false, true, false] (St.ofLists [(0, .ow 60), (14, .fz ((Ty.int IntKind.i64).pair ((Ty.int IntKind.i64).pair ((Ty.int IntKind.i64).pair (Ty.str.pair ((Ty.int IntKind.i64).pair (Ty.str.pair (Ty.int IntKind.i64))))))) y0 false false), (15, .int .i64 y1), (16, .int .i64 y2)] [(60, some (.row (Ty.int IntKind.u8) y3 0 false))] [204, 500, 492, 460, 452, 412, 412, 412, 412, 412, 340, 148, 60])
theorem jobs_Put_eq (x0 : List Int) (x1 : List (Int × Int × Int × ByteArray × Int × ByteArray × Int)) : jobs_Put x0 x1 =
  (pack_Uint x0 (IntKind.u64.wrap (ilen x1))).bind fun val0 =>
  jobs_Put_l0 (x1) (ilen x1) (0) (val0) := (jobs_Put_raw x0 x1).trans (by kernel_rfl)
theorem jobs_Put_l0_eq (y0 : List ((Int) × ((Int) × ((Int) × ((ByteArray) × ((Int) × ((ByteArray) × (Int)))))))) (y1 : Int) (y2 : Int) (y3 : List (Int)) : jobs_Put_l0 y0 y1 y2 y3 =
  bif decide (y2 < y1)
  then bif decide (0 ≤ y2)
    then (y0[y2.toNat]?).bind fun val4 =>
      (pack_Uint y3 (IntKind.u64.wrap val4.fst)).bind fun val6 =>
        (pack_Uint val6 (IntKind.u64.wrap val4.snd.fst)).bind fun val8 =>
          (pack_Uint val8 (IntKind.u64.wrap val4.snd.snd.fst)).bind fun val10 =>
            (pack_Uint val10 (IntKind.u64.wrap val4.snd.snd.snd.snd.fst)).bind fun val12 =>
              (pack_Uint val12 (IntKind.u64.wrap val4.snd.snd.snd.snd.snd.snd)).bind fun val14 =>
                (pack_Bytes val14 (bytesList val4.snd.snd.snd.fst)).bind fun val16 =>
                  (pack_Bytes val16 (bytesList val4.snd.snd.snd.snd.snd.fst)).bind fun val18 =>
                    jobs_Put_l0 (y0) (y1) (IntKind.i64.wrap (y2 + 1)) (val18)
    else none
  else some (y3) := (loopAt_step _ _ _ _ _ _ _).trans (by kernel_rfl)
noncomputable def jobs_Put_sig : Sig := { pm := [(false, [(true, .slice (.int .u8))]), (false, [(false, .slice (.pair (.int .i64) (.pair (.int .i64) (.pair (.int .i64) (.pair (.str) (.pair (.int .i64) (.pair (.str) (.int .i64))))))))])], rm := [(false, [(true, .slice (.int .u8))])], f := fun | [⟨.slice (.int .u8), x0⟩, ⟨.slice (.pair (.int .i64) (.pair (.int .i64) (.pair (.int .i64) (.pair (.str) (.pair (.int .i64) (.pair (.str) (.int .i64))))))), x1⟩] => .yes _ (jobs_Put x0 x1) jobs_Put_mk | _ => .no }
theorem jobs_Put_ok : SigOk Try.prog 60 jobs_Put_sig := by
  refine contract_of (C := jobs_Put_C) (d := 3) ⟨S16_ok, noPs⟩ (callable_ex (by kernel_rfl)) ?_
  intro dvs
  unfold jobs_Put_sig
  dsimp only
  split
  · refine .inr ⟨_, jobs_Put_un, jobs_Put_mk, congrArg (fun o => Cl.yes _ o _) (jobs_Put_raw _ _), ?_⟩
    intro ds x h
    unfold jobs_Put_un at h
    split at h
    · cases h; rfl
    · cases h
  · exact .inl rfl
noncomputable def S17 : List (Nat × Sig) := (60, jobs_Put_sig) :: S16
theorem S17_ok : ListOk Try.prog S17 := ListOk.cons S16_ok jobs_Put_ok
noncomputable def jobs_Read_C : Cfg := { P := Try.prog, sig := lookSig S17, hb := fun f b =>  bif Nat.beq f 59 && Nat.beq b 0 then some { tmps := [0, 5, 7], obs := [60], nils := [(7, 60, (.pair (.int .i64) (.pair (.int .i64) (.pair (.int .i64) (.pair (.str) (.pair (.int .i64) (.pair (.str) (.int .i64))))))))], kl := [396, 388, 164, 60] } else none, hr := fun _ _ => none }
noncomputable def jobs_Read_un : List DV → Option ((List (Int × Int × Int × ByteArray × Int × ByteArray × Int)) × (List Int) × Int) := fun | [⟨.slice (.pair (.int .i64) (.pair (.int .i64) (.pair (.int .i64) (.pair (.str) (.pair (.int .i64) (.pair (.str) (.int .i64))))))), r0⟩, ⟨.slice (.int .u8), r1⟩, ⟨.int .i64, r2⟩] => some (r0, r1, r2) | _ => none
noncomputable def jobs_Read_mk : ((List (Int × Int × Int × ByteArray × Int × ByteArray × Int)) × (List Int) × Int) → List DV := fun ⟨r0, r1, r2⟩ => [⟨.slice (.pair (.int .i64) (.pair (.int .i64) (.pair (.int .i64) (.pair (.str) (.pair (.int .i64) (.pair (.str) (.int .i64))))))), r0⟩, ⟨.slice (.int .u8), r1⟩, ⟨.int .i64, r2⟩]
theorem jobs_Read_ex : ∃ f : (List Int) → Option ((List (Int × Int × Int × ByteArray × Int × ByteArray × Int)) × (List Int) × Int), f = fun (x0 : List Int) => funRun jobs_Read_C 3 59 [(false, [(false, .slice (.int .u8))])] [(false, [(false, .slice (.pair (.int .i64) (.pair (.int .i64) (.pair (.int .i64) (.pair (.str) (.pair (.int .i64) (.pair (.str) (.int .i64))))))))]), (false, [(false, .slice (.int .u8))]), (false, [(false, .int .i64)])] jobs_Read_un [⟨.slice (.int .u8), x0⟩] := ⟨_, rfl⟩
noncomputable def jobs_Read : (List Int) → Option ((List (Int × Int × Int × ByteArray × Int × ByteArray × Int)) × (List Int) × Int) := jobs_Read_ex.choose
theorem jobs_Read_raw (x0 : List Int) : jobs_Read x0 = funRun jobs_Read_C 3 59 [(false, [(false, .slice (.int .u8))])] [(false, [(false, .slice (.pair (.int .i64) (.pair (.int .i64) (.pair (.int .i64) (.pair (.str) (.pair (.int .i64) (.pair (.str) (.int .i64))))))))]), (false, [(false, .slice (.int .u8))]), (false, [(false, .int .i64)])] jobs_Read_un [⟨.slice (.int .u8), x0⟩] := congrFun (jobs_Read_ex.choose_spec) x0
noncomputable def jobs_Read_l0 (y0 : List (Int)) (y1 : Int) (y2 : List ((Int) × ((Int) × ((Int) × ((ByteArray) × ((Int) × ((ByteArray) × (Int)))))))) : Option ((List (Int × Int × Int × ByteArray × Int × ByteArray × Int)) × (List Int) × Int) := loopAt jobs_Read_C 3 59 [(false, [(false, .slice (.pair (.int .i64) (.pair (.int .i64) (.pair (.int .i64) (.pair (.str) (.pair (.int .i64) (.pair (.str) (.int .i64))))))))]), (false, [(false, .slice (.int .u8))]), (false, [(false, .int .i64)])] jobs_Read_un [true, true, true, true, false, false] (St.ofLists [(0, .fz (Ty.int IntKind.u8) y0 false false), (5, .int .u64 y1), (7, .ow 60)] [(60, some (.row ((Ty.int IntKind.i64).pair ((Ty.int IntKind.i64).pair ((Ty.int IntKind.i64).pair (Ty.str.pair ((Ty.int IntKind.i64).pair (Ty.str.pair (Ty.int IntKind.i64))))))) y2 0 false))] [396, 388, 164, 60])
theorem jobs_Read_eq (x0 : List Int) : jobs_Read x0 =
  (pack_ReadUint x0).bind fun val0 =>
  bif val0.2.2 != 0
    then some (([]), (([]), (val0.2.2)))
    else jobs_Read_l0 (val0.2.1) (val0.1) ([]) := (jobs_Read_raw x0).trans (by kernel_rfl)
theorem jobs_Read_l0_eq (y0 : List (Int)) (y1 : Int) (y2 : List ((Int) × ((Int) × ((Int) × ((ByteArray) × ((Int) × ((ByteArray) × (Int)))))))) : jobs_Read_l0 y0 y1 y2 =
  bif decide (y1 > 0)
  then (jobs_one y0).bind fun val2 =>
    bif val2.2.2.2.2.2.2.2.2 != 0
      then some (([]), (([]), (val2.2.2.2.2.2.2.2.2)))
      else bif decide ((ilen y2 + ilen [(val2.1, val2.2.1, val2.2.2.1, val2.2.2.2.1, val2.2.2.2.2.1, val2.2.2.2.2.2.1, val2.2.2.2.2.2.2.1)]) * 72 ≤ room)
        then jobs_Read_l0 (val2.2.2.2.2.2.2.2.1) (IntKind.u64.wrap (y1 - 1)) (y2 ++ [(val2.1, val2.2.1, val2.2.2.1, val2.2.2.2.1, val2.2.2.2.2.1, val2.2.2.2.2.2.1, val2.2.2.2.2.2.2.1)])
        else none
  else (jobs_Check y2).bind fun val2 =>
    bif val2 != 0
      then some (([]), (([]), (val2)))
      else some ((y2), ((y0), (0))) := (loopAt_step _ _ _ _ _ _ _).trans (by kernel_rfl)
noncomputable def jobs_Read_sig : Sig := { pm := [(false, [(false, .slice (.int .u8))])], rm := [(false, [(false, .slice (.pair (.int .i64) (.pair (.int .i64) (.pair (.int .i64) (.pair (.str) (.pair (.int .i64) (.pair (.str) (.int .i64))))))))]), (false, [(false, .slice (.int .u8))]), (false, [(false, .int .i64)])], f := fun | [⟨.slice (.int .u8), x0⟩] => .yes _ (jobs_Read x0) jobs_Read_mk | _ => .no }
theorem jobs_Read_ok : SigOk Try.prog 59 jobs_Read_sig := by
  refine contract_of (C := jobs_Read_C) (d := 3) ⟨S17_ok, noPs⟩ (callable_ex (by kernel_rfl)) ?_
  intro dvs
  unfold jobs_Read_sig
  dsimp only
  split
  · refine .inr ⟨_, jobs_Read_un, jobs_Read_mk, congrArg (fun o => Cl.yes _ o _) (jobs_Read_raw _), ?_⟩
    intro ds x h
    unfold jobs_Read_un at h
    split at h
    · cases h; rfl
    · cases h
  · exact .inl rfl
noncomputable def S18 : List (Nat × Sig) := (59, jobs_Read_sig) :: S17
theorem S18_ok : ListOk Try.prog S18 := ListOk.cons S17_ok jobs_Read_ok
noncomputable def command_from_C : Cfg := { P := Try.prog, sig := lookSig S18, hb := fun _ _ => none, hr := fun _ _ => none }
noncomputable def command_from_un : List DV → Option (Bool) := fun | [⟨.bool, r0⟩] => some r0 | _ => none
noncomputable def command_from_mk : Bool → List DV := fun r0 => [⟨.bool, r0⟩]
theorem command_from_ex : ∃ f : (Int) → (Bool) → (Int) → (Int) → Option (Bool), f = fun (x0 : Int) (x1 : Bool) (x2 : Int) (x3 : Int) => funRun command_from_C 3 26 [(false, [(false, .int .i64)]), (false, [(false, .bool)]), (false, [(false, .int .i64)]), (false, [(false, .int .i64)])] [(false, [(false, .bool)])] command_from_un [⟨.int .i64, x0⟩, ⟨.bool, x1⟩, ⟨.int .i64, x2⟩, ⟨.int .i64, x3⟩] := ⟨_, rfl⟩
noncomputable def command_from : (Int) → (Bool) → (Int) → (Int) → Option (Bool) := command_from_ex.choose
theorem command_from_raw (x0 : Int) (x1 : Bool) (x2 : Int) (x3 : Int) : command_from x0 x1 x2 x3 = funRun command_from_C 3 26 [(false, [(false, .int .i64)]), (false, [(false, .bool)]), (false, [(false, .int .i64)]), (false, [(false, .int .i64)])] [(false, [(false, .bool)])] command_from_un [⟨.int .i64, x0⟩, ⟨.bool, x1⟩, ⟨.int .i64, x2⟩, ⟨.int .i64, x3⟩] := congrFun (congrFun (congrFun (congrFun (command_from_ex.choose_spec) x0) x1) x2) x3
theorem command_from_eq (x0 : Int) (x1 : Bool) (x2 : Int) (x3 : Int) : command_from x0 x1 x2 x3 =
  bif !x1
  then some (x0 == 0)
  else bif decide (x0 ≥ x2)
    then some (decide (x0 ≤ x3))
    else some false := (command_from_raw x0 x1 x2 x3).trans (by kernel_rfl)
noncomputable def command_from_sig : Sig := { pm := [(false, [(false, .int .i64)]), (false, [(false, .bool)]), (false, [(false, .int .i64)]), (false, [(false, .int .i64)])], rm := [(false, [(false, .bool)])], f := fun | [⟨.int .i64, x0⟩, ⟨.bool, x1⟩, ⟨.int .i64, x2⟩, ⟨.int .i64, x3⟩] => .yes _ (command_from x0 x1 x2 x3) command_from_mk | _ => .no }
theorem command_from_ok : SigOk Try.prog 26 command_from_sig := by
  refine contract_of (C := command_from_C) (d := 3) ⟨S18_ok, noPs⟩ (callable_ex (by kernel_rfl)) ?_
  intro dvs
  unfold command_from_sig
  dsimp only
  split
  · refine .inr ⟨_, command_from_un, command_from_mk, congrArg (fun o => Cl.yes _ o _) (command_from_raw _ _ _ _), ?_⟩
    intro ds x h
    unfold command_from_un at h
    split at h
    · cases h; rfl
    · cases h
  · exact .inl rfl
noncomputable def S19 : List (Nat × Sig) := (26, command_from_sig) :: S18
theorem S19_ok : ListOk Try.prog S19 := ListOk.cons S18_ok command_from_ok
noncomputable def command_text_C : Cfg := { P := Try.prog, sig := lookSig S19, hb := fun _ _ => none, hr := fun _ _ => none }
noncomputable def command_text_un : List DV → Option (Bool) := fun | [⟨.bool, r0⟩] => some r0 | _ => none
noncomputable def command_text_mk : Bool → List DV := fun r0 => [⟨.bool, r0⟩]
theorem command_text_ex : ∃ f : (ByteArray) → (Bool) → Option (Bool), f = fun (x0 : ByteArray) (x1 : Bool) => funRun command_text_C 3 27 [(false, [(false, .str)]), (false, [(false, .bool)])] [(false, [(false, .bool)])] command_text_un [⟨.str, x0⟩, ⟨.bool, x1⟩] := ⟨_, rfl⟩
noncomputable def command_text : (ByteArray) → (Bool) → Option (Bool) := command_text_ex.choose
theorem command_text_raw (x0 : ByteArray) (x1 : Bool) : command_text x0 x1 = funRun command_text_C 3 27 [(false, [(false, .str)]), (false, [(false, .bool)])] [(false, [(false, .bool)])] command_text_un [⟨.str, x0⟩, ⟨.bool, x1⟩] := congrFun (congrFun (command_text_ex.choose_spec) x0) x1
theorem command_text_eq (x0 : ByteArray) (x1 : Bool) : command_text x0 x1 =
  bif !x1
  then some (x0.toList == (⟨#[]⟩ : ByteArray).toList)
  else (pack_Name x0).bind fun val2 =>
    some (val2) := (command_text_raw x0 x1).trans (by kernel_rfl)
noncomputable def command_text_sig : Sig := { pm := [(false, [(false, .str)]), (false, [(false, .bool)])], rm := [(false, [(false, .bool)])], f := fun | [⟨.str, x0⟩, ⟨.bool, x1⟩] => .yes _ (command_text x0 x1) command_text_mk | _ => .no }
theorem command_text_ok : SigOk Try.prog 27 command_text_sig := by
  refine contract_of (C := command_text_C) (d := 3) ⟨S19_ok, noPs⟩ (callable_ex (by kernel_rfl)) ?_
  intro dvs
  unfold command_text_sig
  dsimp only
  split
  · refine .inr ⟨_, command_text_un, command_text_mk, congrArg (fun o => Cl.yes _ o _) (command_text_raw _ _), ?_⟩
    intro ds x h
    unfold command_text_un at h
    split at h
    · cases h; rfl
    · cases h
  · exact .inl rfl
noncomputable def S20 : List (Nat × Sig) := (27, command_text_sig) :: S19
theorem S20_ok : ListOk Try.prog S20 := ListOk.cons S19_ok command_text_ok
noncomputable def command_variables_C : Cfg := { P := Try.prog, sig := lookSig S20, hb := fun _ _ => none, hr := fun _ _ => none }
noncomputable def command_variables_un : List DV → Option (Int) := fun | [⟨.int .i64, r0⟩] => some r0 | _ => none
noncomputable def command_variables_mk : Int → List DV := fun r0 => [⟨.int .i64, r0⟩]
theorem command_variables_ex : ∃ f : (List ByteArray) → (List Int) → (Bool) → Option (Int), f = fun (x0 : List ByteArray) (x1 : List Int) (x2 : Bool) => funRun command_variables_C 3 28 [(true, [(false, .slice (.str)), (false, .slice (.int .i64))]), (false, [(false, .bool)])] [(false, [(false, .int .i64)])] command_variables_un [⟨.slice (.str), x0⟩, ⟨.slice (.int .i64), x1⟩, ⟨.bool, x2⟩] := ⟨_, rfl⟩
noncomputable def command_variables : (List ByteArray) → (List Int) → (Bool) → Option (Int) := command_variables_ex.choose
theorem command_variables_raw (x0 : List ByteArray) (x1 : List Int) (x2 : Bool) : command_variables x0 x1 x2 = funRun command_variables_C 3 28 [(true, [(false, .slice (.str)), (false, .slice (.int .i64))]), (false, [(false, .bool)])] [(false, [(false, .int .i64)])] command_variables_un [⟨.slice (.str), x0⟩, ⟨.slice (.int .i64), x1⟩, ⟨.bool, x2⟩] := congrFun (congrFun (congrFun (command_variables_ex.choose_spec) x0) x1) x2
theorem command_variables_eq (x0 : List ByteArray) (x1 : List Int) (x2 : Bool) : command_variables x0 x1 x2 =
  bif !x2
  then bif decide (ilen x0 > 0)
    then some (1)
    else bif decide (ilen x1 > 0)
      then some (1)
      else (vars_Check x0 x1).bind fun val6 =>
        some (val6)
  else (vars_Check x0 x1).bind fun val2 =>
    some (val2) := (command_variables_raw x0 x1 x2).trans (by kernel_rfl)
noncomputable def command_variables_sig : Sig := { pm := [(true, [(false, .slice (.str)), (false, .slice (.int .i64))]), (false, [(false, .bool)])], rm := [(false, [(false, .int .i64)])], f := fun | [⟨.slice (.str), x0⟩, ⟨.slice (.int .i64), x1⟩, ⟨.bool, x2⟩] => .yes _ (command_variables x0 x1 x2) command_variables_mk | _ => .no }
theorem command_variables_ok : SigOk Try.prog 28 command_variables_sig := by
  refine contract_of (C := command_variables_C) (d := 3) ⟨S20_ok, noPs⟩ (callable_ex (by kernel_rfl)) ?_
  intro dvs
  unfold command_variables_sig
  dsimp only
  split
  · refine .inr ⟨_, command_variables_un, command_variables_mk, congrArg (fun o => Cl.yes _ o _) (command_variables_raw _ _ _), ?_⟩
    intro ds x h
    unfold command_variables_un at h
    split at h
    · cases h; rfl
    · cases h
  · exact .inl rfl
noncomputable def S21 : List (Nat × Sig) := (28, command_variables_sig) :: S20
theorem S21_ok : ListOk Try.prog S21 := ListOk.cons S20_ok command_variables_ok
noncomputable def cmd_Check_C : Cfg := { P := Try.prog, sig := lookSig S21, hb := fun _ _ => none, hr := fun _ _ => none }
noncomputable def cmd_Check_un : List DV → Option (Int) := fun | [⟨.int .i64, r0⟩] => some r0 | _ => none
noncomputable def cmd_Check_mk : Int → List DV := fun r0 => [⟨.int .i64, r0⟩]
theorem cmd_Check_ex : ∃ f : (Int) → (Int) → (Int) → (ByteArray) → (ByteArray) → (Int) → (List ByteArray) → (List Int) → (Int) → (Int) → (Int) → (Int) → (List Int) → Option (Int), f = fun (x0 : Int) (x1 : Int) (x2 : Int) (x3 : ByteArray) (x4 : ByteArray) (x5 : Int) (x6 : List ByteArray) (x7 : List Int) (x8 : Int) (x9 : Int) (x10 : Int) (x11 : Int) (x12 : List Int) => funRun cmd_Check_C 3 8 [(true, [(false, .int .i64), (false, .int .i64), (false, .int .i64), (false, .str), (false, .str), (false, .int .i64), (false, .slice (.str)), (false, .slice (.int .i64)), (false, .int .i64), (false, .int .i64), (false, .int .i64), (false, .int .i64), (false, .slice (.int .u8))])] [(false, [(false, .int .i64)])] cmd_Check_un [⟨.int .i64, x0⟩, ⟨.int .i64, x1⟩, ⟨.int .i64, x2⟩, ⟨.str, x3⟩, ⟨.str, x4⟩, ⟨.int .i64, x5⟩, ⟨.slice (.str), x6⟩, ⟨.slice (.int .i64), x7⟩, ⟨.int .i64, x8⟩, ⟨.int .i64, x9⟩, ⟨.int .i64, x10⟩, ⟨.int .i64, x11⟩, ⟨.slice (.int .u8), x12⟩] := ⟨_, rfl⟩
noncomputable def cmd_Check : (Int) → (Int) → (Int) → (ByteArray) → (ByteArray) → (Int) → (List ByteArray) → (List Int) → (Int) → (Int) → (Int) → (Int) → (List Int) → Option (Int) := cmd_Check_ex.choose
theorem cmd_Check_raw (x0 : Int) (x1 : Int) (x2 : Int) (x3 : ByteArray) (x4 : ByteArray) (x5 : Int) (x6 : List ByteArray) (x7 : List Int) (x8 : Int) (x9 : Int) (x10 : Int) (x11 : Int) (x12 : List Int) : cmd_Check x0 x1 x2 x3 x4 x5 x6 x7 x8 x9 x10 x11 x12 = funRun cmd_Check_C 3 8 [(true, [(false, .int .i64), (false, .int .i64), (false, .int .i64), (false, .str), (false, .str), (false, .int .i64), (false, .slice (.str)), (false, .slice (.int .i64)), (false, .int .i64), (false, .int .i64), (false, .int .i64), (false, .int .i64), (false, .slice (.int .u8))])] [(false, [(false, .int .i64)])] cmd_Check_un [⟨.int .i64, x0⟩, ⟨.int .i64, x1⟩, ⟨.int .i64, x2⟩, ⟨.str, x3⟩, ⟨.str, x4⟩, ⟨.int .i64, x5⟩, ⟨.slice (.str), x6⟩, ⟨.slice (.int .i64), x7⟩, ⟨.int .i64, x8⟩, ⟨.int .i64, x9⟩, ⟨.int .i64, x10⟩, ⟨.int .i64, x11⟩, ⟨.slice (.int .u8), x12⟩] := congrFun (congrFun (congrFun (congrFun (congrFun (congrFun (congrFun (congrFun (congrFun (congrFun (congrFun (congrFun (congrFun (cmd_Check_ex.choose_spec) x0) x1) x2) x3) x4) x5) x6) x7) x8) x9) x10) x11) x12
theorem cmd_Check_eq (x0 : Int) (x1 : Int) (x2 : Int) (x3 : ByteArray) (x4 : ByteArray) (x5 : Int) (x6 : List ByteArray) (x7 : List Int) (x8 : Int) (x9 : Int) (x10 : Int) (x11 : Int) (x12 : List Int) : cmd_Check x0 x1 x2 x3 x4 x5 x6 x7 x8 x9 x10 x11 x12 =
  bif x0 == 1
  then (command_from x1 (IntKind.i64.wrap ↑(BitVec.ofInt IntKind.i64.bits 256 &&& BitVec.ofInt IntKind.i64.bits 1).toNat != 0) 1 1099511627776).bind fun val2 =>
    bif !val2
      then some (1)
      else (command_from x2 (IntKind.i64.wrap ↑(BitVec.ofInt IntKind.i64.bits 256 &&& BitVec.ofInt IntKind.i64.bits 1).toNat != 0) 1 1099511627776).bind fun val6 =>
        bif !val6
          then some (1)
          else (command_text x3 (IntKind.i64.wrap ↑(BitVec.ofInt IntKind.i64.bits 256 &&& BitVec.ofInt IntKind.i64.bits 2).toNat != 0)).bind fun val10 =>
            bif !val10
              then some (1)
              else (command_text x4 (IntKind.i64.wrap ↑(BitVec.ofInt IntKind.i64.bits 256 &&& BitVec.ofInt IntKind.i64.bits 4).toNat != 0)).bind fun val14 =>
                bif !val14
                  then some (1)
                  else bif x5 != 0
                    then some (1)
                    else (command_from x8 (IntKind.i64.wrap ↑(BitVec.ofInt IntKind.i64.bits 256 &&& BitVec.ofInt IntKind.i64.bits 32).toNat != 0) 0 1099511627776).bind fun val20 =>
                      bif !val20
                        then some (2)
                        else (command_from x9 (IntKind.i64.wrap ↑(BitVec.ofInt IntKind.i64.bits 256 &&& BitVec.ofInt IntKind.i64.bits 64).toNat != 0) 0 1099511627776).bind fun val24 =>
                          bif !val24
                            then some (2)
                            else (command_from x10 (IntKind.i64.wrap ↑(BitVec.ofInt IntKind.i64.bits 256 &&& BitVec.ofInt IntKind.i64.bits 128).toNat != 0) 0 1099511627776).bind fun val28 =>
                              bif !val28
                                then some (2)
                                else (command_from x11 (IntKind.i64.wrap ↑(BitVec.ofInt IntKind.i64.bits 256 &&& BitVec.ofInt IntKind.i64.bits 256).toNat != 0) 0 1099511627776).bind fun val32 =>
                                  bif !val32
                                    then some (2)
                                    else bif decide (ilen x12 > 0)
                                      then some (1)
                                      else bif decide (ilen x12 > 65536)
                                        then some (6)
                                        else (command_variables x6 x7 (IntKind.i64.wrap ↑(BitVec.ofInt IntKind.i64.bits 256 &&& BitVec.ofInt IntKind.i64.bits 16).toNat != 0)).bind fun val40 =>
                                          some (val40)
  else bif x0 == 2
    then (command_from x1 (IntKind.i64.wrap ↑(BitVec.ofInt IntKind.i64.bits 513 &&& BitVec.ofInt IntKind.i64.bits 1).toNat != 0) 1 1099511627776).bind fun val4 =>
      bif !val4
        then some (1)
        else (command_from x2 (IntKind.i64.wrap ↑(BitVec.ofInt IntKind.i64.bits 513 &&& BitVec.ofInt IntKind.i64.bits 1).toNat != 0) 1 1099511627776).bind fun val8 =>
          bif !val8
            then some (1)
            else (command_text x3 (IntKind.i64.wrap ↑(BitVec.ofInt IntKind.i64.bits 513 &&& BitVec.ofInt IntKind.i64.bits 2).toNat != 0)).bind fun val12 =>
              bif !val12
                then some (1)
                else (command_text x4 (IntKind.i64.wrap ↑(BitVec.ofInt IntKind.i64.bits 513 &&& BitVec.ofInt IntKind.i64.bits 4).toNat != 0)).bind fun val16 =>
                  bif !val16
                    then some (1)
                    else bif x5 != 0
                      then some (1)
                      else (command_from x8 (IntKind.i64.wrap ↑(BitVec.ofInt IntKind.i64.bits 513 &&& BitVec.ofInt IntKind.i64.bits 32).toNat != 0) 0 1099511627776).bind fun val22 =>
                        bif !val22
                          then some (2)
                          else (command_from x9 (IntKind.i64.wrap ↑(BitVec.ofInt IntKind.i64.bits 513 &&& BitVec.ofInt IntKind.i64.bits 64).toNat != 0) 0 1099511627776).bind fun val26 =>
                            bif !val26
                              then some (2)
                              else (command_from x10 (IntKind.i64.wrap ↑(BitVec.ofInt IntKind.i64.bits 513 &&& BitVec.ofInt IntKind.i64.bits 128).toNat != 0) 0 1099511627776).bind fun val30 =>
                                bif !val30
                                  then some (2)
                                  else (command_from x11 (IntKind.i64.wrap ↑(BitVec.ofInt IntKind.i64.bits 513 &&& BitVec.ofInt IntKind.i64.bits 256).toNat != 0) 0 1099511627776).bind fun val34 =>
                                    bif !val34
                                      then some (2)
                                      else bif decide (ilen x12 > 65536)
                                        then some (6)
                                        else (command_variables x6 x7 (IntKind.i64.wrap ↑(BitVec.ofInt IntKind.i64.bits 513 &&& BitVec.ofInt IntKind.i64.bits 16).toNat != 0)).bind fun val40 =>
                                          some (val40)
    else bif x0 == 3
      then (command_from x1 (IntKind.i64.wrap ↑(BitVec.ofInt IntKind.i64.bits 19 &&& BitVec.ofInt IntKind.i64.bits 1).toNat != 0) 1 1099511627776).bind fun val6 =>
        bif !val6
          then some (1)
          else (command_from x2 (IntKind.i64.wrap ↑(BitVec.ofInt IntKind.i64.bits 19 &&& BitVec.ofInt IntKind.i64.bits 1).toNat != 0) 1 1099511627776).bind fun val10 =>
            bif !val10
              then some (1)
              else (command_text x3 (IntKind.i64.wrap ↑(BitVec.ofInt IntKind.i64.bits 19 &&& BitVec.ofInt IntKind.i64.bits 2).toNat != 0)).bind fun val14 =>
                bif !val14
                  then some (1)
                  else (command_text x4 (IntKind.i64.wrap ↑(BitVec.ofInt IntKind.i64.bits 19 &&& BitVec.ofInt IntKind.i64.bits 4).toNat != 0)).bind fun val18 =>
                    bif !val18
                      then some (1)
                      else bif x5 != 0
                        then some (1)
                        else (command_from x8 (IntKind.i64.wrap ↑(BitVec.ofInt IntKind.i64.bits 19 &&& BitVec.ofInt IntKind.i64.bits 32).toNat != 0) 0 1099511627776).bind fun val24 =>
                          bif !val24
                            then some (2)
                            else (command_from x9 (IntKind.i64.wrap ↑(BitVec.ofInt IntKind.i64.bits 19 &&& BitVec.ofInt IntKind.i64.bits 64).toNat != 0) 0 1099511627776).bind fun val28 =>
                              bif !val28
                                then some (2)
                                else (command_from x10 (IntKind.i64.wrap ↑(BitVec.ofInt IntKind.i64.bits 19 &&& BitVec.ofInt IntKind.i64.bits 128).toNat != 0) 0 1099511627776).bind fun val32 =>
                                  bif !val32
                                    then some (2)
                                    else (command_from x11 (IntKind.i64.wrap ↑(BitVec.ofInt IntKind.i64.bits 19 &&& BitVec.ofInt IntKind.i64.bits 256).toNat != 0) 0 1099511627776).bind fun val36 =>
                                      bif !val36
                                        then some (2)
                                        else bif decide (ilen x12 > 0)
                                          then some (1)
                                          else bif decide (ilen x12 > 65536)
                                            then some (6)
                                            else (command_variables x6 x7 (IntKind.i64.wrap ↑(BitVec.ofInt IntKind.i64.bits 19 &&& BitVec.ofInt IntKind.i64.bits 16).toNat != 0)).bind fun val44 =>
                                              some (val44)
      else bif x0 == 4
        then (command_from x1 (IntKind.i64.wrap ↑(BitVec.ofInt IntKind.i64.bits 155 &&& BitVec.ofInt IntKind.i64.bits 1).toNat != 0) 1 1099511627776).bind fun val8 =>
          bif !val8
            then some (1)
            else (command_from x2 (IntKind.i64.wrap ↑(BitVec.ofInt IntKind.i64.bits 155 &&& BitVec.ofInt IntKind.i64.bits 1).toNat != 0) 1 1099511627776).bind fun val12 =>
              bif !val12
                then some (1)
                else (command_text x3 (IntKind.i64.wrap ↑(BitVec.ofInt IntKind.i64.bits 155 &&& BitVec.ofInt IntKind.i64.bits 2).toNat != 0)).bind fun val16 =>
                  bif !val16
                    then some (1)
                    else (command_text x4 (IntKind.i64.wrap ↑(BitVec.ofInt IntKind.i64.bits 155 &&& BitVec.ofInt IntKind.i64.bits 4).toNat != 0)).bind fun val20 =>
                      bif !val20
                        then some (1)
                        else (command_from x8 (IntKind.i64.wrap ↑(BitVec.ofInt IntKind.i64.bits 155 &&& BitVec.ofInt IntKind.i64.bits 32).toNat != 0) 0 1099511627776).bind fun val24 =>
                          bif !val24
                            then some (2)
                            else (command_from x9 (IntKind.i64.wrap ↑(BitVec.ofInt IntKind.i64.bits 155 &&& BitVec.ofInt IntKind.i64.bits 64).toNat != 0) 0 1099511627776).bind fun val28 =>
                              bif !val28
                                then some (2)
                                else (command_from x10 (IntKind.i64.wrap ↑(BitVec.ofInt IntKind.i64.bits 155 &&& BitVec.ofInt IntKind.i64.bits 128).toNat != 0) 0 1099511627776).bind fun val32 =>
                                  bif !val32
                                    then some (2)
                                    else (command_from x11 (IntKind.i64.wrap ↑(BitVec.ofInt IntKind.i64.bits 155 &&& BitVec.ofInt IntKind.i64.bits 256).toNat != 0) 0 1099511627776).bind fun val36 =>
                                      bif !val36
                                        then some (2)
                                        else bif decide (ilen x12 > 0)
                                          then some (1)
                                          else bif decide (ilen x12 > 65536)
                                            then some (6)
                                            else (command_variables x6 x7 (IntKind.i64.wrap ↑(BitVec.ofInt IntKind.i64.bits 155 &&& BitVec.ofInt IntKind.i64.bits 16).toNat != 0)).bind fun val44 =>
                                              some (val44)
        else bif x0 == 5
          then (command_from x1 (IntKind.i64.wrap ↑(BitVec.ofInt IntKind.i64.bits 391 &&& BitVec.ofInt IntKind.i64.bits 1).toNat != 0) 1 1099511627776).bind fun val10 =>
            bif !val10
              then some (1)
              else (command_from x2 (IntKind.i64.wrap ↑(BitVec.ofInt IntKind.i64.bits 391 &&& BitVec.ofInt IntKind.i64.bits 1).toNat != 0) 1 1099511627776).bind fun val14 =>
                bif !val14
                  then some (1)
                  else (command_text x3 (IntKind.i64.wrap ↑(BitVec.ofInt IntKind.i64.bits 391 &&& BitVec.ofInt IntKind.i64.bits 2).toNat != 0)).bind fun val18 =>
                    bif !val18
                      then some (1)
                      else (command_text x4 (IntKind.i64.wrap ↑(BitVec.ofInt IntKind.i64.bits 391 &&& BitVec.ofInt IntKind.i64.bits 4).toNat != 0)).bind fun val22 =>
                        bif !val22
                          then some (1)
                          else bif x5 != 0
                            then some (1)
                            else (command_from x8 (IntKind.i64.wrap ↑(BitVec.ofInt IntKind.i64.bits 391 &&& BitVec.ofInt IntKind.i64.bits 32).toNat != 0) 0 1099511627776).bind fun val28 =>
                              bif !val28
                                then some (2)
                                else (command_from x9 (IntKind.i64.wrap ↑(BitVec.ofInt IntKind.i64.bits 391 &&& BitVec.ofInt IntKind.i64.bits 64).toNat != 0) 0 1099511627776).bind fun val32 =>
                                  bif !val32
                                    then some (2)
                                    else (command_from x10 (IntKind.i64.wrap ↑(BitVec.ofInt IntKind.i64.bits 391 &&& BitVec.ofInt IntKind.i64.bits 128).toNat != 0) 0 1099511627776).bind fun val36 =>
                                      bif !val36
                                        then some (2)
                                        else (command_from x11 (IntKind.i64.wrap ↑(BitVec.ofInt IntKind.i64.bits 391 &&& BitVec.ofInt IntKind.i64.bits 256).toNat != 0) 0 1099511627776).bind fun val40 =>
                                          bif !val40
                                            then some (2)
                                            else bif decide (ilen x12 > 0)
                                              then some (1)
                                              else bif decide (ilen x12 > 65536)
                                                then some (6)
                                                else (command_variables x6 x7 (IntKind.i64.wrap ↑(BitVec.ofInt IntKind.i64.bits 391 &&& BitVec.ofInt IntKind.i64.bits 16).toNat != 0)).bind fun val48 =>
                                                  some (val48)
          else bif x0 == 6
            then (command_from x1 (IntKind.i64.wrap ↑(BitVec.ofInt IntKind.i64.bits 53 &&& BitVec.ofInt IntKind.i64.bits 1).toNat != 0) 1 1099511627776).bind fun val12 =>
              bif !val12
                then some (1)
                else (command_from x2 (IntKind.i64.wrap ↑(BitVec.ofInt IntKind.i64.bits 53 &&& BitVec.ofInt IntKind.i64.bits 1).toNat != 0) 1 1099511627776).bind fun val16 =>
                  bif !val16
                    then some (1)
                    else (command_text x3 (IntKind.i64.wrap ↑(BitVec.ofInt IntKind.i64.bits 53 &&& BitVec.ofInt IntKind.i64.bits 2).toNat != 0)).bind fun val20 =>
                      bif !val20
                        then some (1)
                        else (command_text x4 (IntKind.i64.wrap ↑(BitVec.ofInt IntKind.i64.bits 53 &&& BitVec.ofInt IntKind.i64.bits 4).toNat != 0)).bind fun val24 =>
                          bif !val24
                            then some (1)
                            else bif x5 != 0
                              then some (1)
                              else (command_from x8 (IntKind.i64.wrap ↑(BitVec.ofInt IntKind.i64.bits 53 &&& BitVec.ofInt IntKind.i64.bits 32).toNat != 0) 0 1099511627776).bind fun val30 =>
                                bif !val30
                                  then some (2)
                                  else (command_from x9 (IntKind.i64.wrap ↑(BitVec.ofInt IntKind.i64.bits 53 &&& BitVec.ofInt IntKind.i64.bits 64).toNat != 0) 0 1099511627776).bind fun val34 =>
                                    bif !val34
                                      then some (2)
                                      else (command_from x10 (IntKind.i64.wrap ↑(BitVec.ofInt IntKind.i64.bits 53 &&& BitVec.ofInt IntKind.i64.bits 128).toNat != 0) 0 1099511627776).bind fun val38 =>
                                        bif !val38
                                          then some (2)
                                          else (command_from x11 (IntKind.i64.wrap ↑(BitVec.ofInt IntKind.i64.bits 53 &&& BitVec.ofInt IntKind.i64.bits 256).toNat != 0) 0 1099511627776).bind fun val42 =>
                                            bif !val42
                                              then some (2)
                                              else bif decide (ilen x12 > 0)
                                                then some (1)
                                                else bif decide (ilen x12 > 65536)
                                                  then some (6)
                                                  else (command_variables x6 x7 (IntKind.i64.wrap ↑(BitVec.ofInt IntKind.i64.bits 53 &&& BitVec.ofInt IntKind.i64.bits 16).toNat != 0)).bind fun val50 =>
                                                    some (val50)
            else bif x0 == 7
              then (command_from x1 (IntKind.i64.wrap ↑(BitVec.ofInt IntKind.i64.bits 37 &&& BitVec.ofInt IntKind.i64.bits 1).toNat != 0) 1 1099511627776).bind fun val14 =>
                bif !val14
                  then some (1)
                  else (command_from x2 (IntKind.i64.wrap ↑(BitVec.ofInt IntKind.i64.bits 37 &&& BitVec.ofInt IntKind.i64.bits 1).toNat != 0) 1 1099511627776).bind fun val18 =>
                    bif !val18
                      then some (1)
                      else (command_text x3 (IntKind.i64.wrap ↑(BitVec.ofInt IntKind.i64.bits 37 &&& BitVec.ofInt IntKind.i64.bits 2).toNat != 0)).bind fun val22 =>
                        bif !val22
                          then some (1)
                          else (command_text x4 (IntKind.i64.wrap ↑(BitVec.ofInt IntKind.i64.bits 37 &&& BitVec.ofInt IntKind.i64.bits 4).toNat != 0)).bind fun val26 =>
                            bif !val26
                              then some (1)
                              else bif x5 != 0
                                then some (1)
                                else (command_from x8 (IntKind.i64.wrap ↑(BitVec.ofInt IntKind.i64.bits 37 &&& BitVec.ofInt IntKind.i64.bits 32).toNat != 0) 0 1099511627776).bind fun val32 =>
                                  bif !val32
                                    then some (2)
                                    else (command_from x9 (IntKind.i64.wrap ↑(BitVec.ofInt IntKind.i64.bits 37 &&& BitVec.ofInt IntKind.i64.bits 64).toNat != 0) 0 1099511627776).bind fun val36 =>
                                      bif !val36
                                        then some (2)
                                        else (command_from x10 (IntKind.i64.wrap ↑(BitVec.ofInt IntKind.i64.bits 37 &&& BitVec.ofInt IntKind.i64.bits 128).toNat != 0) 0 1099511627776).bind fun val40 =>
                                          bif !val40
                                            then some (2)
                                            else (command_from x11 (IntKind.i64.wrap ↑(BitVec.ofInt IntKind.i64.bits 37 &&& BitVec.ofInt IntKind.i64.bits 256).toNat != 0) 0 1099511627776).bind fun val44 =>
                                              bif !val44
                                                then some (2)
                                                else bif decide (ilen x12 > 0)
                                                  then some (1)
                                                  else bif decide (ilen x12 > 65536)
                                                    then some (6)
                                                    else (command_variables x6 x7 (IntKind.i64.wrap ↑(BitVec.ofInt IntKind.i64.bits 37 &&& BitVec.ofInt IntKind.i64.bits 16).toNat != 0)).bind fun val52 =>
                                                      some (val52)
              else bif x0 == 8
                then (command_from x1 (IntKind.i64.wrap ↑(BitVec.ofInt IntKind.i64.bits 113 &&& BitVec.ofInt IntKind.i64.bits 1).toNat != 0) 1 1099511627776).bind fun val16 =>
                  bif !val16
                    then some (1)
                    else (command_from x2 (IntKind.i64.wrap ↑(BitVec.ofInt IntKind.i64.bits 113 &&& BitVec.ofInt IntKind.i64.bits 1).toNat != 0) 1 1099511627776).bind fun val20 =>
                      bif !val20
                        then some (1)
                        else (command_text x3 (IntKind.i64.wrap ↑(BitVec.ofInt IntKind.i64.bits 113 &&& BitVec.ofInt IntKind.i64.bits 2).toNat != 0)).bind fun val24 =>
                          bif !val24
                            then some (1)
                            else (command_text x4 (IntKind.i64.wrap ↑(BitVec.ofInt IntKind.i64.bits 113 &&& BitVec.ofInt IntKind.i64.bits 4).toNat != 0)).bind fun val28 =>
                              bif !val28
                                then some (1)
                                else bif x5 != 0
                                  then some (1)
                                  else (command_from x8 (IntKind.i64.wrap ↑(BitVec.ofInt IntKind.i64.bits 113 &&& BitVec.ofInt IntKind.i64.bits 32).toNat != 0) 0 1099511627776).bind fun val34 =>
                                    bif !val34
                                      then some (2)
                                      else (command_from x9 (IntKind.i64.wrap ↑(BitVec.ofInt IntKind.i64.bits 113 &&& BitVec.ofInt IntKind.i64.bits 64).toNat != 0) 0 1099511627776).bind fun val38 =>
                                        bif !val38
                                          then some (2)
                                          else (command_from x10 (IntKind.i64.wrap ↑(BitVec.ofInt IntKind.i64.bits 113 &&& BitVec.ofInt IntKind.i64.bits 128).toNat != 0) 0 1099511627776).bind fun val42 =>
                                            bif !val42
                                              then some (2)
                                              else (command_from x11 (IntKind.i64.wrap ↑(BitVec.ofInt IntKind.i64.bits 113 &&& BitVec.ofInt IntKind.i64.bits 256).toNat != 0) 0 1099511627776).bind fun val46 =>
                                                bif !val46
                                                  then some (2)
                                                  else bif decide (ilen x12 > 0)
                                                    then some (1)
                                                    else bif decide (ilen x12 > 65536)
                                                      then some (6)
                                                      else (command_variables x6 x7 (IntKind.i64.wrap ↑(BitVec.ofInt IntKind.i64.bits 113 &&& BitVec.ofInt IntKind.i64.bits 16).toNat != 0)).bind fun val54 =>
                                                        some (val54)
                else bif x0 == 9
                  then (command_from x1 (IntKind.i64.wrap ↑(BitVec.ofInt IntKind.i64.bits 161 &&& BitVec.ofInt IntKind.i64.bits 1).toNat != 0) 1 1099511627776).bind fun val18 =>
                    bif !val18
                      then some (1)
                      else (command_from x2 (IntKind.i64.wrap ↑(BitVec.ofInt IntKind.i64.bits 161 &&& BitVec.ofInt IntKind.i64.bits 1).toNat != 0) 1 1099511627776).bind fun val22 =>
                        bif !val22
                          then some (1)
                          else (command_text x3 (IntKind.i64.wrap ↑(BitVec.ofInt IntKind.i64.bits 161 &&& BitVec.ofInt IntKind.i64.bits 2).toNat != 0)).bind fun val26 =>
                            bif !val26
                              then some (1)
                              else (command_text x4 (IntKind.i64.wrap ↑(BitVec.ofInt IntKind.i64.bits 161 &&& BitVec.ofInt IntKind.i64.bits 4).toNat != 0)).bind fun val30 =>
                                bif !val30
                                  then some (1)
                                  else bif x5 != 0
                                    then some (1)
                                    else (command_from x8 (IntKind.i64.wrap ↑(BitVec.ofInt IntKind.i64.bits 161 &&& BitVec.ofInt IntKind.i64.bits 32).toNat != 0) 0 1099511627776).bind fun val36 =>
                                      bif !val36
                                        then some (2)
                                        else (command_from x9 (IntKind.i64.wrap ↑(BitVec.ofInt IntKind.i64.bits 161 &&& BitVec.ofInt IntKind.i64.bits 64).toNat != 0) 0 1099511627776).bind fun val40 =>
                                          bif !val40
                                            then some (2)
                                            else (command_from x10 (IntKind.i64.wrap ↑(BitVec.ofInt IntKind.i64.bits 161 &&& BitVec.ofInt IntKind.i64.bits 128).toNat != 0) 0 1099511627776).bind fun val44 =>
                                              bif !val44
                                                then some (2)
                                                else (command_from x11 (IntKind.i64.wrap ↑(BitVec.ofInt IntKind.i64.bits 161 &&& BitVec.ofInt IntKind.i64.bits 256).toNat != 0) 0 1099511627776).bind fun val48 =>
                                                  bif !val48
                                                    then some (2)
                                                    else bif decide (ilen x12 > 0)
                                                      then some (1)
                                                      else bif decide (ilen x12 > 65536)
                                                        then some (6)
                                                        else (command_variables x6 x7 (IntKind.i64.wrap ↑(BitVec.ofInt IntKind.i64.bits 161 &&& BitVec.ofInt IntKind.i64.bits 16).toNat != 0)).bind fun val56 =>
                                                          some (val56)
                  else bif x0 == 10
                    then (command_from x1 (IntKind.i64.wrap ↑(BitVec.ofInt IntKind.i64.bits 33 &&& BitVec.ofInt IntKind.i64.bits 1).toNat != 0) 1 1099511627776).bind fun val20 =>
                      bif !val20
                        then some (1)
                        else (command_from x2 (IntKind.i64.wrap ↑(BitVec.ofInt IntKind.i64.bits 33 &&& BitVec.ofInt IntKind.i64.bits 1).toNat != 0) 1 1099511627776).bind fun val24 =>
                          bif !val24
                            then some (1)
                            else (command_text x3 (IntKind.i64.wrap ↑(BitVec.ofInt IntKind.i64.bits 33 &&& BitVec.ofInt IntKind.i64.bits 2).toNat != 0)).bind fun val28 =>
                              bif !val28
                                then some (1)
                                else (command_text x4 (IntKind.i64.wrap ↑(BitVec.ofInt IntKind.i64.bits 33 &&& BitVec.ofInt IntKind.i64.bits 4).toNat != 0)).bind fun val32 =>
                                  bif !val32
                                    then some (1)
                                    else bif x5 != 0
                                      then some (1)
                                      else (command_from x8 (IntKind.i64.wrap ↑(BitVec.ofInt IntKind.i64.bits 33 &&& BitVec.ofInt IntKind.i64.bits 32).toNat != 0) 0 1099511627776).bind fun val38 =>
                                        bif !val38
                                          then some (2)
                                          else (command_from x9 (IntKind.i64.wrap ↑(BitVec.ofInt IntKind.i64.bits 33 &&& BitVec.ofInt IntKind.i64.bits 64).toNat != 0) 0 1099511627776).bind fun val42 =>
                                            bif !val42
                                              then some (2)
                                              else (command_from x10 (IntKind.i64.wrap ↑(BitVec.ofInt IntKind.i64.bits 33 &&& BitVec.ofInt IntKind.i64.bits 128).toNat != 0) 0 1099511627776).bind fun val46 =>
                                                bif !val46
                                                  then some (2)
                                                  else (command_from x11 (IntKind.i64.wrap ↑(BitVec.ofInt IntKind.i64.bits 33 &&& BitVec.ofInt IntKind.i64.bits 256).toNat != 0) 0 1099511627776).bind fun val50 =>
                                                    bif !val50
                                                      then some (2)
                                                      else bif decide (ilen x12 > 0)
                                                        then some (1)
                                                        else bif decide (ilen x12 > 65536)
                                                          then some (6)
                                                          else (command_variables x6 x7 (IntKind.i64.wrap ↑(BitVec.ofInt IntKind.i64.bits 33 &&& BitVec.ofInt IntKind.i64.bits 16).toNat != 0)).bind fun val58 =>
                                                            some (val58)
                    else bif x0 == 11
                      then (command_from x1 (IntKind.i64.wrap ↑(BitVec.ofInt IntKind.i64.bits 672 &&& BitVec.ofInt IntKind.i64.bits 1).toNat != 0) 1 1099511627776).bind fun val22 =>
                        bif !val22
                          then some (1)
                          else (command_from x2 (IntKind.i64.wrap ↑(BitVec.ofInt IntKind.i64.bits 672 &&& BitVec.ofInt IntKind.i64.bits 1).toNat != 0) 1 1099511627776).bind fun val26 =>
                            bif !val26
                              then some (1)
                              else (command_text x3 (IntKind.i64.wrap ↑(BitVec.ofInt IntKind.i64.bits 672 &&& BitVec.ofInt IntKind.i64.bits 2).toNat != 0)).bind fun val30 =>
                                bif !val30
                                  then some (1)
                                  else (command_text x4 (IntKind.i64.wrap ↑(BitVec.ofInt IntKind.i64.bits 672 &&& BitVec.ofInt IntKind.i64.bits 4).toNat != 0)).bind fun val34 =>
                                    bif !val34
                                      then some (1)
                                      else bif x5 != 0
                                        then some (1)
                                        else (command_from x8 (IntKind.i64.wrap ↑(BitVec.ofInt IntKind.i64.bits 672 &&& BitVec.ofInt IntKind.i64.bits 32).toNat != 0) 0 1099511627776).bind fun val40 =>
                                          bif !val40
                                            then some (2)
                                            else (command_from x9 (IntKind.i64.wrap ↑(BitVec.ofInt IntKind.i64.bits 672 &&& BitVec.ofInt IntKind.i64.bits 64).toNat != 0) 0 1099511627776).bind fun val44 =>
                                              bif !val44
                                                then some (2)
                                                else (command_from x10 (IntKind.i64.wrap ↑(BitVec.ofInt IntKind.i64.bits 672 &&& BitVec.ofInt IntKind.i64.bits 128).toNat != 0) 0 1099511627776).bind fun val48 =>
                                                  bif !val48
                                                    then some (2)
                                                    else (command_from x11 (IntKind.i64.wrap ↑(BitVec.ofInt IntKind.i64.bits 672 &&& BitVec.ofInt IntKind.i64.bits 256).toNat != 0) 0 1099511627776).bind fun val52 =>
                                                      bif !val52
                                                        then some (2)
                                                        else bif decide (ilen x12 > 65536)
                                                          then some (6)
                                                          else (command_variables x6 x7 (IntKind.i64.wrap ↑(BitVec.ofInt IntKind.i64.bits 672 &&& BitVec.ofInt IntKind.i64.bits 16).toNat != 0)).bind fun val58 =>
                                                            some (val58)
                      else bif x0 == 12
                        then (command_from x1 (IntKind.i64.wrap ↑(BitVec.ofInt IntKind.i64.bits 160 &&& BitVec.ofInt IntKind.i64.bits 1).toNat != 0) 1 1099511627776).bind fun val24 =>
                          bif !val24
                            then some (1)
                            else (command_from x2 (IntKind.i64.wrap ↑(BitVec.ofInt IntKind.i64.bits 160 &&& BitVec.ofInt IntKind.i64.bits 1).toNat != 0) 1 1099511627776).bind fun val28 =>
                              bif !val28
                                then some (1)
                                else (command_text x3 (IntKind.i64.wrap ↑(BitVec.ofInt IntKind.i64.bits 160 &&& BitVec.ofInt IntKind.i64.bits 2).toNat != 0)).bind fun val32 =>
                                  bif !val32
                                    then some (1)
                                    else (command_text x4 (IntKind.i64.wrap ↑(BitVec.ofInt IntKind.i64.bits 160 &&& BitVec.ofInt IntKind.i64.bits 4).toNat != 0)).bind fun val36 =>
                                      bif !val36
                                        then some (1)
                                        else bif x5 != 0
                                          then some (1)
                                          else (command_from x8 (IntKind.i64.wrap ↑(BitVec.ofInt IntKind.i64.bits 160 &&& BitVec.ofInt IntKind.i64.bits 32).toNat != 0) 0 1099511627776).bind fun val42 =>
                                            bif !val42
                                              then some (2)
                                              else (command_from x9 (IntKind.i64.wrap ↑(BitVec.ofInt IntKind.i64.bits 160 &&& BitVec.ofInt IntKind.i64.bits 64).toNat != 0) 0 1099511627776).bind fun val46 =>
                                                bif !val46
                                                  then some (2)
                                                  else (command_from x10 (IntKind.i64.wrap ↑(BitVec.ofInt IntKind.i64.bits 160 &&& BitVec.ofInt IntKind.i64.bits 128).toNat != 0) 0 1099511627776).bind fun val50 =>
                                                    bif !val50
                                                      then some (2)
                                                      else (command_from x11 (IntKind.i64.wrap ↑(BitVec.ofInt IntKind.i64.bits 160 &&& BitVec.ofInt IntKind.i64.bits 256).toNat != 0) 0 1099511627776).bind fun val54 =>
                                                        bif !val54
                                                          then some (2)
                                                          else bif decide (ilen x12 > 0)
                                                            then some (1)
                                                            else bif decide (ilen x12 > 65536)
                                                              then some (6)
                                                              else (command_variables x6 x7 (IntKind.i64.wrap ↑(BitVec.ofInt IntKind.i64.bits 160 &&& BitVec.ofInt IntKind.i64.bits 16).toNat != 0)).bind fun val62 =>
                                                                some (val62)
                        else some (1) := (cmd_Check_raw x0 x1 x2 x3 x4 x5 x6 x7 x8 x9 x10 x11 x12).trans (by kernel_rfl)
noncomputable def cmd_Check_sig : Sig := { pm := [(true, [(false, .int .i64), (false, .int .i64), (false, .int .i64), (false, .str), (false, .str), (false, .int .i64), (false, .slice (.str)), (false, .slice (.int .i64)), (false, .int .i64), (false, .int .i64), (false, .int .i64), (false, .int .i64), (false, .slice (.int .u8))])], rm := [(false, [(false, .int .i64)])], f := fun | [⟨.int .i64, x0⟩, ⟨.int .i64, x1⟩, ⟨.int .i64, x2⟩, ⟨.str, x3⟩, ⟨.str, x4⟩, ⟨.int .i64, x5⟩, ⟨.slice (.str), x6⟩, ⟨.slice (.int .i64), x7⟩, ⟨.int .i64, x8⟩, ⟨.int .i64, x9⟩, ⟨.int .i64, x10⟩, ⟨.int .i64, x11⟩, ⟨.slice (.int .u8), x12⟩] => .yes _ (cmd_Check x0 x1 x2 x3 x4 x5 x6 x7 x8 x9 x10 x11 x12) cmd_Check_mk | _ => .no }
theorem cmd_Check_ok : SigOk Try.prog 8 cmd_Check_sig := by
  refine contract_of (C := cmd_Check_C) (d := 3) ⟨S21_ok, noPs⟩ (callable_ex (by kernel_rfl)) ?_
  intro dvs
  unfold cmd_Check_sig
  dsimp only
  split
  · refine .inr ⟨_, cmd_Check_un, cmd_Check_mk, congrArg (fun o => Cl.yes _ o _) (cmd_Check_raw _ _ _ _ _ _ _ _ _ _ _ _ _), ?_⟩
    intro ds x h
    unfold cmd_Check_un at h
    split at h
    · cases h; rfl
    · cases h
  · exact .inl rfl
noncomputable def S22 : List (Nat × Sig) := (8, cmd_Check_sig) :: S21
theorem S22_ok : ListOk Try.prog S22 := ListOk.cons S21_ok cmd_Check_ok
noncomputable def cmd_Put_C : Cfg := { P := Try.prog, sig := lookSig S22, hb := fun _ _ => none, hr := fun _ _ => none }
noncomputable def cmd_Put_un : List DV → Option ((List Int) × Int) := fun | [⟨.slice (.int .u8), r0⟩, ⟨.int .i64, r1⟩] => some (r0, r1) | _ => none
noncomputable def cmd_Put_mk : ((List Int) × Int) → List DV := fun ⟨r0, r1⟩ => [⟨.slice (.int .u8), r0⟩, ⟨.int .i64, r1⟩]
theorem cmd_Put_ex : ∃ f : (Int) → (Int) → (Int) → (ByteArray) → (ByteArray) → (Int) → (List ByteArray) → (List Int) → (Int) → (Int) → (Int) → (Int) → (List Int) → Option ((List Int) × Int), f = fun (x0 : Int) (x1 : Int) (x2 : Int) (x3 : ByteArray) (x4 : ByteArray) (x5 : Int) (x6 : List ByteArray) (x7 : List Int) (x8 : Int) (x9 : Int) (x10 : Int) (x11 : Int) (x12 : List Int) => funRun cmd_Put_C 3 14 [(true, [(false, .int .i64), (false, .int .i64), (false, .int .i64), (false, .str), (false, .str), (false, .int .i64), (false, .slice (.str)), (false, .slice (.int .i64)), (false, .int .i64), (false, .int .i64), (false, .int .i64), (false, .int .i64), (false, .slice (.int .u8))])] [(false, [(true, .slice (.int .u8))]), (false, [(false, .int .i64)])] cmd_Put_un [⟨.int .i64, x0⟩, ⟨.int .i64, x1⟩, ⟨.int .i64, x2⟩, ⟨.str, x3⟩, ⟨.str, x4⟩, ⟨.int .i64, x5⟩, ⟨.slice (.str), x6⟩, ⟨.slice (.int .i64), x7⟩, ⟨.int .i64, x8⟩, ⟨.int .i64, x9⟩, ⟨.int .i64, x10⟩, ⟨.int .i64, x11⟩, ⟨.slice (.int .u8), x12⟩] := ⟨_, rfl⟩
noncomputable def cmd_Put : (Int) → (Int) → (Int) → (ByteArray) → (ByteArray) → (Int) → (List ByteArray) → (List Int) → (Int) → (Int) → (Int) → (Int) → (List Int) → Option ((List Int) × Int) := cmd_Put_ex.choose
theorem cmd_Put_raw (x0 : Int) (x1 : Int) (x2 : Int) (x3 : ByteArray) (x4 : ByteArray) (x5 : Int) (x6 : List ByteArray) (x7 : List Int) (x8 : Int) (x9 : Int) (x10 : Int) (x11 : Int) (x12 : List Int) : cmd_Put x0 x1 x2 x3 x4 x5 x6 x7 x8 x9 x10 x11 x12 = funRun cmd_Put_C 3 14 [(true, [(false, .int .i64), (false, .int .i64), (false, .int .i64), (false, .str), (false, .str), (false, .int .i64), (false, .slice (.str)), (false, .slice (.int .i64)), (false, .int .i64), (false, .int .i64), (false, .int .i64), (false, .int .i64), (false, .slice (.int .u8))])] [(false, [(true, .slice (.int .u8))]), (false, [(false, .int .i64)])] cmd_Put_un [⟨.int .i64, x0⟩, ⟨.int .i64, x1⟩, ⟨.int .i64, x2⟩, ⟨.str, x3⟩, ⟨.str, x4⟩, ⟨.int .i64, x5⟩, ⟨.slice (.str), x6⟩, ⟨.slice (.int .i64), x7⟩, ⟨.int .i64, x8⟩, ⟨.int .i64, x9⟩, ⟨.int .i64, x10⟩, ⟨.int .i64, x11⟩, ⟨.slice (.int .u8), x12⟩] := congrFun (congrFun (congrFun (congrFun (congrFun (congrFun (congrFun (congrFun (congrFun (congrFun (congrFun (congrFun (congrFun (cmd_Put_ex.choose_spec) x0) x1) x2) x3) x4) x5) x6) x7) x8) x9) x10) x11) x12
theorem cmd_Put_eq (x0 : Int) (x1 : Int) (x2 : Int) (x3 : ByteArray) (x4 : ByteArray) (x5 : Int) (x6 : List ByteArray) (x7 : List Int) (x8 : Int) (x9 : Int) (x10 : Int) (x11 : Int) (x12 : List Int) : cmd_Put x0 x1 x2 x3 x4 x5 x6 x7 x8 x9 x10 x11 x12 =
  (cmd_Check x0 x1 x2 x3 x4 x5 x6 x7 x8 x9 x10 x11 x12).bind fun val0 =>
  bif val0 != 0
    then some (([]), (val0))
    else bif x0 == 1
      then (pack_Uint [IntKind.u8.wrap x0] (IntKind.u64.wrap x11)).bind fun val6 =>
        some ((val6), (0))
      else bif x0 == 2
        then (pack_Uint [IntKind.u8.wrap x0] (IntKind.u64.wrap x1)).bind fun val8 =>
          (pack_Uint val8 (IntKind.u64.wrap x2)).bind fun val10 =>
            (pack_Bytes val10 x12).bind fun val12 =>
              some ((val12), (0))
        else bif x0 == 3
          then (pack_Uint [IntKind.u8.wrap x0] (IntKind.u64.wrap x1)).bind fun val10 =>
            (pack_Uint val10 (IntKind.u64.wrap x2)).bind fun val12 =>
              (pack_Bytes val12 (bytesList x3)).bind fun val14 =>
                (vars_Put val14 x6 x7).bind fun val16 =>
                  some ((val16), (0))
          else bif x0 == 4
            then (pack_Uint [IntKind.u8.wrap x0] (IntKind.u64.wrap x1)).bind fun val12 =>
              (pack_Uint val12 (IntKind.u64.wrap x2)).bind fun val14 =>
                (pack_Uint val14 (IntKind.u64.wrap x10)).bind fun val16 =>
                  (pack_Bytes val16 (bytesList x3)).bind fun val18 =>
                    (pack_Int val18 x5).bind fun val20 =>
                      (vars_Put val20 x6 x7).bind fun val22 =>
                        some ((val22), (0))
            else bif x0 == 5
              then (pack_Uint [IntKind.u8.wrap x0] (IntKind.u64.wrap x1)).bind fun val14 =>
                (pack_Uint val14 (IntKind.u64.wrap x2)).bind fun val16 =>
                  (pack_Uint val16 (IntKind.u64.wrap x10)).bind fun val18 =>
                    (pack_Uint val18 (IntKind.u64.wrap x11)).bind fun val20 =>
                      (pack_Bytes val20 (bytesList x3)).bind fun val22 =>
                        (pack_Bytes val22 (bytesList x4)).bind fun val24 =>
                          some ((val24), (0))
              else bif x0 == 6
                then (pack_Uint [IntKind.u8.wrap x0] (IntKind.u64.wrap x1)).bind fun val16 =>
                  (pack_Uint val16 (IntKind.u64.wrap x2)).bind fun val18 =>
                    (pack_Uint val18 (IntKind.u64.wrap x8)).bind fun val20 =>
                      (pack_Bytes val20 (bytesList x4)).bind fun val22 =>
                        (vars_Put val22 x6 x7).bind fun val24 =>
                          some ((val24), (0))
                else bif x0 == 7
                  then (pack_Uint [IntKind.u8.wrap x0] (IntKind.u64.wrap x1)).bind fun val18 =>
                    (pack_Uint val18 (IntKind.u64.wrap x2)).bind fun val20 =>
                      (pack_Uint val20 (IntKind.u64.wrap x8)).bind fun val22 =>
                        (pack_Bytes val22 (bytesList x4)).bind fun val24 =>
                          some ((val24), (0))
                  else bif x0 == 8
                    then (pack_Uint [IntKind.u8.wrap x0] (IntKind.u64.wrap x1)).bind fun val20 =>
                      (pack_Uint val20 (IntKind.u64.wrap x2)).bind fun val22 =>
                        (pack_Uint val22 (IntKind.u64.wrap x8)).bind fun val24 =>
                          (pack_Uint val24 (IntKind.u64.wrap x9)).bind fun val26 =>
                            (vars_Put val26 x6 x7).bind fun val28 =>
                              some ((val28), (0))
                    else bif x0 == 9
                      then (pack_Uint [IntKind.u8.wrap x0] (IntKind.u64.wrap x1)).bind fun val22 =>
                        (pack_Uint val22 (IntKind.u64.wrap x2)).bind fun val24 =>
                          (pack_Uint val24 (IntKind.u64.wrap x8)).bind fun val26 =>
                            (pack_Uint val26 (IntKind.u64.wrap x10)).bind fun val28 =>
                              some ((val28), (0))
                      else bif x0 == 10
                        then (pack_Uint [IntKind.u8.wrap x0] (IntKind.u64.wrap x1)).bind fun val24 =>
                          (pack_Uint val24 (IntKind.u64.wrap x2)).bind fun val26 =>
                            (pack_Uint val26 (IntKind.u64.wrap x8)).bind fun val28 =>
                              some ((val28), (0))
                        else bif x0 == 11
                          then (pack_Uint [IntKind.u8.wrap x0] (IntKind.u64.wrap x8)).bind fun val26 =>
                            (pack_Uint val26 (IntKind.u64.wrap x10)).bind fun val28 =>
                              (pack_Bytes val28 x12).bind fun val30 =>
                                some ((val30), (0))
                          else bif x0 == 12
                            then (pack_Uint [IntKind.u8.wrap x0] (IntKind.u64.wrap x8)).bind fun val28 =>
                              (pack_Uint val28 (IntKind.u64.wrap x10)).bind fun val30 =>
                                some ((val30), (0))
                            else some (([IntKind.u8.wrap x0]), (0)) := (cmd_Put_raw x0 x1 x2 x3 x4 x5 x6 x7 x8 x9 x10 x11 x12).trans (by kernel_rfl)
noncomputable def cmd_Put_sig : Sig := { pm := [(true, [(false, .int .i64), (false, .int .i64), (false, .int .i64), (false, .str), (false, .str), (false, .int .i64), (false, .slice (.str)), (false, .slice (.int .i64)), (false, .int .i64), (false, .int .i64), (false, .int .i64), (false, .int .i64), (false, .slice (.int .u8))])], rm := [(false, [(true, .slice (.int .u8))]), (false, [(false, .int .i64)])], f := fun | [⟨.int .i64, x0⟩, ⟨.int .i64, x1⟩, ⟨.int .i64, x2⟩, ⟨.str, x3⟩, ⟨.str, x4⟩, ⟨.int .i64, x5⟩, ⟨.slice (.str), x6⟩, ⟨.slice (.int .i64), x7⟩, ⟨.int .i64, x8⟩, ⟨.int .i64, x9⟩, ⟨.int .i64, x10⟩, ⟨.int .i64, x11⟩, ⟨.slice (.int .u8), x12⟩] => .yes _ (cmd_Put x0 x1 x2 x3 x4 x5 x6 x7 x8 x9 x10 x11 x12) cmd_Put_mk | _ => .no }
theorem cmd_Put_ok : SigOk Try.prog 14 cmd_Put_sig := by
  refine contract_of (C := cmd_Put_C) (d := 3) ⟨S22_ok, noPs⟩ (callable_ex (by kernel_rfl)) ?_
  intro dvs
  unfold cmd_Put_sig
  dsimp only
  split
  · refine .inr ⟨_, cmd_Put_un, cmd_Put_mk, congrArg (fun o => Cl.yes _ o _) (cmd_Put_raw _ _ _ _ _ _ _ _ _ _ _ _ _), ?_⟩
    intro ds x h
    unfold cmd_Put_un at h
    split at h
    · cases h; rfl
    · cases h
  · exact .inl rfl
noncomputable def S23 : List (Nat × Sig) := (14, cmd_Put_sig) :: S22
theorem S23_ok : ListOk Try.prog S23 := ListOk.cons S22_ok cmd_Put_ok
noncomputable def command_one_C : Cfg := { P := Try.prog, sig := lookSig S23, hb := fun _ _ => none, hr := fun _ _ => none }
noncomputable def command_one_un : List DV → Option (Int × (List Int) × Int) := fun | [⟨.int .i64, r0⟩, ⟨.slice (.int .u8), r1⟩, ⟨.int .i64, r2⟩] => some (r0, r1, r2) | _ => none
noncomputable def command_one_mk : (Int × (List Int) × Int) → List DV := fun ⟨r0, r1, r2⟩ => [⟨.int .i64, r0⟩, ⟨.slice (.int .u8), r1⟩, ⟨.int .i64, r2⟩]
theorem command_one_ex : ∃ f : (List Int) → Option (Int × (List Int) × Int), f = fun (x0 : List Int) => funRun command_one_C 3 45 [(false, [(false, .slice (.int .u8))])] [(false, [(false, .int .i64)]), (false, [(false, .slice (.int .u8))]), (false, [(false, .int .i64)])] command_one_un [⟨.slice (.int .u8), x0⟩] := ⟨_, rfl⟩
noncomputable def command_one : (List Int) → Option (Int × (List Int) × Int) := command_one_ex.choose
theorem command_one_raw (x0 : List Int) : command_one x0 = funRun command_one_C 3 45 [(false, [(false, .slice (.int .u8))])] [(false, [(false, .int .i64)]), (false, [(false, .slice (.int .u8))]), (false, [(false, .int .i64)])] command_one_un [⟨.slice (.int .u8), x0⟩] := congrFun (command_one_ex.choose_spec) x0
theorem command_one_eq (x0 : List Int) : command_one x0 =
  bif ilen x0 == 0
  then some ((0), (([]), (5)))
  else (x0[Int.toNat 0]?).bind fun val2 =>
    bif decide (1 ≤ ilen x0)
      then bif decide (ilen x0 ≤ ilen x0)
        then some ((IntKind.i64.wrap val2), ((List.drop (Int.toNat 1) (List.take (ilen x0).toNat x0)), (0)))
        else none
      else none := (command_one_raw x0).trans (by kernel_rfl)
noncomputable def command_one_sig : Sig := { pm := [(false, [(false, .slice (.int .u8))])], rm := [(false, [(false, .int .i64)]), (false, [(false, .slice (.int .u8))]), (false, [(false, .int .i64)])], f := fun | [⟨.slice (.int .u8), x0⟩] => .yes _ (command_one x0) command_one_mk | _ => .no }
theorem command_one_ok : SigOk Try.prog 45 command_one_sig := by
  refine contract_of (C := command_one_C) (d := 3) ⟨S23_ok, noPs⟩ (callable_ex (by kernel_rfl)) ?_
  intro dvs
  unfold command_one_sig
  dsimp only
  split
  · refine .inr ⟨_, command_one_un, command_one_mk, congrArg (fun o => Cl.yes _ o _) (command_one_raw _), ?_⟩
    intro ds x h
    unfold command_one_un at h
    split at h
    · cases h; rfl
    · cases h
  · exact .inl rfl
noncomputable def S24 : List (Nat × Sig) := (45, command_one_sig) :: S23
theorem S24_ok : ListOk Try.prog S24 := ListOk.cons S23_ok command_one_ok
noncomputable def command_number_C : Cfg := { P := Try.prog, sig := lookSig S24, hb := fun _ _ => none, hr := fun _ _ => none }
noncomputable def command_number_un : List DV → Option (Int × (List Int) × Int) := fun | [⟨.int .i64, r0⟩, ⟨.slice (.int .u8), r1⟩, ⟨.int .i64, r2⟩] => some (r0, r1, r2) | _ => none
noncomputable def command_number_mk : (Int × (List Int) × Int) → List DV := fun ⟨r0, r1, r2⟩ => [⟨.int .i64, r0⟩, ⟨.slice (.int .u8), r1⟩, ⟨.int .i64, r2⟩]
theorem command_number_ex : ∃ f : (List Int) → Option (Int × (List Int) × Int), f = fun (x0 : List Int) => funRun command_number_C 3 47 [(false, [(false, .slice (.int .u8))])] [(false, [(false, .int .i64)]), (false, [(false, .slice (.int .u8))]), (false, [(false, .int .i64)])] command_number_un [⟨.slice (.int .u8), x0⟩] := ⟨_, rfl⟩
noncomputable def command_number : (List Int) → Option (Int × (List Int) × Int) := command_number_ex.choose
theorem command_number_raw (x0 : List Int) : command_number x0 = funRun command_number_C 3 47 [(false, [(false, .slice (.int .u8))])] [(false, [(false, .int .i64)]), (false, [(false, .slice (.int .u8))]), (false, [(false, .int .i64)])] command_number_un [⟨.slice (.int .u8), x0⟩] := congrFun (command_number_ex.choose_spec) x0
theorem command_number_eq (x0 : List Int) : command_number x0 =
  (pack_ReadUint x0).bind fun val0 =>
  bif val0.2.2 == 0
    then bif decide (val0.1 > 1099511627776)
      then some ((IntKind.i64.wrap val0.1), ((val0.2.1), (6)))
      else some ((IntKind.i64.wrap val0.1), ((val0.2.1), (val0.2.2)))
    else some ((IntKind.i64.wrap val0.1), ((val0.2.1), (val0.2.2))) := (command_number_raw x0).trans (by kernel_rfl)
noncomputable def command_number_sig : Sig := { pm := [(false, [(false, .slice (.int .u8))])], rm := [(false, [(false, .int .i64)]), (false, [(false, .slice (.int .u8))]), (false, [(false, .int .i64)])], f := fun | [⟨.slice (.int .u8), x0⟩] => .yes _ (command_number x0) command_number_mk | _ => .no }
theorem command_number_ok : SigOk Try.prog 47 command_number_sig := by
  refine contract_of (C := command_number_C) (d := 3) ⟨S24_ok, noPs⟩ (callable_ex (by kernel_rfl)) ?_
  intro dvs
  unfold command_number_sig
  dsimp only
  split
  · refine .inr ⟨_, command_number_un, command_number_mk, congrArg (fun o => Cl.yes _ o _) (command_number_raw _), ?_⟩
    intro ds x h
    unfold command_number_un at h
    split at h
    · cases h; rfl
    · cases h
  · exact .inl rfl
noncomputable def S25 : List (Nat × Sig) := (47, command_number_sig) :: S24
theorem S25_ok : ListOk Try.prog S25 := ListOk.cons S24_ok command_number_ok
noncomputable def command_word_C : Cfg := { P := Try.prog, sig := lookSig S25, hb := fun _ _ => none, hr := fun _ _ => none }
noncomputable def command_word_un : List DV → Option (ByteArray × (List Int) × Int) := fun | [⟨.str, r0⟩, ⟨.slice (.int .u8), r1⟩, ⟨.int .i64, r2⟩] => some (r0, r1, r2) | _ => none
noncomputable def command_word_mk : (ByteArray × (List Int) × Int) → List DV := fun ⟨r0, r1, r2⟩ => [⟨.str, r0⟩, ⟨.slice (.int .u8), r1⟩, ⟨.int .i64, r2⟩]
theorem command_word_ex : ∃ f : (List Int) → Option (ByteArray × (List Int) × Int), f = fun (x0 : List Int) => funRun command_word_C 3 49 [(false, [(false, .slice (.int .u8))])] [(false, [(false, .str)]), (false, [(false, .slice (.int .u8))]), (false, [(false, .int .i64)])] command_word_un [⟨.slice (.int .u8), x0⟩] := ⟨_, rfl⟩
noncomputable def command_word : (List Int) → Option (ByteArray × (List Int) × Int) := command_word_ex.choose
theorem command_word_raw (x0 : List Int) : command_word x0 = funRun command_word_C 3 49 [(false, [(false, .slice (.int .u8))])] [(false, [(false, .str)]), (false, [(false, .slice (.int .u8))]), (false, [(false, .int .i64)])] command_word_un [⟨.slice (.int .u8), x0⟩] := congrFun (command_word_ex.choose_spec) x0
theorem command_word_eq (x0 : List Int) : command_word x0 =
  (pack_ReadBytes x0).bind fun val0 =>
  some ((strOf val0.1), ((val0.2.1), (val0.2.2))) := (command_word_raw x0).trans (by kernel_rfl)
noncomputable def command_word_sig : Sig := { pm := [(false, [(false, .slice (.int .u8))])], rm := [(false, [(false, .str)]), (false, [(false, .slice (.int .u8))]), (false, [(false, .int .i64)])], f := fun | [⟨.slice (.int .u8), x0⟩] => .yes _ (command_word x0) command_word_mk | _ => .no }
theorem command_word_ok : SigOk Try.prog 49 command_word_sig := by
  refine contract_of (C := command_word_C) (d := 3) ⟨S25_ok, noPs⟩ (callable_ex (by kernel_rfl)) ?_
  intro dvs
  unfold command_word_sig
  dsimp only
  split
  · refine .inr ⟨_, command_word_un, command_word_mk, congrArg (fun o => Cl.yes _ o _) (command_word_raw _), ?_⟩
    intro ds x h
    unfold command_word_un at h
    split at h
    · cases h; rfl
    · cases h
  · exact .inl rfl
noncomputable def S26 : List (Nat × Sig) := (49, command_word_sig) :: S25
theorem S26_ok : ListOk Try.prog S26 := ListOk.cons S25_ok command_word_ok
noncomputable def cr_one_C : Cfg := { P := Try.prog, sig := lookSig S26, hb := fun _ _ => none, hr := fun _ _ => none }
noncomputable def cr_one_un : List DV → Option ((List Int) × Int × Int) := fun | [⟨.slice (.int .u8), r0⟩, ⟨.int .i64, r1⟩, ⟨.int .i64, r2⟩] => some (r0, r1, r2) | _ => none
noncomputable def cr_one_mk : ((List Int) × Int × Int) → List DV := fun ⟨r0, r1, r2⟩ => [⟨.slice (.int .u8), r0⟩, ⟨.int .i64, r1⟩, ⟨.int .i64, r2⟩]
theorem cr_one_ex : ∃ f : (List Int) → (Int) → Option ((List Int) × Int × Int), f = fun (x0 : List Int) (x1 : Int) => pRun cr_one_C 3 44 [(true, [(false, .slice (.int .u8)), (false, .int .i64)]), (false, [(false, .fn 45 (.unit))])] [(true, [(false, .slice (.int .u8)), (false, .int .i64)]), (false, [(false, .int .i64)])] cr_one_un [⟨.slice (.int .u8), x0⟩, ⟨.int .i64, x1⟩, ⟨.fn 45 (.unit), ()⟩] := ⟨_, rfl⟩
noncomputable def cr_one : (List Int) → (Int) → Option ((List Int) × Int × Int) := cr_one_ex.choose
theorem cr_one_raw (x0 : List Int) (x1 : Int) : cr_one x0 x1 = pRun cr_one_C 3 44 [(true, [(false, .slice (.int .u8)), (false, .int .i64)]), (false, [(false, .fn 45 (.unit))])] [(true, [(false, .slice (.int .u8)), (false, .int .i64)]), (false, [(false, .int .i64)])] cr_one_un [⟨.slice (.int .u8), x0⟩, ⟨.int .i64, x1⟩, ⟨.fn 45 (.unit), ()⟩] := congrFun (congrFun (cr_one_ex.choose_spec) x0) x1
theorem cr_one_eq (x0 : List Int) (x1 : Int) : cr_one x0 x1 =
  bif x1 != 0
  then some ((x0), ((x1), (0)))
  else (command_one x0).bind fun val2 =>
    bif val2.2.2 != 0
      then some ((x0), ((val2.2.2), (0)))
      else some ((val2.2.1), ((val2.2.2), (val2.1))) := (cr_one_raw x0 x1).trans (by kernel_rfl)
noncomputable def cr_one_sig : Sig := { pm := [(true, [(false, .slice (.int .u8)), (false, .int .i64)]), (false, [(false, .fn 45 (.unit))])], rm := [(true, [(false, .slice (.int .u8)), (false, .int .i64)]), (false, [(false, .int .i64)])], f := fun | [⟨.slice (.int .u8), x0⟩, ⟨.int .i64, x1⟩, ⟨.fn 45 (.unit), ()⟩] => .yes _ (cr_one x0 x1) cr_one_mk | _ => .no }
theorem cr_one_ok : PSigOk Try.prog 44 cr_one_sig := by
  refine pcontract_of (C := cr_one_C) (d := 3) ⟨S26_ok, noPs⟩ (callable_ex (by kernel_rfl)) ?_
  intro dvs
  unfold cr_one_sig
  dsimp only
  split
  · refine .inr ⟨_, cr_one_un, cr_one_mk, congrArg (fun o => Cl.yes _ o _) (cr_one_raw _ _), ?_⟩
    intro ds x h
    unfold cr_one_un at h
    split at h
    · cases h; rfl
    · cases h
  · exact .inl rfl
noncomputable def P27 : List (Nat × Sig) := (44, cr_one_sig) :: P0
theorem P27_ok : ListPOk Try.prog P27 := ListPOk.cons P0_ok cr_one_ok
noncomputable def cr_number_C : Cfg := { P := Try.prog, sig := lookSig S26, hb := fun _ _ => none, hr := fun _ _ => none, ps := lookP P27 }
noncomputable def cr_number_un : List DV → Option ((List Int) × Int × Int) := fun | [⟨.slice (.int .u8), r0⟩, ⟨.int .i64, r1⟩, ⟨.int .i64, r2⟩] => some (r0, r1, r2) | _ => none
noncomputable def cr_number_mk : ((List Int) × Int × Int) → List DV := fun ⟨r0, r1, r2⟩ => [⟨.slice (.int .u8), r0⟩, ⟨.int .i64, r1⟩, ⟨.int .i64, r2⟩]
theorem cr_number_ex : ∃ f : (List Int) → (Int) → Option ((List Int) × Int × Int), f = fun (x0 : List Int) (x1 : Int) => pRun cr_number_C 3 44 [(true, [(false, .slice (.int .u8)), (false, .int .i64)]), (false, [(false, .fn 47 (.unit))])] [(true, [(false, .slice (.int .u8)), (false, .int .i64)]), (false, [(false, .int .i64)])] cr_number_un [⟨.slice (.int .u8), x0⟩, ⟨.int .i64, x1⟩, ⟨.fn 47 (.unit), ()⟩] := ⟨_, rfl⟩
noncomputable def cr_number : (List Int) → (Int) → Option ((List Int) × Int × Int) := cr_number_ex.choose
theorem cr_number_raw (x0 : List Int) (x1 : Int) : cr_number x0 x1 = pRun cr_number_C 3 44 [(true, [(false, .slice (.int .u8)), (false, .int .i64)]), (false, [(false, .fn 47 (.unit))])] [(true, [(false, .slice (.int .u8)), (false, .int .i64)]), (false, [(false, .int .i64)])] cr_number_un [⟨.slice (.int .u8), x0⟩, ⟨.int .i64, x1⟩, ⟨.fn 47 (.unit), ()⟩] := congrFun (congrFun (cr_number_ex.choose_spec) x0) x1
theorem cr_number_eq (x0 : List Int) (x1 : Int) : cr_number x0 x1 =
  bif x1 != 0
  then some ((x0), ((x1), (0)))
  else (command_number x0).bind fun val2 =>
    bif val2.2.2 != 0
      then some ((x0), ((val2.2.2), (0)))
      else some ((val2.2.1), ((val2.2.2), (val2.1))) := (cr_number_raw x0 x1).trans (by kernel_rfl)
noncomputable def cr_number_sig : Sig := { pm := [(true, [(false, .slice (.int .u8)), (false, .int .i64)]), (false, [(false, .fn 47 (.unit))])], rm := [(true, [(false, .slice (.int .u8)), (false, .int .i64)]), (false, [(false, .int .i64)])], f := fun | [⟨.slice (.int .u8), x0⟩, ⟨.int .i64, x1⟩, ⟨.fn 47 (.unit), ()⟩] => .yes _ (cr_number x0 x1) cr_number_mk | _ => .no }
theorem cr_number_ok : PSigOk Try.prog 44 cr_number_sig := by
  refine pcontract_of (C := cr_number_C) (d := 3) ⟨S26_ok, P27_ok⟩ (callable_ex (by kernel_rfl)) ?_
  intro dvs
  unfold cr_number_sig
  dsimp only
  split
  · refine .inr ⟨_, cr_number_un, cr_number_mk, congrArg (fun o => Cl.yes _ o _) (cr_number_raw _ _), ?_⟩
    intro ds x h
    unfold cr_number_un at h
    split at h
    · cases h; rfl
    · cases h
  · exact .inl rfl
noncomputable def P28 : List (Nat × Sig) := (44, cr_number_sig) :: P27
theorem P28_ok : ListPOk Try.prog P28 := ListPOk.cons P27_ok cr_number_ok
noncomputable def cr_word_C : Cfg := { P := Try.prog, sig := lookSig S26, hb := fun _ _ => none, hr := fun _ _ => none, ps := lookP P28 }
noncomputable def cr_word_un : List DV → Option ((List Int) × Int × ByteArray) := fun | [⟨.slice (.int .u8), r0⟩, ⟨.int .i64, r1⟩, ⟨.str, r2⟩] => some (r0, r1, r2) | _ => none
noncomputable def cr_word_mk : ((List Int) × Int × ByteArray) → List DV := fun ⟨r0, r1, r2⟩ => [⟨.slice (.int .u8), r0⟩, ⟨.int .i64, r1⟩, ⟨.str, r2⟩]
theorem cr_word_ex : ∃ f : (List Int) → (Int) → Option ((List Int) × Int × ByteArray), f = fun (x0 : List Int) (x1 : Int) => pRun cr_word_C 3 48 [(true, [(false, .slice (.int .u8)), (false, .int .i64)]), (false, [(false, .fn 49 (.unit))])] [(true, [(false, .slice (.int .u8)), (false, .int .i64)]), (false, [(false, .str)])] cr_word_un [⟨.slice (.int .u8), x0⟩, ⟨.int .i64, x1⟩, ⟨.fn 49 (.unit), ()⟩] := ⟨_, rfl⟩
noncomputable def cr_word : (List Int) → (Int) → Option ((List Int) × Int × ByteArray) := cr_word_ex.choose
theorem cr_word_raw (x0 : List Int) (x1 : Int) : cr_word x0 x1 = pRun cr_word_C 3 48 [(true, [(false, .slice (.int .u8)), (false, .int .i64)]), (false, [(false, .fn 49 (.unit))])] [(true, [(false, .slice (.int .u8)), (false, .int .i64)]), (false, [(false, .str)])] cr_word_un [⟨.slice (.int .u8), x0⟩, ⟨.int .i64, x1⟩, ⟨.fn 49 (.unit), ()⟩] := congrFun (congrFun (cr_word_ex.choose_spec) x0) x1
theorem cr_word_eq (x0 : List Int) (x1 : Int) : cr_word x0 x1 =
  bif x1 != 0
  then some ((x0), ((x1), ((⟨#[]⟩ : ByteArray))))
  else (command_word x0).bind fun val2 =>
    bif val2.2.2 != 0
      then some ((x0), ((val2.2.2), ((⟨#[]⟩ : ByteArray))))
      else some ((val2.2.1), ((val2.2.2), (val2.1))) := (cr_word_raw x0 x1).trans (by kernel_rfl)
noncomputable def cr_word_sig : Sig := { pm := [(true, [(false, .slice (.int .u8)), (false, .int .i64)]), (false, [(false, .fn 49 (.unit))])], rm := [(true, [(false, .slice (.int .u8)), (false, .int .i64)]), (false, [(false, .str)])], f := fun | [⟨.slice (.int .u8), x0⟩, ⟨.int .i64, x1⟩, ⟨.fn 49 (.unit), ()⟩] => .yes _ (cr_word x0 x1) cr_word_mk | _ => .no }
theorem cr_word_ok : PSigOk Try.prog 48 cr_word_sig := by
  refine pcontract_of (C := cr_word_C) (d := 3) ⟨S26_ok, P28_ok⟩ (callable_ex (by kernel_rfl)) ?_
  intro dvs
  unfold cr_word_sig
  dsimp only
  split
  · refine .inr ⟨_, cr_word_un, cr_word_mk, congrArg (fun o => Cl.yes _ o _) (cr_word_raw _ _), ?_⟩
    intro ds x h
    unfold cr_word_un at h
    split at h
    · cases h; rfl
    · cases h
  · exact .inl rfl
noncomputable def P29 : List (Nat × Sig) := (48, cr_word_sig) :: P28
theorem P29_ok : ListPOk Try.prog P29 := ListPOk.cons P28_ok cr_word_ok
noncomputable def cr_int_C : Cfg := { P := Try.prog, sig := lookSig S26, hb := fun _ _ => none, hr := fun _ _ => none, ps := lookP P29 }
noncomputable def cr_int_un : List DV → Option ((List Int) × Int × Int) := fun | [⟨.slice (.int .u8), r0⟩, ⟨.int .i64, r1⟩, ⟨.int .i64, r2⟩] => some (r0, r1, r2) | _ => none
noncomputable def cr_int_mk : ((List Int) × Int × Int) → List DV := fun ⟨r0, r1, r2⟩ => [⟨.slice (.int .u8), r0⟩, ⟨.int .i64, r1⟩, ⟨.int .i64, r2⟩]
theorem cr_int_ex : ∃ f : (List Int) → (Int) → Option ((List Int) × Int × Int), f = fun (x0 : List Int) (x1 : Int) => pRun cr_int_C 3 50 [(true, [(false, .slice (.int .u8)), (false, .int .i64)]), (false, [(false, .fn 51 (.unit))])] [(true, [(false, .slice (.int .u8)), (false, .int .i64)]), (false, [(false, .int .i64)])] cr_int_un [⟨.slice (.int .u8), x0⟩, ⟨.int .i64, x1⟩, ⟨.fn 51 (.unit), ()⟩] := ⟨_, rfl⟩
noncomputable def cr_int : (List Int) → (Int) → Option ((List Int) × Int × Int) := cr_int_ex.choose
theorem cr_int_raw (x0 : List Int) (x1 : Int) : cr_int x0 x1 = pRun cr_int_C 3 50 [(true, [(false, .slice (.int .u8)), (false, .int .i64)]), (false, [(false, .fn 51 (.unit))])] [(true, [(false, .slice (.int .u8)), (false, .int .i64)]), (false, [(false, .int .i64)])] cr_int_un [⟨.slice (.int .u8), x0⟩, ⟨.int .i64, x1⟩, ⟨.fn 51 (.unit), ()⟩] := congrFun (congrFun (cr_int_ex.choose_spec) x0) x1
theorem cr_int_eq (x0 : List Int) (x1 : Int) : cr_int x0 x1 =
  bif x1 != 0
  then some ((x0), ((x1), (0)))
  else (pack_ReadInt x0).bind fun val2 =>
    bif val2.2.2 != 0
      then some ((x0), ((val2.2.2), (0)))
      else some ((val2.2.1), ((val2.2.2), (val2.1))) := (cr_int_raw x0 x1).trans (by kernel_rfl)
noncomputable def cr_int_sig : Sig := { pm := [(true, [(false, .slice (.int .u8)), (false, .int .i64)]), (false, [(false, .fn 51 (.unit))])], rm := [(true, [(false, .slice (.int .u8)), (false, .int .i64)]), (false, [(false, .int .i64)])], f := fun | [⟨.slice (.int .u8), x0⟩, ⟨.int .i64, x1⟩, ⟨.fn 51 (.unit), ()⟩] => .yes _ (cr_int x0 x1) cr_int_mk | _ => .no }
theorem cr_int_ok : PSigOk Try.prog 50 cr_int_sig := by
  refine pcontract_of (C := cr_int_C) (d := 3) ⟨S26_ok, P29_ok⟩ (callable_ex (by kernel_rfl)) ?_
  intro dvs
  unfold cr_int_sig
  dsimp only
  split
  · refine .inr ⟨_, cr_int_un, cr_int_mk, congrArg (fun o => Cl.yes _ o _) (cr_int_raw _ _), ?_⟩
    intro ds x h
    unfold cr_int_un at h
    split at h
    · cases h; rfl
    · cases h
  · exact .inl rfl
noncomputable def P30 : List (Nat × Sig) := (50, cr_int_sig) :: P29
theorem P30_ok : ListPOk Try.prog P30 := ListPOk.cons P29_ok cr_int_ok
noncomputable def cr_vars_C : Cfg := { P := Try.prog, sig := lookSig S26, hb := fun _ _ => none, hr := fun _ _ => none, ps := lookP P30 }
noncomputable def cr_vars_un : List DV → Option ((List Int) × Int × (List ByteArray) × (List Int)) := fun | [⟨.slice (.int .u8), r0⟩, ⟨.int .i64, r1⟩, ⟨.slice (.str), r2⟩, ⟨.slice (.int .i64), r3⟩] => some (r0, r1, r2, r3) | _ => none
noncomputable def cr_vars_mk : ((List Int) × Int × (List ByteArray) × (List Int)) → List DV := fun ⟨r0, r1, r2, r3⟩ => [⟨.slice (.int .u8), r0⟩, ⟨.int .i64, r1⟩, ⟨.slice (.str), r2⟩, ⟨.slice (.int .i64), r3⟩]
theorem cr_vars_ex : ∃ f : (List Int) → (Int) → Option ((List Int) × Int × (List ByteArray) × (List Int)), f = fun (x0 : List Int) (x1 : Int) => pRun cr_vars_C 3 52 [(true, [(false, .slice (.int .u8)), (false, .int .i64)]), (false, [(false, .fn 53 (.unit))])] [(true, [(false, .slice (.int .u8)), (false, .int .i64)]), (true, [(false, .slice (.str)), (false, .slice (.int .i64))])] cr_vars_un [⟨.slice (.int .u8), x0⟩, ⟨.int .i64, x1⟩, ⟨.fn 53 (.unit), ()⟩] := ⟨_, rfl⟩
noncomputable def cr_vars : (List Int) → (Int) → Option ((List Int) × Int × (List ByteArray) × (List Int)) := cr_vars_ex.choose
theorem cr_vars_raw (x0 : List Int) (x1 : Int) : cr_vars x0 x1 = pRun cr_vars_C 3 52 [(true, [(false, .slice (.int .u8)), (false, .int .i64)]), (false, [(false, .fn 53 (.unit))])] [(true, [(false, .slice (.int .u8)), (false, .int .i64)]), (true, [(false, .slice (.str)), (false, .slice (.int .i64))])] cr_vars_un [⟨.slice (.int .u8), x0⟩, ⟨.int .i64, x1⟩, ⟨.fn 53 (.unit), ()⟩] := congrFun (congrFun (cr_vars_ex.choose_spec) x0) x1
theorem cr_vars_eq (x0 : List Int) (x1 : Int) : cr_vars x0 x1 =
  bif x1 != 0
  then some ((x0), ((x1), (([]), ([]))))
  else (vars_Read x0).bind fun val2 =>
    bif val2.2.2.2 != 0
      then some ((x0), ((val2.2.2.2), (([]), ([]))))
      else some ((val2.2.2.1), ((val2.2.2.2), ((val2.1), (val2.2.1)))) := (cr_vars_raw x0 x1).trans (by kernel_rfl)
noncomputable def cr_vars_sig : Sig := { pm := [(true, [(false, .slice (.int .u8)), (false, .int .i64)]), (false, [(false, .fn 53 (.unit))])], rm := [(true, [(false, .slice (.int .u8)), (false, .int .i64)]), (true, [(false, .slice (.str)), (false, .slice (.int .i64))])], f := fun | [⟨.slice (.int .u8), x0⟩, ⟨.int .i64, x1⟩, ⟨.fn 53 (.unit), ()⟩] => .yes _ (cr_vars x0 x1) cr_vars_mk | _ => .no }
theorem cr_vars_ok : PSigOk Try.prog 52 cr_vars_sig := by
  refine pcontract_of (C := cr_vars_C) (d := 3) ⟨S26_ok, P30_ok⟩ (callable_ex (by kernel_rfl)) ?_
  intro dvs
  unfold cr_vars_sig
  dsimp only
  split
  · refine .inr ⟨_, cr_vars_un, cr_vars_mk, congrArg (fun o => Cl.yes _ o _) (cr_vars_raw _ _), ?_⟩
    intro ds x h
    unfold cr_vars_un at h
    split at h
    · cases h; rfl
    · cases h
  · exact .inl rfl
noncomputable def P31 : List (Nat × Sig) := (52, cr_vars_sig) :: P30
theorem P31_ok : ListPOk Try.prog P31 := ListPOk.cons P30_ok cr_vars_ok
noncomputable def cr_bytes_C : Cfg := { P := Try.prog, sig := lookSig S26, hb := fun _ _ => none, hr := fun _ _ => none, ps := lookP P31 }
noncomputable def cr_bytes_un : List DV → Option ((List Int) × Int × (List Int)) := fun | [⟨.slice (.int .u8), r0⟩, ⟨.int .i64, r1⟩, ⟨.slice (.int .u8), r2⟩] => some (r0, r1, r2) | _ => none
noncomputable def cr_bytes_mk : ((List Int) × Int × (List Int)) → List DV := fun ⟨r0, r1, r2⟩ => [⟨.slice (.int .u8), r0⟩, ⟨.int .i64, r1⟩, ⟨.slice (.int .u8), r2⟩]
theorem cr_bytes_ex : ∃ f : (List Int) → (Int) → Option ((List Int) × Int × (List Int)), f = fun (x0 : List Int) (x1 : Int) => pRun cr_bytes_C 3 55 [(true, [(false, .slice (.int .u8)), (false, .int .i64)]), (false, [(false, .fn 56 (.unit))])] [(true, [(false, .slice (.int .u8)), (false, .int .i64)]), (false, [(false, .slice (.int .u8))])] cr_bytes_un [⟨.slice (.int .u8), x0⟩, ⟨.int .i64, x1⟩, ⟨.fn 56 (.unit), ()⟩] := ⟨_, rfl⟩
noncomputable def cr_bytes : (List Int) → (Int) → Option ((List Int) × Int × (List Int)) := cr_bytes_ex.choose
theorem cr_bytes_raw (x0 : List Int) (x1 : Int) : cr_bytes x0 x1 = pRun cr_bytes_C 3 55 [(true, [(false, .slice (.int .u8)), (false, .int .i64)]), (false, [(false, .fn 56 (.unit))])] [(true, [(false, .slice (.int .u8)), (false, .int .i64)]), (false, [(false, .slice (.int .u8))])] cr_bytes_un [⟨.slice (.int .u8), x0⟩, ⟨.int .i64, x1⟩, ⟨.fn 56 (.unit), ()⟩] := congrFun (congrFun (cr_bytes_ex.choose_spec) x0) x1
theorem cr_bytes_eq (x0 : List Int) (x1 : Int) : cr_bytes x0 x1 =
  bif x1 != 0
  then some ((x0), ((x1), ([])))
  else (pack_ReadBytes x0).bind fun val2 =>
    bif val2.2.2 != 0
      then some ((x0), ((val2.2.2), ([])))
      else some ((val2.2.1), ((val2.2.2), (val2.1))) := (cr_bytes_raw x0 x1).trans (by kernel_rfl)
noncomputable def cr_bytes_sig : Sig := { pm := [(true, [(false, .slice (.int .u8)), (false, .int .i64)]), (false, [(false, .fn 56 (.unit))])], rm := [(true, [(false, .slice (.int .u8)), (false, .int .i64)]), (false, [(false, .slice (.int .u8))])], f := fun | [⟨.slice (.int .u8), x0⟩, ⟨.int .i64, x1⟩, ⟨.fn 56 (.unit), ()⟩] => .yes _ (cr_bytes x0 x1) cr_bytes_mk | _ => .no }
theorem cr_bytes_ok : PSigOk Try.prog 55 cr_bytes_sig := by
  refine pcontract_of (C := cr_bytes_C) (d := 3) ⟨S26_ok, P31_ok⟩ (callable_ex (by kernel_rfl)) ?_
  intro dvs
  unfold cr_bytes_sig
  dsimp only
  split
  · refine .inr ⟨_, cr_bytes_un, cr_bytes_mk, congrArg (fun o => Cl.yes _ o _) (cr_bytes_raw _ _), ?_⟩
    intro ds x h
    unfold cr_bytes_un at h
    split at h
    · cases h; rfl
    · cases h
  · exact .inl rfl
noncomputable def P32 : List (Nat × Sig) := (55, cr_bytes_sig) :: P31
theorem P32_ok : ListPOk Try.prog P32 := ListPOk.cons P31_ok cr_bytes_ok
noncomputable def cr_jobs_C : Cfg := { P := Try.prog, sig := lookSig S26, hb := fun _ _ => none, hr := fun _ _ => none, ps := lookP P32 }
noncomputable def cr_jobs_un : List DV → Option ((List Int) × Int × (List (Int × Int × Int × ByteArray × Int × ByteArray × Int))) := fun | [⟨.slice (.int .u8), r0⟩, ⟨.int .i64, r1⟩, ⟨.slice (.pair (.int .i64) (.pair (.int .i64) (.pair (.int .i64) (.pair (.str) (.pair (.int .i64) (.pair (.str) (.int .i64))))))), r2⟩] => some (r0, r1, r2) | _ => none
noncomputable def cr_jobs_mk : ((List Int) × Int × (List (Int × Int × Int × ByteArray × Int × ByteArray × Int))) → List DV := fun ⟨r0, r1, r2⟩ => [⟨.slice (.int .u8), r0⟩, ⟨.int .i64, r1⟩, ⟨.slice (.pair (.int .i64) (.pair (.int .i64) (.pair (.int .i64) (.pair (.str) (.pair (.int .i64) (.pair (.str) (.int .i64))))))), r2⟩]
theorem cr_jobs_ex : ∃ f : (List Int) → (Int) → Option ((List Int) × Int × (List (Int × Int × Int × ByteArray × Int × ByteArray × Int))), f = fun (x0 : List Int) (x1 : Int) => pRun cr_jobs_C 3 58 [(true, [(false, .slice (.int .u8)), (false, .int .i64)]), (false, [(false, .fn 59 (.unit))])] [(true, [(false, .slice (.int .u8)), (false, .int .i64)]), (false, [(false, .slice (.pair (.int .i64) (.pair (.int .i64) (.pair (.int .i64) (.pair (.str) (.pair (.int .i64) (.pair (.str) (.int .i64))))))))])] cr_jobs_un [⟨.slice (.int .u8), x0⟩, ⟨.int .i64, x1⟩, ⟨.fn 59 (.unit), ()⟩] := ⟨_, rfl⟩
noncomputable def cr_jobs : (List Int) → (Int) → Option ((List Int) × Int × (List (Int × Int × Int × ByteArray × Int × ByteArray × Int))) := cr_jobs_ex.choose
theorem cr_jobs_raw (x0 : List Int) (x1 : Int) : cr_jobs x0 x1 = pRun cr_jobs_C 3 58 [(true, [(false, .slice (.int .u8)), (false, .int .i64)]), (false, [(false, .fn 59 (.unit))])] [(true, [(false, .slice (.int .u8)), (false, .int .i64)]), (false, [(false, .slice (.pair (.int .i64) (.pair (.int .i64) (.pair (.int .i64) (.pair (.str) (.pair (.int .i64) (.pair (.str) (.int .i64))))))))])] cr_jobs_un [⟨.slice (.int .u8), x0⟩, ⟨.int .i64, x1⟩, ⟨.fn 59 (.unit), ()⟩] := congrFun (congrFun (cr_jobs_ex.choose_spec) x0) x1
theorem cr_jobs_eq (x0 : List Int) (x1 : Int) : cr_jobs x0 x1 =
  bif x1 != 0
  then some ((x0), ((x1), ([])))
  else (jobs_Read x0).bind fun val2 =>
    bif val2.2.2 != 0
      then some ((x0), ((val2.2.2), ([])))
      else some ((val2.2.1), ((val2.2.2), (val2.1))) := (cr_jobs_raw x0 x1).trans (by kernel_rfl)
noncomputable def cr_jobs_sig : Sig := { pm := [(true, [(false, .slice (.int .u8)), (false, .int .i64)]), (false, [(false, .fn 59 (.unit))])], rm := [(true, [(false, .slice (.int .u8)), (false, .int .i64)]), (false, [(false, .slice (.pair (.int .i64) (.pair (.int .i64) (.pair (.int .i64) (.pair (.str) (.pair (.int .i64) (.pair (.str) (.int .i64))))))))])], f := fun | [⟨.slice (.int .u8), x0⟩, ⟨.int .i64, x1⟩, ⟨.fn 59 (.unit), ()⟩] => .yes _ (cr_jobs x0 x1) cr_jobs_mk | _ => .no }
theorem cr_jobs_ok : PSigOk Try.prog 58 cr_jobs_sig := by
  refine pcontract_of (C := cr_jobs_C) (d := 3) ⟨S26_ok, P32_ok⟩ (callable_ex (by kernel_rfl)) ?_
  intro dvs
  unfold cr_jobs_sig
  dsimp only
  split
  · refine .inr ⟨_, cr_jobs_un, cr_jobs_mk, congrArg (fun o => Cl.yes _ o _) (cr_jobs_raw _ _), ?_⟩
    intro ds x h
    unfold cr_jobs_un at h
    split at h
    · cases h; rfl
    · cases h
  · exact .inl rfl
noncomputable def P33 : List (Nat × Sig) := (58, cr_jobs_sig) :: P32
theorem P33_ok : ListPOk Try.prog P33 := ListPOk.cons P32_ok cr_jobs_ok
noncomputable def cmd_Read_C : Cfg := { P := Try.prog, sig := lookSig S26, hb := fun _ _ => none, hr := fun _ _ => none, ps := lookP P33 }
noncomputable def cmd_Read_un : List DV → Option (Int × Int × Int × ByteArray × ByteArray × Int × (List ByteArray) × (List Int) × Int × Int × Int × Int × (List Int) × Int) := fun | [⟨.int .i64, r0⟩, ⟨.int .i64, r1⟩, ⟨.int .i64, r2⟩, ⟨.str, r3⟩, ⟨.str, r4⟩, ⟨.int .i64, r5⟩, ⟨.slice (.str), r6⟩, ⟨.slice (.int .i64), r7⟩, ⟨.int .i64, r8⟩, ⟨.int .i64, r9⟩, ⟨.int .i64, r10⟩, ⟨.int .i64, r11⟩, ⟨.slice (.int .u8), r12⟩, ⟨.int .i64, r13⟩] => some (r0, r1, r2, r3, r4, r5, r6, r7, r8, r9, r10, r11, r12, r13) | _ => none
noncomputable def cmd_Read_mk : (Int × Int × Int × ByteArray × ByteArray × Int × (List ByteArray) × (List Int) × Int × Int × Int × Int × (List Int) × Int) → List DV := fun ⟨r0, r1, r2, r3, r4, r5, r6, r7, r8, r9, r10, r11, r12, r13⟩ => [⟨.int .i64, r0⟩, ⟨.int .i64, r1⟩, ⟨.int .i64, r2⟩, ⟨.str, r3⟩, ⟨.str, r4⟩, ⟨.int .i64, r5⟩, ⟨.slice (.str), r6⟩, ⟨.slice (.int .i64), r7⟩, ⟨.int .i64, r8⟩, ⟨.int .i64, r9⟩, ⟨.int .i64, r10⟩, ⟨.int .i64, r11⟩, ⟨.slice (.int .u8), r12⟩, ⟨.int .i64, r13⟩]
theorem cmd_Read_ex : ∃ f : (List Int) → Option (Int × Int × Int × ByteArray × ByteArray × Int × (List ByteArray) × (List Int) × Int × Int × Int × Int × (List Int) × Int), f = fun (x0 : List Int) => funRun cmd_Read_C 3 17 [(false, [(false, .slice (.int .u8))])] [(true, [(false, .int .i64), (false, .int .i64), (false, .int .i64), (false, .str), (false, .str), (false, .int .i64), (false, .slice (.str)), (false, .slice (.int .i64)), (false, .int .i64), (false, .int .i64), (false, .int .i64), (false, .int .i64), (false, .slice (.int .u8))]), (false, [(false, .int .i64)])] cmd_Read_un [⟨.slice (.int .u8), x0⟩] := ⟨_, rfl⟩
noncomputable def cmd_Read : (List Int) → Option (Int × Int × Int × ByteArray × ByteArray × Int × (List ByteArray) × (List Int) × Int × Int × Int × Int × (List Int) × Int) := cmd_Read_ex.choose
theorem cmd_Read_raw (x0 : List Int) : cmd_Read x0 = funRun cmd_Read_C 3 17 [(false, [(false, .slice (.int .u8))])] [(true, [(false, .int .i64), (false, .int .i64), (false, .int .i64), (false, .str), (false, .str), (false, .int .i64), (false, .slice (.str)), (false, .slice (.int .i64)), (false, .int .i64), (false, .int .i64), (false, .int .i64), (false, .int .i64), (false, .slice (.int .u8))]), (false, [(false, .int .i64)])] cmd_Read_un [⟨.slice (.int .u8), x0⟩] := congrFun (cmd_Read_ex.choose_spec) x0
theorem cmd_Read_eq (x0 : List Int) : cmd_Read x0 =
  (cr_one x0 0).bind fun val0 =>
  bif val0.2.2 == 1
    then bif val0.2.1 == 0
      then (cr_number val0.1 val0.2.1).bind fun val6 =>
        bif val6.2.1 == 0
          then bif decide (ilen val6.1 > 0)
            then some ((0), ((0), ((0), (((⟨#[]⟩ : ByteArray)), (((⟨#[]⟩ : ByteArray)), ((0), (([]), (([]), ((0), ((0), ((0), ((0), (([]), (3))))))))))))))
            else bif val6.2.1 == 0
              then (cmd_Check val0.2.2 0 0 (⟨#[]⟩ : ByteArray) (⟨#[]⟩ : ByteArray) 0 [] [] 0 0 0 val6.2.2 []).bind fun val14 =>
                bif val14 != 0
                  then some ((0), ((0), ((0), (((⟨#[]⟩ : ByteArray)), (((⟨#[]⟩ : ByteArray)), ((0), (([]), (([]), ((0), ((0), ((0), ((0), (([]), (val14))))))))))))))
                  else some ((val0.2.2), ((0), ((0), (((⟨#[]⟩ : ByteArray)), (((⟨#[]⟩ : ByteArray)), ((0), (([]), (([]), ((0), ((0), ((0), ((val6.2.2), (([]), (0))))))))))))))
              else bif val6.2.1 != 0
                then some ((0), ((0), ((0), (((⟨#[]⟩ : ByteArray)), (((⟨#[]⟩ : ByteArray)), ((0), (([]), (([]), ((0), ((0), ((0), ((0), (([]), (val6.2.1))))))))))))))
                else some ((val0.2.2), ((0), ((0), (((⟨#[]⟩ : ByteArray)), (((⟨#[]⟩ : ByteArray)), ((0), (([]), (([]), ((0), ((0), ((0), ((val6.2.2), (([]), (0))))))))))))))
          else bif val6.2.1 == 0
            then (cmd_Check val0.2.2 0 0 (⟨#[]⟩ : ByteArray) (⟨#[]⟩ : ByteArray) 0 [] [] 0 0 0 val6.2.2 []).bind fun val12 =>
              bif val12 != 0
                then some ((0), ((0), ((0), (((⟨#[]⟩ : ByteArray)), (((⟨#[]⟩ : ByteArray)), ((0), (([]), (([]), ((0), ((0), ((0), ((0), (([]), (val12))))))))))))))
                else some ((val0.2.2), ((0), ((0), (((⟨#[]⟩ : ByteArray)), (((⟨#[]⟩ : ByteArray)), ((0), (([]), (([]), ((0), ((0), ((0), ((val6.2.2), (([]), (0))))))))))))))
            else bif val6.2.1 != 0
              then some ((0), ((0), ((0), (((⟨#[]⟩ : ByteArray)), (((⟨#[]⟩ : ByteArray)), ((0), (([]), (([]), ((0), ((0), ((0), ((0), (([]), (val6.2.1))))))))))))))
              else some ((val0.2.2), ((0), ((0), (((⟨#[]⟩ : ByteArray)), (((⟨#[]⟩ : ByteArray)), ((0), (([]), (([]), ((0), ((0), ((0), ((val6.2.2), (([]), (0))))))))))))))
      else (cr_number val0.1 val0.2.1).bind fun val6 =>
        bif val6.2.1 == 0
          then bif decide (ilen val6.1 > 0)
            then some ((0), ((0), ((0), (((⟨#[]⟩ : ByteArray)), (((⟨#[]⟩ : ByteArray)), ((0), (([]), (([]), ((0), ((0), ((0), ((0), (([]), (3))))))))))))))
            else bif val6.2.1 == 0
              then (cmd_Check val0.2.2 0 0 (⟨#[]⟩ : ByteArray) (⟨#[]⟩ : ByteArray) 0 [] [] 0 0 0 val6.2.2 []).bind fun val14 =>
                bif val14 != 0
                  then some ((0), ((0), ((0), (((⟨#[]⟩ : ByteArray)), (((⟨#[]⟩ : ByteArray)), ((0), (([]), (([]), ((0), ((0), ((0), ((0), (([]), (val14))))))))))))))
                  else some ((val0.2.2), ((0), ((0), (((⟨#[]⟩ : ByteArray)), (((⟨#[]⟩ : ByteArray)), ((0), (([]), (([]), ((0), ((0), ((0), ((val6.2.2), (([]), (0))))))))))))))
              else bif val6.2.1 != 0
                then some ((0), ((0), ((0), (((⟨#[]⟩ : ByteArray)), (((⟨#[]⟩ : ByteArray)), ((0), (([]), (([]), ((0), ((0), ((0), ((0), (([]), (val6.2.1))))))))))))))
                else some ((val0.2.2), ((0), ((0), (((⟨#[]⟩ : ByteArray)), (((⟨#[]⟩ : ByteArray)), ((0), (([]), (([]), ((0), ((0), ((0), ((val6.2.2), (([]), (0))))))))))))))
          else bif val6.2.1 == 0
            then (cmd_Check val0.2.2 0 0 (⟨#[]⟩ : ByteArray) (⟨#[]⟩ : ByteArray) 0 [] [] 0 0 0 val6.2.2 []).bind fun val12 =>
              bif val12 != 0
                then some ((0), ((0), ((0), (((⟨#[]⟩ : ByteArray)), (((⟨#[]⟩ : ByteArray)), ((0), (([]), (([]), ((0), ((0), ((0), ((0), (([]), (val12))))))))))))))
                else some ((val0.2.2), ((0), ((0), (((⟨#[]⟩ : ByteArray)), (((⟨#[]⟩ : ByteArray)), ((0), (([]), (([]), ((0), ((0), ((0), ((val6.2.2), (([]), (0))))))))))))))
            else bif val6.2.1 != 0
              then some ((0), ((0), ((0), (((⟨#[]⟩ : ByteArray)), (((⟨#[]⟩ : ByteArray)), ((0), (([]), (([]), ((0), ((0), ((0), ((0), (([]), (val6.2.1))))))))))))))
              else some ((val0.2.2), ((0), ((0), (((⟨#[]⟩ : ByteArray)), (((⟨#[]⟩ : ByteArray)), ((0), (([]), (([]), ((0), ((0), ((0), ((val6.2.2), (([]), (0))))))))))))))
    else bif val0.2.2 == 2
      then bif val0.2.1 == 0
        then (cr_number val0.1 val0.2.1).bind fun val8 =>
          (cr_number val8.1 val8.2.1).bind fun val10 =>
            (cr_bytes val10.1 val10.2.1).bind fun val12 =>
              (cmd_CloneB val12.2.2).bind fun val14 =>
                bif val12.2.1 == 0
                  then bif decide (ilen val12.1 > 0)
                    then some ((0), ((0), ((0), (((⟨#[]⟩ : ByteArray)), (((⟨#[]⟩ : ByteArray)), ((0), (([]), (([]), ((0), ((0), ((0), ((0), (([]), (3))))))))))))))
                    else bif val12.2.1 == 0
                      then (cmd_Check val0.2.2 val8.2.2 val10.2.2 (⟨#[]⟩ : ByteArray) (⟨#[]⟩ : ByteArray) 0 [] [] 0 0 0 0 val14).bind fun val22 =>
                        bif val22 != 0
                          then some ((0), ((0), ((0), (((⟨#[]⟩ : ByteArray)), (((⟨#[]⟩ : ByteArray)), ((0), (([]), (([]), ((0), ((0), ((0), ((0), (([]), (val22))))))))))))))
                          else some ((val0.2.2), ((val8.2.2), ((val10.2.2), (((⟨#[]⟩ : ByteArray)), (((⟨#[]⟩ : ByteArray)), ((0), (([]), (([]), ((0), ((0), ((0), ((0), ((val14), (0))))))))))))))
                      else bif val12.2.1 != 0
                        then some ((0), ((0), ((0), (((⟨#[]⟩ : ByteArray)), (((⟨#[]⟩ : ByteArray)), ((0), (([]), (([]), ((0), ((0), ((0), ((0), (([]), (val12.2.1))))))))))))))
                        else some ((val0.2.2), ((val8.2.2), ((val10.2.2), (((⟨#[]⟩ : ByteArray)), (((⟨#[]⟩ : ByteArray)), ((0), (([]), (([]), ((0), ((0), ((0), ((0), ((val14), (0))))))))))))))
                  else bif val12.2.1 == 0
                    then (cmd_Check val0.2.2 val8.2.2 val10.2.2 (⟨#[]⟩ : ByteArray) (⟨#[]⟩ : ByteArray) 0 [] [] 0 0 0 0 val14).bind fun val20 =>
                      bif val20 != 0
                        then some ((0), ((0), ((0), (((⟨#[]⟩ : ByteArray)), (((⟨#[]⟩ : ByteArray)), ((0), (([]), (([]), ((0), ((0), ((0), ((0), (([]), (val20))))))))))))))
                        else some ((val0.2.2), ((val8.2.2), ((val10.2.2), (((⟨#[]⟩ : ByteArray)), (((⟨#[]⟩ : ByteArray)), ((0), (([]), (([]), ((0), ((0), ((0), ((0), ((val14), (0))))))))))))))
                    else bif val12.2.1 != 0
                      then some ((0), ((0), ((0), (((⟨#[]⟩ : ByteArray)), (((⟨#[]⟩ : ByteArray)), ((0), (([]), (([]), ((0), ((0), ((0), ((0), (([]), (val12.2.1))))))))))))))
                      else some ((val0.2.2), ((val8.2.2), ((val10.2.2), (((⟨#[]⟩ : ByteArray)), (((⟨#[]⟩ : ByteArray)), ((0), (([]), (([]), ((0), ((0), ((0), ((0), ((val14), (0))))))))))))))
        else (cr_number val0.1 val0.2.1).bind fun val8 =>
          (cr_number val8.1 val8.2.1).bind fun val10 =>
            (cr_bytes val10.1 val10.2.1).bind fun val12 =>
              (cmd_CloneB val12.2.2).bind fun val14 =>
                bif val12.2.1 == 0
                  then bif decide (ilen val12.1 > 0)
                    then some ((0), ((0), ((0), (((⟨#[]⟩ : ByteArray)), (((⟨#[]⟩ : ByteArray)), ((0), (([]), (([]), ((0), ((0), ((0), ((0), (([]), (3))))))))))))))
                    else bif val12.2.1 == 0
                      then (cmd_Check val0.2.2 val8.2.2 val10.2.2 (⟨#[]⟩ : ByteArray) (⟨#[]⟩ : ByteArray) 0 [] [] 0 0 0 0 val14).bind fun val22 =>
                        bif val22 != 0
                          then some ((0), ((0), ((0), (((⟨#[]⟩ : ByteArray)), (((⟨#[]⟩ : ByteArray)), ((0), (([]), (([]), ((0), ((0), ((0), ((0), (([]), (val22))))))))))))))
                          else some ((val0.2.2), ((val8.2.2), ((val10.2.2), (((⟨#[]⟩ : ByteArray)), (((⟨#[]⟩ : ByteArray)), ((0), (([]), (([]), ((0), ((0), ((0), ((0), ((val14), (0))))))))))))))
                      else bif val12.2.1 != 0
                        then some ((0), ((0), ((0), (((⟨#[]⟩ : ByteArray)), (((⟨#[]⟩ : ByteArray)), ((0), (([]), (([]), ((0), ((0), ((0), ((0), (([]), (val12.2.1))))))))))))))
                        else some ((val0.2.2), ((val8.2.2), ((val10.2.2), (((⟨#[]⟩ : ByteArray)), (((⟨#[]⟩ : ByteArray)), ((0), (([]), (([]), ((0), ((0), ((0), ((0), ((val14), (0))))))))))))))
                  else bif val12.2.1 == 0
                    then (cmd_Check val0.2.2 val8.2.2 val10.2.2 (⟨#[]⟩ : ByteArray) (⟨#[]⟩ : ByteArray) 0 [] [] 0 0 0 0 val14).bind fun val20 =>
                      bif val20 != 0
                        then some ((0), ((0), ((0), (((⟨#[]⟩ : ByteArray)), (((⟨#[]⟩ : ByteArray)), ((0), (([]), (([]), ((0), ((0), ((0), ((0), (([]), (val20))))))))))))))
                        else some ((val0.2.2), ((val8.2.2), ((val10.2.2), (((⟨#[]⟩ : ByteArray)), (((⟨#[]⟩ : ByteArray)), ((0), (([]), (([]), ((0), ((0), ((0), ((0), ((val14), (0))))))))))))))
                    else bif val12.2.1 != 0
                      then some ((0), ((0), ((0), (((⟨#[]⟩ : ByteArray)), (((⟨#[]⟩ : ByteArray)), ((0), (([]), (([]), ((0), ((0), ((0), ((0), (([]), (val12.2.1))))))))))))))
                      else some ((val0.2.2), ((val8.2.2), ((val10.2.2), (((⟨#[]⟩ : ByteArray)), (((⟨#[]⟩ : ByteArray)), ((0), (([]), (([]), ((0), ((0), ((0), ((0), ((val14), (0))))))))))))))
      else bif val0.2.2 == 3
        then bif val0.2.1 == 0
          then (cr_number val0.1 val0.2.1).bind fun val10 =>
            (cr_number val10.1 val10.2.1).bind fun val12 =>
              (cr_word val12.1 val12.2.1).bind fun val14 =>
                (cr_vars val14.1 val14.2.1).bind fun val16 =>
                  bif val16.2.1 == 0
                    then bif decide (ilen val16.1 > 0)
                      then some ((0), ((0), ((0), (((⟨#[]⟩ : ByteArray)), (((⟨#[]⟩ : ByteArray)), ((0), (([]), (([]), ((0), ((0), ((0), ((0), (([]), (3))))))))))))))
                      else bif val16.2.1 == 0
                        then (cmd_Check val0.2.2 val10.2.2 val12.2.2 val14.2.2 (⟨#[]⟩ : ByteArray) 0 val16.2.2.1 val16.2.2.2 0 0 0 0 []).bind fun val24 =>
                          bif val24 != 0
                            then some ((0), ((0), ((0), (((⟨#[]⟩ : ByteArray)), (((⟨#[]⟩ : ByteArray)), ((0), (([]), (([]), ((0), ((0), ((0), ((0), (([]), (val24))))))))))))))
                            else some ((val0.2.2), ((val10.2.2), ((val12.2.2), ((val14.2.2), (((⟨#[]⟩ : ByteArray)), ((0), ((val16.2.2.1), ((val16.2.2.2), ((0), ((0), ((0), ((0), (([]), (0))))))))))))))
                        else bif val16.2.1 != 0
                          then some ((0), ((0), ((0), (((⟨#[]⟩ : ByteArray)), (((⟨#[]⟩ : ByteArray)), ((0), (([]), (([]), ((0), ((0), ((0), ((0), (([]), (val16.2.1))))))))))))))
                          else some ((val0.2.2), ((val10.2.2), ((val12.2.2), ((val14.2.2), (((⟨#[]⟩ : ByteArray)), ((0), ((val16.2.2.1), ((val16.2.2.2), ((0), ((0), ((0), ((0), (([]), (0))))))))))))))
                    else bif val16.2.1 == 0
                      then (cmd_Check val0.2.2 val10.2.2 val12.2.2 val14.2.2 (⟨#[]⟩ : ByteArray) 0 val16.2.2.1 val16.2.2.2 0 0 0 0 []).bind fun val22 =>
                        bif val22 != 0
                          then some ((0), ((0), ((0), (((⟨#[]⟩ : ByteArray)), (((⟨#[]⟩ : ByteArray)), ((0), (([]), (([]), ((0), ((0), ((0), ((0), (([]), (val22))))))))))))))
                          else some ((val0.2.2), ((val10.2.2), ((val12.2.2), ((val14.2.2), (((⟨#[]⟩ : ByteArray)), ((0), ((val16.2.2.1), ((val16.2.2.2), ((0), ((0), ((0), ((0), (([]), (0))))))))))))))
                      else bif val16.2.1 != 0
                        then some ((0), ((0), ((0), (((⟨#[]⟩ : ByteArray)), (((⟨#[]⟩ : ByteArray)), ((0), (([]), (([]), ((0), ((0), ((0), ((0), (([]), (val16.2.1))))))))))))))
                        else some ((val0.2.2), ((val10.2.2), ((val12.2.2), ((val14.2.2), (((⟨#[]⟩ : ByteArray)), ((0), ((val16.2.2.1), ((val16.2.2.2), ((0), ((0), ((0), ((0), (([]), (0))))))))))))))
          else (cr_number val0.1 val0.2.1).bind fun val10 =>
            (cr_number val10.1 val10.2.1).bind fun val12 =>
              (cr_word val12.1 val12.2.1).bind fun val14 =>
                (cr_vars val14.1 val14.2.1).bind fun val16 =>
                  bif val16.2.1 == 0
                    then bif decide (ilen val16.1 > 0)
                      then some ((0), ((0), ((0), (((⟨#[]⟩ : ByteArray)), (((⟨#[]⟩ : ByteArray)), ((0), (([]), (([]), ((0), ((0), ((0), ((0), (([]), (3))))))))))))))
                      else bif val16.2.1 == 0
                        then (cmd_Check val0.2.2 val10.2.2 val12.2.2 val14.2.2 (⟨#[]⟩ : ByteArray) 0 val16.2.2.1 val16.2.2.2 0 0 0 0 []).bind fun val24 =>
                          bif val24 != 0
                            then some ((0), ((0), ((0), (((⟨#[]⟩ : ByteArray)), (((⟨#[]⟩ : ByteArray)), ((0), (([]), (([]), ((0), ((0), ((0), ((0), (([]), (val24))))))))))))))
                            else some ((val0.2.2), ((val10.2.2), ((val12.2.2), ((val14.2.2), (((⟨#[]⟩ : ByteArray)), ((0), ((val16.2.2.1), ((val16.2.2.2), ((0), ((0), ((0), ((0), (([]), (0))))))))))))))
                        else bif val16.2.1 != 0
                          then some ((0), ((0), ((0), (((⟨#[]⟩ : ByteArray)), (((⟨#[]⟩ : ByteArray)), ((0), (([]), (([]), ((0), ((0), ((0), ((0), (([]), (val16.2.1))))))))))))))
                          else some ((val0.2.2), ((val10.2.2), ((val12.2.2), ((val14.2.2), (((⟨#[]⟩ : ByteArray)), ((0), ((val16.2.2.1), ((val16.2.2.2), ((0), ((0), ((0), ((0), (([]), (0))))))))))))))
                    else bif val16.2.1 == 0
                      then (cmd_Check val0.2.2 val10.2.2 val12.2.2 val14.2.2 (⟨#[]⟩ : ByteArray) 0 val16.2.2.1 val16.2.2.2 0 0 0 0 []).bind fun val22 =>
                        bif val22 != 0
                          then some ((0), ((0), ((0), (((⟨#[]⟩ : ByteArray)), (((⟨#[]⟩ : ByteArray)), ((0), (([]), (([]), ((0), ((0), ((0), ((0), (([]), (val22))))))))))))))
                          else some ((val0.2.2), ((val10.2.2), ((val12.2.2), ((val14.2.2), (((⟨#[]⟩ : ByteArray)), ((0), ((val16.2.2.1), ((val16.2.2.2), ((0), ((0), ((0), ((0), (([]), (0))))))))))))))
                      else bif val16.2.1 != 0
                        then some ((0), ((0), ((0), (((⟨#[]⟩ : ByteArray)), (((⟨#[]⟩ : ByteArray)), ((0), (([]), (([]), ((0), ((0), ((0), ((0), (([]), (val16.2.1))))))))))))))
                        else some ((val0.2.2), ((val10.2.2), ((val12.2.2), ((val14.2.2), (((⟨#[]⟩ : ByteArray)), ((0), ((val16.2.2.1), ((val16.2.2.2), ((0), ((0), ((0), ((0), (([]), (0))))))))))))))
        else bif val0.2.2 == 4
          then bif val0.2.1 == 0
            then (cr_number val0.1 val0.2.1).bind fun val12 =>
              (cr_number val12.1 val12.2.1).bind fun val14 =>
                (cr_number val14.1 val14.2.1).bind fun val16 =>
                  (cr_word val16.1 val16.2.1).bind fun val18 =>
                    (cr_int val18.1 val18.2.1).bind fun val20 =>
                      (cr_vars val20.1 val20.2.1).bind fun val22 =>
                        bif val22.2.1 == 0
                          then bif decide (ilen val22.1 > 0)
                            then some ((0), ((0), ((0), (((⟨#[]⟩ : ByteArray)), (((⟨#[]⟩ : ByteArray)), ((0), (([]), (([]), ((0), ((0), ((0), ((0), (([]), (3))))))))))))))
                            else bif val22.2.1 == 0
                              then (cmd_Check val0.2.2 val12.2.2 val14.2.2 val18.2.2 (⟨#[]⟩ : ByteArray) val20.2.2 val22.2.2.1 val22.2.2.2 0 0 val16.2.2 0 []).bind fun val30 =>
                                bif val30 != 0
                                  then some ((0), ((0), ((0), (((⟨#[]⟩ : ByteArray)), (((⟨#[]⟩ : ByteArray)), ((0), (([]), (([]), ((0), ((0), ((0), ((0), (([]), (val30))))))))))))))
                                  else some ((val0.2.2), ((val12.2.2), ((val14.2.2), ((val18.2.2), (((⟨#[]⟩ : ByteArray)), ((val20.2.2), ((val22.2.2.1), ((val22.2.2.2), ((0), ((0), ((val16.2.2), ((0), (([]), (0))))))))))))))
                              else bif val22.2.1 != 0
                                then some ((0), ((0), ((0), (((⟨#[]⟩ : ByteArray)), (((⟨#[]⟩ : ByteArray)), ((0), (([]), (([]), ((0), ((0), ((0), ((0), (([]), (val22.2.1))))))))))))))
                                else some ((val0.2.2), ((val12.2.2), ((val14.2.2), ((val18.2.2), (((⟨#[]⟩ : ByteArray)), ((val20.2.2), ((val22.2.2.1), ((val22.2.2.2), ((0), ((0), ((val16.2.2), ((0), (([]), (0))))))))))))))
                          else bif val22.2.1 == 0
                            then (cmd_Check val0.2.2 val12.2.2 val14.2.2 val18.2.2 (⟨#[]⟩ : ByteArray) val20.2.2 val22.2.2.1 val22.2.2.2 0 0 val16.2.2 0 []).bind fun val28 =>
                              bif val28 != 0
                                then some ((0), ((0), ((0), (((⟨#[]⟩ : ByteArray)), (((⟨#[]⟩ : ByteArray)), ((0), (([]), (([]), ((0), ((0), ((0), ((0), (([]), (val28))))))))))))))
                                else some ((val0.2.2), ((val12.2.2), ((val14.2.2), ((val18.2.2), (((⟨#[]⟩ : ByteArray)), ((val20.2.2), ((val22.2.2.1), ((val22.2.2.2), ((0), ((0), ((val16.2.2), ((0), (([]), (0))))))))))))))
                            else bif val22.2.1 != 0
                              then some ((0), ((0), ((0), (((⟨#[]⟩ : ByteArray)), (((⟨#[]⟩ : ByteArray)), ((0), (([]), (([]), ((0), ((0), ((0), ((0), (([]), (val22.2.1))))))))))))))
                              else some ((val0.2.2), ((val12.2.2), ((val14.2.2), ((val18.2.2), (((⟨#[]⟩ : ByteArray)), ((val20.2.2), ((val22.2.2.1), ((val22.2.2.2), ((0), ((0), ((val16.2.2), ((0), (([]), (0))))))))))))))
            else (cr_number val0.1 val0.2.1).bind fun val12 =>
              (cr_number val12.1 val12.2.1).bind fun val14 =>
                (cr_number val14.1 val14.2.1).bind fun val16 =>
                  (cr_word val16.1 val16.2.1).bind fun val18 =>
                    (cr_int val18.1 val18.2.1).bind fun val20 =>
                      (cr_vars val20.1 val20.2.1).bind fun val22 =>
                        bif val22.2.1 == 0
                          then bif decide (ilen val22.1 > 0)
                            then some ((0), ((0), ((0), (((⟨#[]⟩ : ByteArray)), (((⟨#[]⟩ : ByteArray)), ((0), (([]), (([]), ((0), ((0), ((0), ((0), (([]), (3))))))))))))))
                            else bif val22.2.1 == 0
                              then (cmd_Check val0.2.2 val12.2.2 val14.2.2 val18.2.2 (⟨#[]⟩ : ByteArray) val20.2.2 val22.2.2.1 val22.2.2.2 0 0 val16.2.2 0 []).bind fun val30 =>
                                bif val30 != 0
                                  then some ((0), ((0), ((0), (((⟨#[]⟩ : ByteArray)), (((⟨#[]⟩ : ByteArray)), ((0), (([]), (([]), ((0), ((0), ((0), ((0), (([]), (val30))))))))))))))
                                  else some ((val0.2.2), ((val12.2.2), ((val14.2.2), ((val18.2.2), (((⟨#[]⟩ : ByteArray)), ((val20.2.2), ((val22.2.2.1), ((val22.2.2.2), ((0), ((0), ((val16.2.2), ((0), (([]), (0))))))))))))))
                              else bif val22.2.1 != 0
                                then some ((0), ((0), ((0), (((⟨#[]⟩ : ByteArray)), (((⟨#[]⟩ : ByteArray)), ((0), (([]), (([]), ((0), ((0), ((0), ((0), (([]), (val22.2.1))))))))))))))
                                else some ((val0.2.2), ((val12.2.2), ((val14.2.2), ((val18.2.2), (((⟨#[]⟩ : ByteArray)), ((val20.2.2), ((val22.2.2.1), ((val22.2.2.2), ((0), ((0), ((val16.2.2), ((0), (([]), (0))))))))))))))
                          else bif val22.2.1 == 0
                            then (cmd_Check val0.2.2 val12.2.2 val14.2.2 val18.2.2 (⟨#[]⟩ : ByteArray) val20.2.2 val22.2.2.1 val22.2.2.2 0 0 val16.2.2 0 []).bind fun val28 =>
                              bif val28 != 0
                                then some ((0), ((0), ((0), (((⟨#[]⟩ : ByteArray)), (((⟨#[]⟩ : ByteArray)), ((0), (([]), (([]), ((0), ((0), ((0), ((0), (([]), (val28))))))))))))))
                                else some ((val0.2.2), ((val12.2.2), ((val14.2.2), ((val18.2.2), (((⟨#[]⟩ : ByteArray)), ((val20.2.2), ((val22.2.2.1), ((val22.2.2.2), ((0), ((0), ((val16.2.2), ((0), (([]), (0))))))))))))))
                            else bif val22.2.1 != 0
                              then some ((0), ((0), ((0), (((⟨#[]⟩ : ByteArray)), (((⟨#[]⟩ : ByteArray)), ((0), (([]), (([]), ((0), ((0), ((0), ((0), (([]), (val22.2.1))))))))))))))
                              else some ((val0.2.2), ((val12.2.2), ((val14.2.2), ((val18.2.2), (((⟨#[]⟩ : ByteArray)), ((val20.2.2), ((val22.2.2.1), ((val22.2.2.2), ((0), ((0), ((val16.2.2), ((0), (([]), (0))))))))))))))
          else bif val0.2.2 == 5
            then bif val0.2.1 == 0
              then (cr_number val0.1 val0.2.1).bind fun val14 =>
                (cr_number val14.1 val14.2.1).bind fun val16 =>
                  (cr_number val16.1 val16.2.1).bind fun val18 =>
                    (cr_number val18.1 val18.2.1).bind fun val20 =>
                      (cr_word val20.1 val20.2.1).bind fun val22 =>
                        (cr_word val22.1 val22.2.1).bind fun val24 =>
                          bif val24.2.1 == 0
                            then bif decide (ilen val24.1 > 0)
                              then some ((0), ((0), ((0), (((⟨#[]⟩ : ByteArray)), (((⟨#[]⟩ : ByteArray)), ((0), (([]), (([]), ((0), ((0), ((0), ((0), (([]), (3))))))))))))))
                              else bif val24.2.1 == 0
                                then (cmd_Check val0.2.2 val14.2.2 val16.2.2 val22.2.2 val24.2.2 0 [] [] 0 0 val18.2.2 val20.2.2 []).bind fun val32 =>
                                  bif val32 != 0
                                    then some ((0), ((0), ((0), (((⟨#[]⟩ : ByteArray)), (((⟨#[]⟩ : ByteArray)), ((0), (([]), (([]), ((0), ((0), ((0), ((0), (([]), (val32))))))))))))))
                                    else some ((val0.2.2), ((val14.2.2), ((val16.2.2), ((val22.2.2), ((val24.2.2), ((0), (([]), (([]), ((0), ((0), ((val18.2.2), ((val20.2.2), (([]), (0))))))))))))))
                                else bif val24.2.1 != 0
                                  then some ((0), ((0), ((0), (((⟨#[]⟩ : ByteArray)), (((⟨#[]⟩ : ByteArray)), ((0), (([]), (([]), ((0), ((0), ((0), ((0), (([]), (val24.2.1))))))))))))))
                                  else some ((val0.2.2), ((val14.2.2), ((val16.2.2), ((val22.2.2), ((val24.2.2), ((0), (([]), (([]), ((0), ((0), ((val18.2.2), ((val20.2.2), (([]), (0))))))))))))))
                            else bif val24.2.1 == 0
                              then (cmd_Check val0.2.2 val14.2.2 val16.2.2 val22.2.2 val24.2.2 0 [] [] 0 0 val18.2.2 val20.2.2 []).bind fun val30 =>
                                bif val30 != 0
                                  then some ((0), ((0), ((0), (((⟨#[]⟩ : ByteArray)), (((⟨#[]⟩ : ByteArray)), ((0), (([]), (([]), ((0), ((0), ((0), ((0), (([]), (val30))))))))))))))
                                  else some ((val0.2.2), ((val14.2.2), ((val16.2.2), ((val22.2.2), ((val24.2.2), ((0), (([]), (([]), ((0), ((0), ((val18.2.2), ((val20.2.2), (([]), (0))))))))))))))
                              else bif val24.2.1 != 0
                                then some ((0), ((0), ((0), (((⟨#[]⟩ : ByteArray)), (((⟨#[]⟩ : ByteArray)), ((0), (([]), (([]), ((0), ((0), ((0), ((0), (([]), (val24.2.1))))))))))))))
                                else some ((val0.2.2), ((val14.2.2), ((val16.2.2), ((val22.2.2), ((val24.2.2), ((0), (([]), (([]), ((0), ((0), ((val18.2.2), ((val20.2.2), (([]), (0))))))))))))))
              else (cr_number val0.1 val0.2.1).bind fun val14 =>
                (cr_number val14.1 val14.2.1).bind fun val16 =>
                  (cr_number val16.1 val16.2.1).bind fun val18 =>
                    (cr_number val18.1 val18.2.1).bind fun val20 =>
                      (cr_word val20.1 val20.2.1).bind fun val22 =>
                        (cr_word val22.1 val22.2.1).bind fun val24 =>
                          bif val24.2.1 == 0
                            then bif decide (ilen val24.1 > 0)
                              then some ((0), ((0), ((0), (((⟨#[]⟩ : ByteArray)), (((⟨#[]⟩ : ByteArray)), ((0), (([]), (([]), ((0), ((0), ((0), ((0), (([]), (3))))))))))))))
                              else bif val24.2.1 == 0
                                then (cmd_Check val0.2.2 val14.2.2 val16.2.2 val22.2.2 val24.2.2 0 [] [] 0 0 val18.2.2 val20.2.2 []).bind fun val32 =>
                                  bif val32 != 0
                                    then some ((0), ((0), ((0), (((⟨#[]⟩ : ByteArray)), (((⟨#[]⟩ : ByteArray)), ((0), (([]), (([]), ((0), ((0), ((0), ((0), (([]), (val32))))))))))))))
                                    else some ((val0.2.2), ((val14.2.2), ((val16.2.2), ((val22.2.2), ((val24.2.2), ((0), (([]), (([]), ((0), ((0), ((val18.2.2), ((val20.2.2), (([]), (0))))))))))))))
                                else bif val24.2.1 != 0
                                  then some ((0), ((0), ((0), (((⟨#[]⟩ : ByteArray)), (((⟨#[]⟩ : ByteArray)), ((0), (([]), (([]), ((0), ((0), ((0), ((0), (([]), (val24.2.1))))))))))))))
                                  else some ((val0.2.2), ((val14.2.2), ((val16.2.2), ((val22.2.2), ((val24.2.2), ((0), (([]), (([]), ((0), ((0), ((val18.2.2), ((val20.2.2), (([]), (0))))))))))))))
                            else bif val24.2.1 == 0
                              then (cmd_Check val0.2.2 val14.2.2 val16.2.2 val22.2.2 val24.2.2 0 [] [] 0 0 val18.2.2 val20.2.2 []).bind fun val30 =>
                                bif val30 != 0
                                  then some ((0), ((0), ((0), (((⟨#[]⟩ : ByteArray)), (((⟨#[]⟩ : ByteArray)), ((0), (([]), (([]), ((0), ((0), ((0), ((0), (([]), (val30))))))))))))))
                                  else some ((val0.2.2), ((val14.2.2), ((val16.2.2), ((val22.2.2), ((val24.2.2), ((0), (([]), (([]), ((0), ((0), ((val18.2.2), ((val20.2.2), (([]), (0))))))))))))))
                              else bif val24.2.1 != 0
                                then some ((0), ((0), ((0), (((⟨#[]⟩ : ByteArray)), (((⟨#[]⟩ : ByteArray)), ((0), (([]), (([]), ((0), ((0), ((0), ((0), (([]), (val24.2.1))))))))))))))
                                else some ((val0.2.2), ((val14.2.2), ((val16.2.2), ((val22.2.2), ((val24.2.2), ((0), (([]), (([]), ((0), ((0), ((val18.2.2), ((val20.2.2), (([]), (0))))))))))))))
            else bif val0.2.2 == 6
              then bif val0.2.1 == 0
                then (cr_number val0.1 val0.2.1).bind fun val16 =>
                  (cr_number val16.1 val16.2.1).bind fun val18 =>
                    (cr_number val18.1 val18.2.1).bind fun val20 =>
                      (cr_word val20.1 val20.2.1).bind fun val22 =>
                        (cr_vars val22.1 val22.2.1).bind fun val24 =>
                          bif val24.2.1 == 0
                            then bif decide (ilen val24.1 > 0)
                              then some ((0), ((0), ((0), (((⟨#[]⟩ : ByteArray)), (((⟨#[]⟩ : ByteArray)), ((0), (([]), (([]), ((0), ((0), ((0), ((0), (([]), (3))))))))))))))
                              else bif val24.2.1 == 0
                                then (cmd_Check val0.2.2 val16.2.2 val18.2.2 (⟨#[]⟩ : ByteArray) val22.2.2 0 val24.2.2.1 val24.2.2.2 val20.2.2 0 0 0 []).bind fun val32 =>
                                  bif val32 != 0
                                    then some ((0), ((0), ((0), (((⟨#[]⟩ : ByteArray)), (((⟨#[]⟩ : ByteArray)), ((0), (([]), (([]), ((0), ((0), ((0), ((0), (([]), (val32))))))))))))))
                                    else some ((val0.2.2), ((val16.2.2), ((val18.2.2), (((⟨#[]⟩ : ByteArray)), ((val22.2.2), ((0), ((val24.2.2.1), ((val24.2.2.2), ((val20.2.2), ((0), ((0), ((0), (([]), (0))))))))))))))
                                else bif val24.2.1 != 0
                                  then some ((0), ((0), ((0), (((⟨#[]⟩ : ByteArray)), (((⟨#[]⟩ : ByteArray)), ((0), (([]), (([]), ((0), ((0), ((0), ((0), (([]), (val24.2.1))))))))))))))
                                  else some ((val0.2.2), ((val16.2.2), ((val18.2.2), (((⟨#[]⟩ : ByteArray)), ((val22.2.2), ((0), ((val24.2.2.1), ((val24.2.2.2), ((val20.2.2), ((0), ((0), ((0), (([]), (0))))))))))))))
                            else bif val24.2.1 == 0
                              then (cmd_Check val0.2.2 val16.2.2 val18.2.2 (⟨#[]⟩ : ByteArray) val22.2.2 0 val24.2.2.1 val24.2.2.2 val20.2.2 0 0 0 []).bind fun val30 =>
                                bif val30 != 0
                                  then some ((0), ((0), ((0), (((⟨#[]⟩ : ByteArray)), (((⟨#[]⟩ : ByteArray)), ((0), (([]), (([]), ((0), ((0), ((0), ((0), (([]), (val30))))))))))))))
                                  else some ((val0.2.2), ((val16.2.2), ((val18.2.2), (((⟨#[]⟩ : ByteArray)), ((val22.2.2), ((0), ((val24.2.2.1), ((val24.2.2.2), ((val20.2.2), ((0), ((0), ((0), (([]), (0))))))))))))))
                              else bif val24.2.1 != 0
                                then some ((0), ((0), ((0), (((⟨#[]⟩ : ByteArray)), (((⟨#[]⟩ : ByteArray)), ((0), (([]), (([]), ((0), ((0), ((0), ((0), (([]), (val24.2.1))))))))))))))
                                else some ((val0.2.2), ((val16.2.2), ((val18.2.2), (((⟨#[]⟩ : ByteArray)), ((val22.2.2), ((0), ((val24.2.2.1), ((val24.2.2.2), ((val20.2.2), ((0), ((0), ((0), (([]), (0))))))))))))))
                else (cr_number val0.1 val0.2.1).bind fun val16 =>
                  (cr_number val16.1 val16.2.1).bind fun val18 =>
                    (cr_number val18.1 val18.2.1).bind fun val20 =>
                      (cr_word val20.1 val20.2.1).bind fun val22 =>
                        (cr_vars val22.1 val22.2.1).bind fun val24 =>
                          bif val24.2.1 == 0
                            then bif decide (ilen val24.1 > 0)
                              then some ((0), ((0), ((0), (((⟨#[]⟩ : ByteArray)), (((⟨#[]⟩ : ByteArray)), ((0), (([]), (([]), ((0), ((0), ((0), ((0), (([]), (3))))))))))))))
                              else bif val24.2.1 == 0
                                then (cmd_Check val0.2.2 val16.2.2 val18.2.2 (⟨#[]⟩ : ByteArray) val22.2.2 0 val24.2.2.1 val24.2.2.2 val20.2.2 0 0 0 []).bind fun val32 =>
                                  bif val32 != 0
                                    then some ((0), ((0), ((0), (((⟨#[]⟩ : ByteArray)), (((⟨#[]⟩ : ByteArray)), ((0), (([]), (([]), ((0), ((0), ((0), ((0), (([]), (val32))))))))))))))
                                    else some ((val0.2.2), ((val16.2.2), ((val18.2.2), (((⟨#[]⟩ : ByteArray)), ((val22.2.2), ((0), ((val24.2.2.1), ((val24.2.2.2), ((val20.2.2), ((0), ((0), ((0), (([]), (0))))))))))))))
                                else bif val24.2.1 != 0
                                  then some ((0), ((0), ((0), (((⟨#[]⟩ : ByteArray)), (((⟨#[]⟩ : ByteArray)), ((0), (([]), (([]), ((0), ((0), ((0), ((0), (([]), (val24.2.1))))))))))))))
                                  else some ((val0.2.2), ((val16.2.2), ((val18.2.2), (((⟨#[]⟩ : ByteArray)), ((val22.2.2), ((0), ((val24.2.2.1), ((val24.2.2.2), ((val20.2.2), ((0), ((0), ((0), (([]), (0))))))))))))))
                            else bif val24.2.1 == 0
                              then (cmd_Check val0.2.2 val16.2.2 val18.2.2 (⟨#[]⟩ : ByteArray) val22.2.2 0 val24.2.2.1 val24.2.2.2 val20.2.2 0 0 0 []).bind fun val30 =>
                                bif val30 != 0
                                  then some ((0), ((0), ((0), (((⟨#[]⟩ : ByteArray)), (((⟨#[]⟩ : ByteArray)), ((0), (([]), (([]), ((0), ((0), ((0), ((0), (([]), (val30))))))))))))))
                                  else some ((val0.2.2), ((val16.2.2), ((val18.2.2), (((⟨#[]⟩ : ByteArray)), ((val22.2.2), ((0), ((val24.2.2.1), ((val24.2.2.2), ((val20.2.2), ((0), ((0), ((0), (([]), (0))))))))))))))
                              else bif val24.2.1 != 0
                                then some ((0), ((0), ((0), (((⟨#[]⟩ : ByteArray)), (((⟨#[]⟩ : ByteArray)), ((0), (([]), (([]), ((0), ((0), ((0), ((0), (([]), (val24.2.1))))))))))))))
                                else some ((val0.2.2), ((val16.2.2), ((val18.2.2), (((⟨#[]⟩ : ByteArray)), ((val22.2.2), ((0), ((val24.2.2.1), ((val24.2.2.2), ((val20.2.2), ((0), ((0), ((0), (([]), (0))))))))))))))
              else bif val0.2.2 == 7
                then bif val0.2.1 == 0
                  then (cr_number val0.1 val0.2.1).bind fun val18 =>
                    (cr_number val18.1 val18.2.1).bind fun val20 =>
                      (cr_number val20.1 val20.2.1).bind fun val22 =>
                        (cr_word val22.1 val22.2.1).bind fun val24 =>
                          bif val24.2.1 == 0
                            then bif decide (ilen val24.1 > 0)
                              then some ((0), ((0), ((0), (((⟨#[]⟩ : ByteArray)), (((⟨#[]⟩ : ByteArray)), ((0), (([]), (([]), ((0), ((0), ((0), ((0), (([]), (3))))))))))))))
                              else bif val24.2.1 == 0
                                then (cmd_Check val0.2.2 val18.2.2 val20.2.2 (⟨#[]⟩ : ByteArray) val24.2.2 0 [] [] val22.2.2 0 0 0 []).bind fun val32 =>
                                  bif val32 != 0
                                    then some ((0), ((0), ((0), (((⟨#[]⟩ : ByteArray)), (((⟨#[]⟩ : ByteArray)), ((0), (([]), (([]), ((0), ((0), ((0), ((0), (([]), (val32))))))))))))))
                                    else some ((val0.2.2), ((val18.2.2), ((val20.2.2), (((⟨#[]⟩ : ByteArray)), ((val24.2.2), ((0), (([]), (([]), ((val22.2.2), ((0), ((0), ((0), (([]), (0))))))))))))))
                                else bif val24.2.1 != 0
                                  then some ((0), ((0), ((0), (((⟨#[]⟩ : ByteArray)), (((⟨#[]⟩ : ByteArray)), ((0), (([]), (([]), ((0), ((0), ((0), ((0), (([]), (val24.2.1))))))))))))))
                                  else some ((val0.2.2), ((val18.2.2), ((val20.2.2), (((⟨#[]⟩ : ByteArray)), ((val24.2.2), ((0), (([]), (([]), ((val22.2.2), ((0), ((0), ((0), (([]), (0))))))))))))))
                            else bif val24.2.1 == 0
                              then (cmd_Check val0.2.2 val18.2.2 val20.2.2 (⟨#[]⟩ : ByteArray) val24.2.2 0 [] [] val22.2.2 0 0 0 []).bind fun val30 =>
                                bif val30 != 0
                                  then some ((0), ((0), ((0), (((⟨#[]⟩ : ByteArray)), (((⟨#[]⟩ : ByteArray)), ((0), (([]), (([]), ((0), ((0), ((0), ((0), (([]), (val30))))))))))))))
                                  else some ((val0.2.2), ((val18.2.2), ((val20.2.2), (((⟨#[]⟩ : ByteArray)), ((val24.2.2), ((0), (([]), (([]), ((val22.2.2), ((0), ((0), ((0), (([]), (0))))))))))))))
                              else bif val24.2.1 != 0
                                then some ((0), ((0), ((0), (((⟨#[]⟩ : ByteArray)), (((⟨#[]⟩ : ByteArray)), ((0), (([]), (([]), ((0), ((0), ((0), ((0), (([]), (val24.2.1))))))))))))))
                                else some ((val0.2.2), ((val18.2.2), ((val20.2.2), (((⟨#[]⟩ : ByteArray)), ((val24.2.2), ((0), (([]), (([]), ((val22.2.2), ((0), ((0), ((0), (([]), (0))))))))))))))
                  else (cr_number val0.1 val0.2.1).bind fun val18 =>
                    (cr_number val18.1 val18.2.1).bind fun val20 =>
                      (cr_number val20.1 val20.2.1).bind fun val22 =>
                        (cr_word val22.1 val22.2.1).bind fun val24 =>
                          bif val24.2.1 == 0
                            then bif decide (ilen val24.1 > 0)
                              then some ((0), ((0), ((0), (((⟨#[]⟩ : ByteArray)), (((⟨#[]⟩ : ByteArray)), ((0), (([]), (([]), ((0), ((0), ((0), ((0), (([]), (3))))))))))))))
                              else bif val24.2.1 == 0
                                then (cmd_Check val0.2.2 val18.2.2 val20.2.2 (⟨#[]⟩ : ByteArray) val24.2.2 0 [] [] val22.2.2 0 0 0 []).bind fun val32 =>
                                  bif val32 != 0
                                    then some ((0), ((0), ((0), (((⟨#[]⟩ : ByteArray)), (((⟨#[]⟩ : ByteArray)), ((0), (([]), (([]), ((0), ((0), ((0), ((0), (([]), (val32))))))))))))))
                                    else some ((val0.2.2), ((val18.2.2), ((val20.2.2), (((⟨#[]⟩ : ByteArray)), ((val24.2.2), ((0), (([]), (([]), ((val22.2.2), ((0), ((0), ((0), (([]), (0))))))))))))))
                                else bif val24.2.1 != 0
                                  then some ((0), ((0), ((0), (((⟨#[]⟩ : ByteArray)), (((⟨#[]⟩ : ByteArray)), ((0), (([]), (([]), ((0), ((0), ((0), ((0), (([]), (val24.2.1))))))))))))))
                                  else some ((val0.2.2), ((val18.2.2), ((val20.2.2), (((⟨#[]⟩ : ByteArray)), ((val24.2.2), ((0), (([]), (([]), ((val22.2.2), ((0), ((0), ((0), (([]), (0))))))))))))))
                            else bif val24.2.1 == 0
                              then (cmd_Check val0.2.2 val18.2.2 val20.2.2 (⟨#[]⟩ : ByteArray) val24.2.2 0 [] [] val22.2.2 0 0 0 []).bind fun val30 =>
                                bif val30 != 0
                                  then some ((0), ((0), ((0), (((⟨#[]⟩ : ByteArray)), (((⟨#[]⟩ : ByteArray)), ((0), (([]), (([]), ((0), ((0), ((0), ((0), (([]), (val30))))))))))))))
                                  else some ((val0.2.2), ((val18.2.2), ((val20.2.2), (((⟨#[]⟩ : ByteArray)), ((val24.2.2), ((0), (([]), (([]), ((val22.2.2), ((0), ((0), ((0), (([]), (0))))))))))))))
                              else bif val24.2.1 != 0
                                then some ((0), ((0), ((0), (((⟨#[]⟩ : ByteArray)), (((⟨#[]⟩ : ByteArray)), ((0), (([]), (([]), ((0), ((0), ((0), ((0), (([]), (val24.2.1))))))))))))))
                                else some ((val0.2.2), ((val18.2.2), ((val20.2.2), (((⟨#[]⟩ : ByteArray)), ((val24.2.2), ((0), (([]), (([]), ((val22.2.2), ((0), ((0), ((0), (([]), (0))))))))))))))
                else bif val0.2.2 == 8
                  then bif val0.2.1 == 0
                    then (cr_number val0.1 val0.2.1).bind fun val20 =>
                      (cr_number val20.1 val20.2.1).bind fun val22 =>
                        (cr_number val22.1 val22.2.1).bind fun val24 =>
                          (cr_number val24.1 val24.2.1).bind fun val26 =>
                            (cr_vars val26.1 val26.2.1).bind fun val28 =>
                              bif val28.2.1 == 0
                                then bif decide (ilen val28.1 > 0)
                                  then some ((0), ((0), ((0), (((⟨#[]⟩ : ByteArray)), (((⟨#[]⟩ : ByteArray)), ((0), (([]), (([]), ((0), ((0), ((0), ((0), (([]), (3))))))))))))))
                                  else bif val28.2.1 == 0
                                    then (cmd_Check val0.2.2 val20.2.2 val22.2.2 (⟨#[]⟩ : ByteArray) (⟨#[]⟩ : ByteArray) 0 val28.2.2.1 val28.2.2.2 val24.2.2 val26.2.2 0 0 []).bind fun val36 =>
                                      bif val36 != 0
                                        then some ((0), ((0), ((0), (((⟨#[]⟩ : ByteArray)), (((⟨#[]⟩ : ByteArray)), ((0), (([]), (([]), ((0), ((0), ((0), ((0), (([]), (val36))))))))))))))
                                        else some ((val0.2.2), ((val20.2.2), ((val22.2.2), (((⟨#[]⟩ : ByteArray)), (((⟨#[]⟩ : ByteArray)), ((0), ((val28.2.2.1), ((val28.2.2.2), ((val24.2.2), ((val26.2.2), ((0), ((0), (([]), (0))))))))))))))
                                    else bif val28.2.1 != 0
                                      then some ((0), ((0), ((0), (((⟨#[]⟩ : ByteArray)), (((⟨#[]⟩ : ByteArray)), ((0), (([]), (([]), ((0), ((0), ((0), ((0), (([]), (val28.2.1))))))))))))))
                                      else some ((val0.2.2), ((val20.2.2), ((val22.2.2), (((⟨#[]⟩ : ByteArray)), (((⟨#[]⟩ : ByteArray)), ((0), ((val28.2.2.1), ((val28.2.2.2), ((val24.2.2), ((val26.2.2), ((0), ((0), (([]), (0))))))))))))))
                                else bif val28.2.1 == 0
                                  then (cmd_Check val0.2.2 val20.2.2 val22.2.2 (⟨#[]⟩ : ByteArray) (⟨#[]⟩ : ByteArray) 0 val28.2.2.1 val28.2.2.2 val24.2.2 val26.2.2 0 0 []).bind fun val34 =>
                                    bif val34 != 0
                                      then some ((0), ((0), ((0), (((⟨#[]⟩ : ByteArray)), (((⟨#[]⟩ : ByteArray)), ((0), (([]), (([]), ((0), ((0), ((0), ((0), (([]), (val34))))))))))))))
                                      else some ((val0.2.2), ((val20.2.2), ((val22.2.2), (((⟨#[]⟩ : ByteArray)), (((⟨#[]⟩ : ByteArray)), ((0), ((val28.2.2.1), ((val28.2.2.2), ((val24.2.2), ((val26.2.2), ((0), ((0), (([]), (0))))))))))))))
                                  else bif val28.2.1 != 0
                                    then some ((0), ((0), ((0), (((⟨#[]⟩ : ByteArray)), (((⟨#[]⟩ : ByteArray)), ((0), (([]), (([]), ((0), ((0), ((0), ((0), (([]), (val28.2.1))))))))))))))
                                    else some ((val0.2.2), ((val20.2.2), ((val22.2.2), (((⟨#[]⟩ : ByteArray)), (((⟨#[]⟩ : ByteArray)), ((0), ((val28.2.2.1), ((val28.2.2.2), ((val24.2.2), ((val26.2.2), ((0), ((0), (([]), (0))))))))))))))
                    else (cr_number val0.1 val0.2.1).bind fun val20 =>
                      (cr_number val20.1 val20.2.1).bind fun val22 =>
                        (cr_number val22.1 val22.2.1).bind fun val24 =>
                          (cr_number val24.1 val24.2.1).bind fun val26 =>
                            (cr_vars val26.1 val26.2.1).bind fun val28 =>
                              bif val28.2.1 == 0
                                then bif decide (ilen val28.1 > 0)
                                  then some ((0), ((0), ((0), (((⟨#[]⟩ : ByteArray)), (((⟨#[]⟩ : ByteArray)), ((0), (([]), (([]), ((0), ((0), ((0), ((0), (([]), (3))))))))))))))
                                  else bif val28.2.1 == 0
                                    then (cmd_Check val0.2.2 val20.2.2 val22.2.2 (⟨#[]⟩ : ByteArray) (⟨#[]⟩ : ByteArray) 0 val28.2.2.1 val28.2.2.2 val24.2.2 val26.2.2 0 0 []).bind fun val36 =>
                                      bif val36 != 0
                                        then some ((0), ((0), ((0), (((⟨#[]⟩ : ByteArray)), (((⟨#[]⟩ : ByteArray)), ((0), (([]), (([]), ((0), ((0), ((0), ((0), (([]), (val36))))))))))))))
                                        else some ((val0.2.2), ((val20.2.2), ((val22.2.2), (((⟨#[]⟩ : ByteArray)), (((⟨#[]⟩ : ByteArray)), ((0), ((val28.2.2.1), ((val28.2.2.2), ((val24.2.2), ((val26.2.2), ((0), ((0), (([]), (0))))))))))))))
                                    else bif val28.2.1 != 0
                                      then some ((0), ((0), ((0), (((⟨#[]⟩ : ByteArray)), (((⟨#[]⟩ : ByteArray)), ((0), (([]), (([]), ((0), ((0), ((0), ((0), (([]), (val28.2.1))))))))))))))
                                      else some ((val0.2.2), ((val20.2.2), ((val22.2.2), (((⟨#[]⟩ : ByteArray)), (((⟨#[]⟩ : ByteArray)), ((0), ((val28.2.2.1), ((val28.2.2.2), ((val24.2.2), ((val26.2.2), ((0), ((0), (([]), (0))))))))))))))
                                else bif val28.2.1 == 0
                                  then (cmd_Check val0.2.2 val20.2.2 val22.2.2 (⟨#[]⟩ : ByteArray) (⟨#[]⟩ : ByteArray) 0 val28.2.2.1 val28.2.2.2 val24.2.2 val26.2.2 0 0 []).bind fun val34 =>
                                    bif val34 != 0
                                      then some ((0), ((0), ((0), (((⟨#[]⟩ : ByteArray)), (((⟨#[]⟩ : ByteArray)), ((0), (([]), (([]), ((0), ((0), ((0), ((0), (([]), (val34))))))))))))))
                                      else some ((val0.2.2), ((val20.2.2), ((val22.2.2), (((⟨#[]⟩ : ByteArray)), (((⟨#[]⟩ : ByteArray)), ((0), ((val28.2.2.1), ((val28.2.2.2), ((val24.2.2), ((val26.2.2), ((0), ((0), (([]), (0))))))))))))))
                                  else bif val28.2.1 != 0
                                    then some ((0), ((0), ((0), (((⟨#[]⟩ : ByteArray)), (((⟨#[]⟩ : ByteArray)), ((0), (([]), (([]), ((0), ((0), ((0), ((0), (([]), (val28.2.1))))))))))))))
                                    else some ((val0.2.2), ((val20.2.2), ((val22.2.2), (((⟨#[]⟩ : ByteArray)), (((⟨#[]⟩ : ByteArray)), ((0), ((val28.2.2.1), ((val28.2.2.2), ((val24.2.2), ((val26.2.2), ((0), ((0), (([]), (0))))))))))))))
                  else bif val0.2.2 == 9
                    then bif val0.2.1 == 0
                      then (cr_number val0.1 val0.2.1).bind fun val22 =>
                        (cr_number val22.1 val22.2.1).bind fun val24 =>
                          (cr_number val24.1 val24.2.1).bind fun val26 =>
                            (cr_number val26.1 val26.2.1).bind fun val28 =>
                              bif val28.2.1 == 0
                                then bif decide (ilen val28.1 > 0)
                                  then some ((0), ((0), ((0), (((⟨#[]⟩ : ByteArray)), (((⟨#[]⟩ : ByteArray)), ((0), (([]), (([]), ((0), ((0), ((0), ((0), (([]), (3))))))))))))))
                                  else bif val28.2.1 == 0
                                    then (cmd_Check val0.2.2 val22.2.2 val24.2.2 (⟨#[]⟩ : ByteArray) (⟨#[]⟩ : ByteArray) 0 [] [] val26.2.2 0 val28.2.2 0 []).bind fun val36 =>
                                      bif val36 != 0
                                        then some ((0), ((0), ((0), (((⟨#[]⟩ : ByteArray)), (((⟨#[]⟩ : ByteArray)), ((0), (([]), (([]), ((0), ((0), ((0), ((0), (([]), (val36))))))))))))))
                                        else some ((val0.2.2), ((val22.2.2), ((val24.2.2), (((⟨#[]⟩ : ByteArray)), (((⟨#[]⟩ : ByteArray)), ((0), (([]), (([]), ((val26.2.2), ((0), ((val28.2.2), ((0), (([]), (0))))))))))))))
                                    else bif val28.2.1 != 0
                                      then some ((0), ((0), ((0), (((⟨#[]⟩ : ByteArray)), (((⟨#[]⟩ : ByteArray)), ((0), (([]), (([]), ((0), ((0), ((0), ((0), (([]), (val28.2.1))))))))))))))
                                      else some ((val0.2.2), ((val22.2.2), ((val24.2.2), (((⟨#[]⟩ : ByteArray)), (((⟨#[]⟩ : ByteArray)), ((0), (([]), (([]), ((val26.2.2), ((0), ((val28.2.2), ((0), (([]), (0))))))))))))))
                                else bif val28.2.1 == 0
                                  then (cmd_Check val0.2.2 val22.2.2 val24.2.2 (⟨#[]⟩ : ByteArray) (⟨#[]⟩ : ByteArray) 0 [] [] val26.2.2 0 val28.2.2 0 []).bind fun val34 =>
                                    bif val34 != 0
                                      then some ((0), ((0), ((0), (((⟨#[]⟩ : ByteArray)), (((⟨#[]⟩ : ByteArray)), ((0), (([]), (([]), ((0), ((0), ((0), ((0), (([]), (val34))))))))))))))
                                      else some ((val0.2.2), ((val22.2.2), ((val24.2.2), (((⟨#[]⟩ : ByteArray)), (((⟨#[]⟩ : ByteArray)), ((0), (([]), (([]), ((val26.2.2), ((0), ((val28.2.2), ((0), (([]), (0))))))))))))))
                                  else bif val28.2.1 != 0
                                    then some ((0), ((0), ((0), (((⟨#[]⟩ : ByteArray)), (((⟨#[]⟩ : ByteArray)), ((0), (([]), (([]), ((0), ((0), ((0), ((0), (([]), (val28.2.1))))))))))))))
                                    else some ((val0.2.2), ((val22.2.2), ((val24.2.2), (((⟨#[]⟩ : ByteArray)), (((⟨#[]⟩ : ByteArray)), ((0), (([]), (([]), ((val26.2.2), ((0), ((val28.2.2), ((0), (([]), (0))))))))))))))
                      else (cr_number val0.1 val0.2.1).bind fun val22 =>
                        (cr_number val22.1 val22.2.1).bind fun val24 =>
                          (cr_number val24.1 val24.2.1).bind fun val26 =>
                            (cr_number val26.1 val26.2.1).bind fun val28 =>
                              bif val28.2.1 == 0
                                then bif decide (ilen val28.1 > 0)
                                  then some ((0), ((0), ((0), (((⟨#[]⟩ : ByteArray)), (((⟨#[]⟩ : ByteArray)), ((0), (([]), (([]), ((0), ((0), ((0), ((0), (([]), (3))))))))))))))
                                  else bif val28.2.1 == 0
                                    then (cmd_Check val0.2.2 val22.2.2 val24.2.2 (⟨#[]⟩ : ByteArray) (⟨#[]⟩ : ByteArray) 0 [] [] val26.2.2 0 val28.2.2 0 []).bind fun val36 =>
                                      bif val36 != 0
                                        then some ((0), ((0), ((0), (((⟨#[]⟩ : ByteArray)), (((⟨#[]⟩ : ByteArray)), ((0), (([]), (([]), ((0), ((0), ((0), ((0), (([]), (val36))))))))))))))
                                        else some ((val0.2.2), ((val22.2.2), ((val24.2.2), (((⟨#[]⟩ : ByteArray)), (((⟨#[]⟩ : ByteArray)), ((0), (([]), (([]), ((val26.2.2), ((0), ((val28.2.2), ((0), (([]), (0))))))))))))))
                                    else bif val28.2.1 != 0
                                      then some ((0), ((0), ((0), (((⟨#[]⟩ : ByteArray)), (((⟨#[]⟩ : ByteArray)), ((0), (([]), (([]), ((0), ((0), ((0), ((0), (([]), (val28.2.1))))))))))))))
                                      else some ((val0.2.2), ((val22.2.2), ((val24.2.2), (((⟨#[]⟩ : ByteArray)), (((⟨#[]⟩ : ByteArray)), ((0), (([]), (([]), ((val26.2.2), ((0), ((val28.2.2), ((0), (([]), (0))))))))))))))
                                else bif val28.2.1 == 0
                                  then (cmd_Check val0.2.2 val22.2.2 val24.2.2 (⟨#[]⟩ : ByteArray) (⟨#[]⟩ : ByteArray) 0 [] [] val26.2.2 0 val28.2.2 0 []).bind fun val34 =>
                                    bif val34 != 0
                                      then some ((0), ((0), ((0), (((⟨#[]⟩ : ByteArray)), (((⟨#[]⟩ : ByteArray)), ((0), (([]), (([]), ((0), ((0), ((0), ((0), (([]), (val34))))))))))))))
                                      else some ((val0.2.2), ((val22.2.2), ((val24.2.2), (((⟨#[]⟩ : ByteArray)), (((⟨#[]⟩ : ByteArray)), ((0), (([]), (([]), ((val26.2.2), ((0), ((val28.2.2), ((0), (([]), (0))))))))))))))
                                  else bif val28.2.1 != 0
                                    then some ((0), ((0), ((0), (((⟨#[]⟩ : ByteArray)), (((⟨#[]⟩ : ByteArray)), ((0), (([]), (([]), ((0), ((0), ((0), ((0), (([]), (val28.2.1))))))))))))))
                                    else some ((val0.2.2), ((val22.2.2), ((val24.2.2), (((⟨#[]⟩ : ByteArray)), (((⟨#[]⟩ : ByteArray)), ((0), (([]), (([]), ((val26.2.2), ((0), ((val28.2.2), ((0), (([]), (0))))))))))))))
                    else bif val0.2.2 == 10
                      then bif val0.2.1 == 0
                        then (cr_number val0.1 val0.2.1).bind fun val24 =>
                          (cr_number val24.1 val24.2.1).bind fun val26 =>
                            (cr_number val26.1 val26.2.1).bind fun val28 =>
                              bif val28.2.1 == 0
                                then bif decide (ilen val28.1 > 0)
                                  then some ((0), ((0), ((0), (((⟨#[]⟩ : ByteArray)), (((⟨#[]⟩ : ByteArray)), ((0), (([]), (([]), ((0), ((0), ((0), ((0), (([]), (3))))))))))))))
                                  else bif val28.2.1 == 0
                                    then (cmd_Check val0.2.2 val24.2.2 val26.2.2 (⟨#[]⟩ : ByteArray) (⟨#[]⟩ : ByteArray) 0 [] [] val28.2.2 0 0 0 []).bind fun val36 =>
                                      bif val36 != 0
                                        then some ((0), ((0), ((0), (((⟨#[]⟩ : ByteArray)), (((⟨#[]⟩ : ByteArray)), ((0), (([]), (([]), ((0), ((0), ((0), ((0), (([]), (val36))))))))))))))
                                        else some ((val0.2.2), ((val24.2.2), ((val26.2.2), (((⟨#[]⟩ : ByteArray)), (((⟨#[]⟩ : ByteArray)), ((0), (([]), (([]), ((val28.2.2), ((0), ((0), ((0), (([]), (0))))))))))))))
                                    else bif val28.2.1 != 0
                                      then some ((0), ((0), ((0), (((⟨#[]⟩ : ByteArray)), (((⟨#[]⟩ : ByteArray)), ((0), (([]), (([]), ((0), ((0), ((0), ((0), (([]), (val28.2.1))))))))))))))
                                      else some ((val0.2.2), ((val24.2.2), ((val26.2.2), (((⟨#[]⟩ : ByteArray)), (((⟨#[]⟩ : ByteArray)), ((0), (([]), (([]), ((val28.2.2), ((0), ((0), ((0), (([]), (0))))))))))))))
                                else bif val28.2.1 == 0
                                  then (cmd_Check val0.2.2 val24.2.2 val26.2.2 (⟨#[]⟩ : ByteArray) (⟨#[]⟩ : ByteArray) 0 [] [] val28.2.2 0 0 0 []).bind fun val34 =>
                                    bif val34 != 0
                                      then some ((0), ((0), ((0), (((⟨#[]⟩ : ByteArray)), (((⟨#[]⟩ : ByteArray)), ((0), (([]), (([]), ((0), ((0), ((0), ((0), (([]), (val34))))))))))))))
                                      else some ((val0.2.2), ((val24.2.2), ((val26.2.2), (((⟨#[]⟩ : ByteArray)), (((⟨#[]⟩ : ByteArray)), ((0), (([]), (([]), ((val28.2.2), ((0), ((0), ((0), (([]), (0))))))))))))))
                                  else bif val28.2.1 != 0
                                    then some ((0), ((0), ((0), (((⟨#[]⟩ : ByteArray)), (((⟨#[]⟩ : ByteArray)), ((0), (([]), (([]), ((0), ((0), ((0), ((0), (([]), (val28.2.1))))))))))))))
                                    else some ((val0.2.2), ((val24.2.2), ((val26.2.2), (((⟨#[]⟩ : ByteArray)), (((⟨#[]⟩ : ByteArray)), ((0), (([]), (([]), ((val28.2.2), ((0), ((0), ((0), (([]), (0))))))))))))))
                        else (cr_number val0.1 val0.2.1).bind fun val24 =>
                          (cr_number val24.1 val24.2.1).bind fun val26 =>
                            (cr_number val26.1 val26.2.1).bind fun val28 =>
                              bif val28.2.1 == 0
                                then bif decide (ilen val28.1 > 0)
                                  then some ((0), ((0), ((0), (((⟨#[]⟩ : ByteArray)), (((⟨#[]⟩ : ByteArray)), ((0), (([]), (([]), ((0), ((0), ((0), ((0), (([]), (3))))))))))))))
                                  else bif val28.2.1 == 0
                                    then (cmd_Check val0.2.2 val24.2.2 val26.2.2 (⟨#[]⟩ : ByteArray) (⟨#[]⟩ : ByteArray) 0 [] [] val28.2.2 0 0 0 []).bind fun val36 =>
                                      bif val36 != 0
                                        then some ((0), ((0), ((0), (((⟨#[]⟩ : ByteArray)), (((⟨#[]⟩ : ByteArray)), ((0), (([]), (([]), ((0), ((0), ((0), ((0), (([]), (val36))))))))))))))
                                        else some ((val0.2.2), ((val24.2.2), ((val26.2.2), (((⟨#[]⟩ : ByteArray)), (((⟨#[]⟩ : ByteArray)), ((0), (([]), (([]), ((val28.2.2), ((0), ((0), ((0), (([]), (0))))))))))))))
                                    else bif val28.2.1 != 0
                                      then some ((0), ((0), ((0), (((⟨#[]⟩ : ByteArray)), (((⟨#[]⟩ : ByteArray)), ((0), (([]), (([]), ((0), ((0), ((0), ((0), (([]), (val28.2.1))))))))))))))
                                      else some ((val0.2.2), ((val24.2.2), ((val26.2.2), (((⟨#[]⟩ : ByteArray)), (((⟨#[]⟩ : ByteArray)), ((0), (([]), (([]), ((val28.2.2), ((0), ((0), ((0), (([]), (0))))))))))))))
                                else bif val28.2.1 == 0
                                  then (cmd_Check val0.2.2 val24.2.2 val26.2.2 (⟨#[]⟩ : ByteArray) (⟨#[]⟩ : ByteArray) 0 [] [] val28.2.2 0 0 0 []).bind fun val34 =>
                                    bif val34 != 0
                                      then some ((0), ((0), ((0), (((⟨#[]⟩ : ByteArray)), (((⟨#[]⟩ : ByteArray)), ((0), (([]), (([]), ((0), ((0), ((0), ((0), (([]), (val34))))))))))))))
                                      else some ((val0.2.2), ((val24.2.2), ((val26.2.2), (((⟨#[]⟩ : ByteArray)), (((⟨#[]⟩ : ByteArray)), ((0), (([]), (([]), ((val28.2.2), ((0), ((0), ((0), (([]), (0))))))))))))))
                                  else bif val28.2.1 != 0
                                    then some ((0), ((0), ((0), (((⟨#[]⟩ : ByteArray)), (((⟨#[]⟩ : ByteArray)), ((0), (([]), (([]), ((0), ((0), ((0), ((0), (([]), (val28.2.1))))))))))))))
                                    else some ((val0.2.2), ((val24.2.2), ((val26.2.2), (((⟨#[]⟩ : ByteArray)), (((⟨#[]⟩ : ByteArray)), ((0), (([]), (([]), ((val28.2.2), ((0), ((0), ((0), (([]), (0))))))))))))))
                      else bif val0.2.2 == 11
                        then bif val0.2.1 == 0
                          then (cr_number val0.1 val0.2.1).bind fun val26 =>
                            (cr_number val26.1 val26.2.1).bind fun val28 =>
                              (cr_bytes val28.1 val28.2.1).bind fun val30 =>
                                (cmd_CloneB val30.2.2).bind fun val32 =>
                                  bif val30.2.1 == 0
                                    then bif decide (ilen val30.1 > 0)
                                      then some ((0), ((0), ((0), (((⟨#[]⟩ : ByteArray)), (((⟨#[]⟩ : ByteArray)), ((0), (([]), (([]), ((0), ((0), ((0), ((0), (([]), (3))))))))))))))
                                      else bif val30.2.1 == 0
                                        then (cmd_Check val0.2.2 0 0 (⟨#[]⟩ : ByteArray) (⟨#[]⟩ : ByteArray) 0 [] [] val26.2.2 0 val28.2.2 0 val32).bind fun val40 =>
                                          bif val40 != 0
                                            then some ((0), ((0), ((0), (((⟨#[]⟩ : ByteArray)), (((⟨#[]⟩ : ByteArray)), ((0), (([]), (([]), ((0), ((0), ((0), ((0), (([]), (val40))))))))))))))
                                            else some ((val0.2.2), ((0), ((0), (((⟨#[]⟩ : ByteArray)), (((⟨#[]⟩ : ByteArray)), ((0), (([]), (([]), ((val26.2.2), ((0), ((val28.2.2), ((0), ((val32), (0))))))))))))))
                                        else bif val30.2.1 != 0
                                          then some ((0), ((0), ((0), (((⟨#[]⟩ : ByteArray)), (((⟨#[]⟩ : ByteArray)), ((0), (([]), (([]), ((0), ((0), ((0), ((0), (([]), (val30.2.1))))))))))))))
                                          else some ((val0.2.2), ((0), ((0), (((⟨#[]⟩ : ByteArray)), (((⟨#[]⟩ : ByteArray)), ((0), (([]), (([]), ((val26.2.2), ((0), ((val28.2.2), ((0), ((val32), (0))))))))))))))
                                    else bif val30.2.1 == 0
                                      then (cmd_Check val0.2.2 0 0 (⟨#[]⟩ : ByteArray) (⟨#[]⟩ : ByteArray) 0 [] [] val26.2.2 0 val28.2.2 0 val32).bind fun val38 =>
                                        bif val38 != 0
                                          then some ((0), ((0), ((0), (((⟨#[]⟩ : ByteArray)), (((⟨#[]⟩ : ByteArray)), ((0), (([]), (([]), ((0), ((0), ((0), ((0), (([]), (val38))))))))))))))
                                          else some ((val0.2.2), ((0), ((0), (((⟨#[]⟩ : ByteArray)), (((⟨#[]⟩ : ByteArray)), ((0), (([]), (([]), ((val26.2.2), ((0), ((val28.2.2), ((0), ((val32), (0))))))))))))))
                                      else bif val30.2.1 != 0
                                        then some ((0), ((0), ((0), (((⟨#[]⟩ : ByteArray)), (((⟨#[]⟩ : ByteArray)), ((0), (([]), (([]), ((0), ((0), ((0), ((0), (([]), (val30.2.1))))))))))))))
                                        else some ((val0.2.2), ((0), ((0), (((⟨#[]⟩ : ByteArray)), (((⟨#[]⟩ : ByteArray)), ((0), (([]), (([]), ((val26.2.2), ((0), ((val28.2.2), ((0), ((val32), (0))))))))))))))
                          else (cr_number val0.1 val0.2.1).bind fun val26 =>
                            (cr_number val26.1 val26.2.1).bind fun val28 =>
                              (cr_bytes val28.1 val28.2.1).bind fun val30 =>
                                (cmd_CloneB val30.2.2).bind fun val32 =>
                                  bif val30.2.1 == 0
                                    then bif decide (ilen val30.1 > 0)
                                      then some ((0), ((0), ((0), (((⟨#[]⟩ : ByteArray)), (((⟨#[]⟩ : ByteArray)), ((0), (([]), (([]), ((0), ((0), ((0), ((0), (([]), (3))))))))))))))
                                      else bif val30.2.1 == 0
                                        then (cmd_Check val0.2.2 0 0 (⟨#[]⟩ : ByteArray) (⟨#[]⟩ : ByteArray) 0 [] [] val26.2.2 0 val28.2.2 0 val32).bind fun val40 =>
                                          bif val40 != 0
                                            then some ((0), ((0), ((0), (((⟨#[]⟩ : ByteArray)), (((⟨#[]⟩ : ByteArray)), ((0), (([]), (([]), ((0), ((0), ((0), ((0), (([]), (val40))))))))))))))
                                            else some ((val0.2.2), ((0), ((0), (((⟨#[]⟩ : ByteArray)), (((⟨#[]⟩ : ByteArray)), ((0), (([]), (([]), ((val26.2.2), ((0), ((val28.2.2), ((0), ((val32), (0))))))))))))))
                                        else bif val30.2.1 != 0
                                          then some ((0), ((0), ((0), (((⟨#[]⟩ : ByteArray)), (((⟨#[]⟩ : ByteArray)), ((0), (([]), (([]), ((0), ((0), ((0), ((0), (([]), (val30.2.1))))))))))))))
                                          else some ((val0.2.2), ((0), ((0), (((⟨#[]⟩ : ByteArray)), (((⟨#[]⟩ : ByteArray)), ((0), (([]), (([]), ((val26.2.2), ((0), ((val28.2.2), ((0), ((val32), (0))))))))))))))
                                    else bif val30.2.1 == 0
                                      then (cmd_Check val0.2.2 0 0 (⟨#[]⟩ : ByteArray) (⟨#[]⟩ : ByteArray) 0 [] [] val26.2.2 0 val28.2.2 0 val32).bind fun val38 =>
                                        bif val38 != 0
                                          then some ((0), ((0), ((0), (((⟨#[]⟩ : ByteArray)), (((⟨#[]⟩ : ByteArray)), ((0), (([]), (([]), ((0), ((0), ((0), ((0), (([]), (val38))))))))))))))
                                          else some ((val0.2.2), ((0), ((0), (((⟨#[]⟩ : ByteArray)), (((⟨#[]⟩ : ByteArray)), ((0), (([]), (([]), ((val26.2.2), ((0), ((val28.2.2), ((0), ((val32), (0))))))))))))))
                                      else bif val30.2.1 != 0
                                        then some ((0), ((0), ((0), (((⟨#[]⟩ : ByteArray)), (((⟨#[]⟩ : ByteArray)), ((0), (([]), (([]), ((0), ((0), ((0), ((0), (([]), (val30.2.1))))))))))))))
                                        else some ((val0.2.2), ((0), ((0), (((⟨#[]⟩ : ByteArray)), (((⟨#[]⟩ : ByteArray)), ((0), (([]), (([]), ((val26.2.2), ((0), ((val28.2.2), ((0), ((val32), (0))))))))))))))
                        else bif val0.2.2 == 12
                          then bif val0.2.1 == 0
                            then (cr_number val0.1 val0.2.1).bind fun val28 =>
                              (cr_number val28.1 val28.2.1).bind fun val30 =>
                                bif val30.2.1 == 0
                                  then bif decide (ilen val30.1 > 0)
                                    then some ((0), ((0), ((0), (((⟨#[]⟩ : ByteArray)), (((⟨#[]⟩ : ByteArray)), ((0), (([]), (([]), ((0), ((0), ((0), ((0), (([]), (3))))))))))))))
                                    else bif val30.2.1 == 0
                                      then (cmd_Check val0.2.2 0 0 (⟨#[]⟩ : ByteArray) (⟨#[]⟩ : ByteArray) 0 [] [] val28.2.2 0 val30.2.2 0 []).bind fun val38 =>
                                        bif val38 != 0
                                          then some ((0), ((0), ((0), (((⟨#[]⟩ : ByteArray)), (((⟨#[]⟩ : ByteArray)), ((0), (([]), (([]), ((0), ((0), ((0), ((0), (([]), (val38))))))))))))))
                                          else some ((val0.2.2), ((0), ((0), (((⟨#[]⟩ : ByteArray)), (((⟨#[]⟩ : ByteArray)), ((0), (([]), (([]), ((val28.2.2), ((0), ((val30.2.2), ((0), (([]), (0))))))))))))))
                                      else bif val30.2.1 != 0
                                        then some ((0), ((0), ((0), (((⟨#[]⟩ : ByteArray)), (((⟨#[]⟩ : ByteArray)), ((0), (([]), (([]), ((0), ((0), ((0), ((0), (([]), (val30.2.1))))))))))))))
                                        else some ((val0.2.2), ((0), ((0), (((⟨#[]⟩ : ByteArray)), (((⟨#[]⟩ : ByteArray)), ((0), (([]), (([]), ((val28.2.2), ((0), ((val30.2.2), ((0), (([]), (0))))))))))))))
                                  else bif val30.2.1 == 0
                                    then (cmd_Check val0.2.2 0 0 (⟨#[]⟩ : ByteArray) (⟨#[]⟩ : ByteArray) 0 [] [] val28.2.2 0 val30.2.2 0 []).bind fun val36 =>
                                      bif val36 != 0
                                        then some ((0), ((0), ((0), (((⟨#[]⟩ : ByteArray)), (((⟨#[]⟩ : ByteArray)), ((0), (([]), (([]), ((0), ((0), ((0), ((0), (([]), (val36))))))))))))))
                                        else some ((val0.2.2), ((0), ((0), (((⟨#[]⟩ : ByteArray)), (((⟨#[]⟩ : ByteArray)), ((0), (([]), (([]), ((val28.2.2), ((0), ((val30.2.2), ((0), (([]), (0))))))))))))))
                                    else bif val30.2.1 != 0
                                      then some ((0), ((0), ((0), (((⟨#[]⟩ : ByteArray)), (((⟨#[]⟩ : ByteArray)), ((0), (([]), (([]), ((0), ((0), ((0), ((0), (([]), (val30.2.1))))))))))))))
                                      else some ((val0.2.2), ((0), ((0), (((⟨#[]⟩ : ByteArray)), (((⟨#[]⟩ : ByteArray)), ((0), (([]), (([]), ((val28.2.2), ((0), ((val30.2.2), ((0), (([]), (0))))))))))))))
                            else (cr_number val0.1 val0.2.1).bind fun val28 =>
                              (cr_number val28.1 val28.2.1).bind fun val30 =>
                                bif val30.2.1 == 0
                                  then bif decide (ilen val30.1 > 0)
                                    then some ((0), ((0), ((0), (((⟨#[]⟩ : ByteArray)), (((⟨#[]⟩ : ByteArray)), ((0), (([]), (([]), ((0), ((0), ((0), ((0), (([]), (3))))))))))))))
                                    else bif val30.2.1 == 0
                                      then (cmd_Check val0.2.2 0 0 (⟨#[]⟩ : ByteArray) (⟨#[]⟩ : ByteArray) 0 [] [] val28.2.2 0 val30.2.2 0 []).bind fun val38 =>
                                        bif val38 != 0
                                          then some ((0), ((0), ((0), (((⟨#[]⟩ : ByteArray)), (((⟨#[]⟩ : ByteArray)), ((0), (([]), (([]), ((0), ((0), ((0), ((0), (([]), (val38))))))))))))))
                                          else some ((val0.2.2), ((0), ((0), (((⟨#[]⟩ : ByteArray)), (((⟨#[]⟩ : ByteArray)), ((0), (([]), (([]), ((val28.2.2), ((0), ((val30.2.2), ((0), (([]), (0))))))))))))))
                                      else bif val30.2.1 != 0
                                        then some ((0), ((0), ((0), (((⟨#[]⟩ : ByteArray)), (((⟨#[]⟩ : ByteArray)), ((0), (([]), (([]), ((0), ((0), ((0), ((0), (([]), (val30.2.1))))))))))))))
                                        else some ((val0.2.2), ((0), ((0), (((⟨#[]⟩ : ByteArray)), (((⟨#[]⟩ : ByteArray)), ((0), (([]), (([]), ((val28.2.2), ((0), ((val30.2.2), ((0), (([]), (0))))))))))))))
                                  else bif val30.2.1 == 0
                                    then (cmd_Check val0.2.2 0 0 (⟨#[]⟩ : ByteArray) (⟨#[]⟩ : ByteArray) 0 [] [] val28.2.2 0 val30.2.2 0 []).bind fun val36 =>
                                      bif val36 != 0
                                        then some ((0), ((0), ((0), (((⟨#[]⟩ : ByteArray)), (((⟨#[]⟩ : ByteArray)), ((0), (([]), (([]), ((0), ((0), ((0), ((0), (([]), (val36))))))))))))))
                                        else some ((val0.2.2), ((0), ((0), (((⟨#[]⟩ : ByteArray)), (((⟨#[]⟩ : ByteArray)), ((0), (([]), (([]), ((val28.2.2), ((0), ((val30.2.2), ((0), (([]), (0))))))))))))))
                                    else bif val30.2.1 != 0
                                      then some ((0), ((0), ((0), (((⟨#[]⟩ : ByteArray)), (((⟨#[]⟩ : ByteArray)), ((0), (([]), (([]), ((0), ((0), ((0), ((0), (([]), (val30.2.1))))))))))))))
                                      else some ((val0.2.2), ((0), ((0), (((⟨#[]⟩ : ByteArray)), (((⟨#[]⟩ : ByteArray)), ((0), (([]), (([]), ((val28.2.2), ((0), ((val30.2.2), ((0), (([]), (0))))))))))))))
                          else bif val0.2.1 == 0
                            then some ((0), ((0), ((0), (((⟨#[]⟩ : ByteArray)), (((⟨#[]⟩ : ByteArray)), ((0), (([]), (([]), ((0), ((0), ((0), ((0), (([]), (3))))))))))))))
                            else bif val0.2.1 == 0
                              then bif decide (ilen val0.1 > 0)
                                then some ((0), ((0), ((0), (((⟨#[]⟩ : ByteArray)), (((⟨#[]⟩ : ByteArray)), ((0), (([]), (([]), ((0), ((0), ((0), ((0), (([]), (3))))))))))))))
                                else bif val0.2.1 == 0
                                  then (cmd_Check val0.2.2 0 0 (⟨#[]⟩ : ByteArray) (⟨#[]⟩ : ByteArray) 0 [] [] 0 0 0 0 []).bind fun val34 =>
                                    bif val34 != 0
                                      then some ((0), ((0), ((0), (((⟨#[]⟩ : ByteArray)), (((⟨#[]⟩ : ByteArray)), ((0), (([]), (([]), ((0), ((0), ((0), ((0), (([]), (val34))))))))))))))
                                      else some ((val0.2.2), ((0), ((0), (((⟨#[]⟩ : ByteArray)), (((⟨#[]⟩ : ByteArray)), ((0), (([]), (([]), ((0), ((0), ((0), ((0), (([]), (0))))))))))))))
                                  else bif val0.2.1 != 0
                                    then some ((0), ((0), ((0), (((⟨#[]⟩ : ByteArray)), (((⟨#[]⟩ : ByteArray)), ((0), (([]), (([]), ((0), ((0), ((0), ((0), (([]), (val0.2.1))))))))))))))
                                    else some ((val0.2.2), ((0), ((0), (((⟨#[]⟩ : ByteArray)), (((⟨#[]⟩ : ByteArray)), ((0), (([]), (([]), ((0), ((0), ((0), ((0), (([]), (0))))))))))))))
                              else bif val0.2.1 == 0
                                then (cmd_Check val0.2.2 0 0 (⟨#[]⟩ : ByteArray) (⟨#[]⟩ : ByteArray) 0 [] [] 0 0 0 0 []).bind fun val32 =>
                                  bif val32 != 0
                                    then some ((0), ((0), ((0), (((⟨#[]⟩ : ByteArray)), (((⟨#[]⟩ : ByteArray)), ((0), (([]), (([]), ((0), ((0), ((0), ((0), (([]), (val32))))))))))))))
                                    else some ((val0.2.2), ((0), ((0), (((⟨#[]⟩ : ByteArray)), (((⟨#[]⟩ : ByteArray)), ((0), (([]), (([]), ((0), ((0), ((0), ((0), (([]), (0))))))))))))))
                                else bif val0.2.1 != 0
                                  then some ((0), ((0), ((0), (((⟨#[]⟩ : ByteArray)), (((⟨#[]⟩ : ByteArray)), ((0), (([]), (([]), ((0), ((0), ((0), ((0), (([]), (val0.2.1))))))))))))))
                                  else some ((val0.2.2), ((0), ((0), (((⟨#[]⟩ : ByteArray)), (((⟨#[]⟩ : ByteArray)), ((0), (([]), (([]), ((0), ((0), ((0), ((0), (([]), (0)))))))))))))) := (cmd_Read_raw x0).trans (by kernel_rfl)
noncomputable def cmd_Read_sig : Sig := { pm := [(false, [(false, .slice (.int .u8))])], rm := [(true, [(false, .int .i64), (false, .int .i64), (false, .int .i64), (false, .str), (false, .str), (false, .int .i64), (false, .slice (.str)), (false, .slice (.int .i64)), (false, .int .i64), (false, .int .i64), (false, .int .i64), (false, .int .i64), (false, .slice (.int .u8))]), (false, [(false, .int .i64)])], f := fun | [⟨.slice (.int .u8), x0⟩] => .yes _ (cmd_Read x0) cmd_Read_mk | _ => .no }
theorem cmd_Read_ok : SigOk Try.prog 17 cmd_Read_sig := by
  refine contract_of (C := cmd_Read_C) (d := 3) ⟨S26_ok, P33_ok⟩ (callable_ex (by kernel_rfl)) ?_
  intro dvs
  unfold cmd_Read_sig
  dsimp only
  split
  · refine .inr ⟨_, cmd_Read_un, cmd_Read_mk, congrArg (fun o => Cl.yes _ o _) (cmd_Read_raw _), ?_⟩
    intro ds x h
    unfold cmd_Read_un at h
    split at h
    · cases h; rfl
    · cases h
  · exact .inl rfl
noncomputable def S34 : List (Nat × Sig) := (17, cmd_Read_sig) :: S26
theorem S34_ok : ListOk Try.prog S34 := ListOk.cons S26_ok cmd_Read_ok
end Go.Proofs.Ytgaihonnbdhbmaa.PE
