import Derived.Test.YtpoblfpjjlplbaaEFun
import Derived.KernelRfl
namespace Go.Proofs.Ytpoblfpjjlplbaa.PE
set_option linter.unusedVariables false
open Go.Proofs
noncomputable def S0 : List (Nat × Sig) := []
theorem S0_ok : ListOk Try.prog S0 := ListOk.nil
noncomputable def P0 : List (Nat × Sig) := []
theorem P0_ok : ListPOk Try.prog P0 := ListPOk.nil
noncomputable def bytes_Equal_C : Cfg := { P := Try.prog, sig := lookSig S0, hb := fun _ _ => none, hr := fun _ _ => none }
noncomputable def bytes_Equal_un : List DV → Option (Bool) := fun | [⟨.bool, r0⟩] => some r0 | _ => none
noncomputable def bytes_Equal_mk : Bool → List DV := fun r0 => [⟨.bool, r0⟩]
theorem bytes_Equal_ex : ∃ f : (List Int) → (List Int) → Option (Bool), f = fun (x0 : List Int) (x1 : List Int) => funRun bytes_Equal_C 3 32 [(false, [(false, .slice (.int .u8))]), (false, [(false, .slice (.int .u8))])] [(false, [(false, .bool)])] bytes_Equal_un [⟨.slice (.int .u8), x0⟩, ⟨.slice (.int .u8), x1⟩] := ⟨_, rfl⟩
noncomputable def bytes_Equal : (List Int) → (List Int) → Option (Bool) := bytes_Equal_ex.choose
theorem bytes_Equal_raw (x0 : List Int) (x1 : List Int) : bytes_Equal x0 x1 = funRun bytes_Equal_C 3 32 [(false, [(false, .slice (.int .u8))]), (false, [(false, .slice (.int .u8))])] [(false, [(false, .bool)])] bytes_Equal_un [⟨.slice (.int .u8), x0⟩, ⟨.slice (.int .u8), x1⟩] := congrFun (congrFun (bytes_Equal_ex.choose_spec) x0) x1
theorem bytes_Equal_eq (x0 : List Int) (x1 : List Int) : bytes_Equal x0 x1 =
  some ((strOf x0).toList == (strOf x1).toList) := (bytes_Equal_raw x0 x1).trans (by kernel_rfl)
noncomputable def bytes_Equal_sig : Sig := { pm := [(false, [(false, .slice (.int .u8))]), (false, [(false, .slice (.int .u8))])], rm := [(false, [(false, .bool)])], f := fun | [⟨.slice (.int .u8), x0⟩, ⟨.slice (.int .u8), x1⟩] => .yes _ (bytes_Equal x0 x1) bytes_Equal_mk | _ => .no }
theorem bytes_Equal_ok : SigOk Try.prog 32 bytes_Equal_sig := by
  refine contract_of (C := bytes_Equal_C) (d := 3) ⟨S0_ok, noPs⟩ (callable_ex (by kernel_rfl)) ?_
  intro dvs
  unfold bytes_Equal_sig
  dsimp only
  split
  · refine .inr ⟨_, bytes_Equal_un, bytes_Equal_mk, congrArg (fun o => Cl.yes _ o _) (bytes_Equal_raw _ _), ?_⟩
    intro ds x h
    unfold bytes_Equal_un at h
    split at h
    · cases h; rfl
    · cases h
  · exact .inl rfl
noncomputable def S1 : List (Nat × Sig) := (32, bytes_Equal_sig) :: S0
theorem S1_ok : ListOk Try.prog S1 := ListOk.cons S0_ok bytes_Equal_ok
noncomputable def ref02_Same_C : Cfg := { P := Try.prog, sig := lookSig S1, hb := fun _ _ => none, hr := fun _ _ => none }
noncomputable def ref02_Same_un : List DV → Option (Bool) := fun | [⟨.bool, r0⟩] => some r0 | _ => none
noncomputable def ref02_Same_mk : Bool → List DV := fun r0 => [⟨.bool, r0⟩]
theorem ref02_Same_ex : ∃ f : (List Int) → (List Int) → Option (Bool), f = fun (x0 : List Int) (x1 : List Int) => funRun ref02_Same_C 3 12 [(false, [(false, .slice (.int .u8))]), (false, [(false, .slice (.int .u8))])] [(false, [(false, .bool)])] ref02_Same_un [⟨.slice (.int .u8), x0⟩, ⟨.slice (.int .u8), x1⟩] := ⟨_, rfl⟩
noncomputable def ref02_Same : (List Int) → (List Int) → Option (Bool) := ref02_Same_ex.choose
theorem ref02_Same_raw (x0 : List Int) (x1 : List Int) : ref02_Same x0 x1 = funRun ref02_Same_C 3 12 [(false, [(false, .slice (.int .u8))]), (false, [(false, .slice (.int .u8))])] [(false, [(false, .bool)])] ref02_Same_un [⟨.slice (.int .u8), x0⟩, ⟨.slice (.int .u8), x1⟩] := congrFun (congrFun (ref02_Same_ex.choose_spec) x0) x1
theorem ref02_Same_eq (x0 : List Int) (x1 : List Int) : ref02_Same x0 x1 =
  some ((strOf x0).toList == (strOf x1).toList) := (ref02_Same_raw x0 x1).trans (by kernel_rfl)
noncomputable def ref02_Same_sig : Sig := { pm := [(false, [(false, .slice (.int .u8))]), (false, [(false, .slice (.int .u8))])], rm := [(false, [(false, .bool)])], f := fun | [⟨.slice (.int .u8), x0⟩, ⟨.slice (.int .u8), x1⟩] => .yes _ (ref02_Same x0 x1) ref02_Same_mk | _ => .no }
theorem ref02_Same_ok : SigOk Try.prog 12 ref02_Same_sig := by
  refine contract_of (C := ref02_Same_C) (d := 3) ⟨S1_ok, noPs⟩ (callable_ex (by kernel_rfl)) ?_
  intro dvs
  unfold ref02_Same_sig
  dsimp only
  split
  · refine .inr ⟨_, ref02_Same_un, ref02_Same_mk, congrArg (fun o => Cl.yes _ o _) (ref02_Same_raw _ _), ?_⟩
    intro ds x h
    unfold ref02_Same_un at h
    split at h
    · cases h; rfl
    · cases h
  · exact .inl rfl
noncomputable def S2 : List (Nat × Sig) := (12, ref02_Same_sig) :: S1
theorem S2_ok : ListOk Try.prog S2 := ListOk.cons S1_ok ref02_Same_ok
noncomputable def packet_CloneB_C : Cfg := { P := Try.prog, sig := lookSig S2, hb := fun _ _ => none, hr := fun _ _ => none }
noncomputable def packet_CloneB_un : List DV → Option ((List Int)) := fun | [⟨.slice (.int .u8), r0⟩] => some r0 | _ => none
noncomputable def packet_CloneB_mk : (List Int) → List DV := fun r0 => [⟨.slice (.int .u8), r0⟩]
theorem packet_CloneB_ex : ∃ f : (List Int) → Option ((List Int)), f = fun (x0 : List Int) => avRun packet_CloneB_C 3 51 [(false, [(true, .slice (.int .u8))])] packet_CloneB_un [.fz (.int .u8) x0 false true] := ⟨_, rfl⟩
noncomputable def packet_CloneB : (List Int) → Option ((List Int)) := packet_CloneB_ex.choose
theorem packet_CloneB_raw (x0 : List Int) : packet_CloneB x0 = avRun packet_CloneB_C 3 51 [(false, [(true, .slice (.int .u8))])] packet_CloneB_un [.fz (.int .u8) x0 false true] := congrFun (packet_CloneB_ex.choose_spec) x0
theorem packet_CloneB_eq (x0 : List Int) : packet_CloneB x0 =
  bif decide ((0 + ilen x0) * 1 ≤ room)
  then some ([] ++ x0)
  else none := (packet_CloneB_raw x0).trans (by kernel_rfl)
theorem packet_CloneB_nil : avRun packet_CloneB_C 3 51 [(false, [(true, .slice (.int .u8))])] packet_CloneB_un [.nils] = some ([]) := by kernel_rfl
noncomputable def packet_CloneB_sig : Sig := { pm := [(false, [(false, .slice (.int .u8))])], rm := [(false, [(true, .slice (.int .u8))])], f := fun | [⟨.slice (.int .u8), x0⟩] => .yes _ (packet_CloneB x0) packet_CloneB_mk | _ => .no }
theorem packet_CloneB_ok : SigOk Try.prog 51 packet_CloneB_sig := by
  refine contract_slice (C := packet_CloneB_C) (d := 3) ⟨S2_ok, noPs⟩ rfl (callable_ex (by kernel_rfl)) ?_
  intro dvs
  unfold packet_CloneB_sig
  dsimp only
  split
  · refine .inr ⟨_, packet_CloneB_un, packet_CloneB_mk, _, rfl, congrArg (fun o => Cl.yes _ o _) (packet_CloneB_raw _), ?_, ?_⟩
    · intro ds x h
      unfold packet_CloneB_un at h
      split at h
      · cases h; rfl
      · cases h
    · intro x hl ho
      subst hl
      rw [← packet_CloneB_raw, packet_CloneB_eq] at ho
      rw [packet_CloneB_nil]
      simpa [ilen, room] using ho
  · exact .inl rfl
noncomputable def S3 : List (Nat × Sig) := (51, packet_CloneB_sig) :: S2
theorem S3_ok : ListOk Try.prog S3 := ListOk.cons S2_ok packet_CloneB_ok
noncomputable def pack_Uint_C : Cfg := { P := Try.prog, sig := lookSig S3, hb := fun f b =>  bif Nat.beq f 38 && Nat.beq b 0 then some { tmps := [0, 1], obs := [0], nils := [], kl := [0, 188] } else none, hr := fun _ _ => none }
noncomputable def pack_Uint_un : List DV → Option ((List Int)) := fun | [⟨.slice (.int .u8), r0⟩] => some r0 | _ => none
noncomputable def pack_Uint_mk : (List Int) → List DV := fun r0 => [⟨.slice (.int .u8), r0⟩]
theorem pack_Uint_ex : ∃ f : (List Int) → (Int) → Option ((List Int)), f = fun (x0 : List Int) (x1 : Int) => funRun pack_Uint_C 3 38 [(false, [(true, .slice (.int .u8))]), (false, [(false, .int .u64)])] [(false, [(true, .slice (.int .u8))])] pack_Uint_un [⟨.slice (.int .u8), x0⟩, ⟨.int .u64, x1⟩] := ⟨_, rfl⟩
noncomputable def pack_Uint : (List Int) → (Int) → Option ((List Int)) := pack_Uint_ex.choose
theorem pack_Uint_raw (x0 : List Int) (x1 : Int) : pack_Uint x0 x1 = funRun pack_Uint_C 3 38 [(false, [(true, .slice (.int .u8))]), (false, [(false, .int .u64)])] [(false, [(true, .slice (.int .u8))])] pack_Uint_un [⟨.slice (.int .u8), x0⟩, ⟨.int .u64, x1⟩] := congrFun (congrFun (pack_Uint_ex.choose_spec) x0) x1
noncomputable def pack_Uint_l0 (y0 : Int) (y1 : List (Int)) : Option ((List Int)) := loopAt pack_Uint_C 3 38 [(false, [(true, .slice (.int .u8))])] pack_Uint_un [true, false, false] (St.ofLists [(0, .ow 0), (1, .int .u64 y0)] [(0, some (.row (Ty.int IntKind.u8) y1 0 false))] [0, 188])
theorem pack_Uint_eq (x0 : List Int) (x1 : Int) : pack_Uint x0 x1 =
  pack_Uint_l0 (x1) (x0) := (pack_Uint_raw x0 x1).trans (by kernel_rfl)
theorem pack_Uint_l0_eq (y0 : Int) (y1 : List (Int)) : pack_Uint_l0 y0 y1 =
  bif decide (y0 ≥ 128)
  then bif decide ((ilen y1 + ilen [IntKind.u8.wrap ↑(BitVec.ofInt IntKind.u8.bits (IntKind.u8.wrap y0) ||| BitVec.ofInt IntKind.u8.bits 128).toNat]) * 1 ≤ room)
    then pack_Uint_l0 (y0.fdiv (2 ^ min (Int.toNat 7) IntKind.u64.bits)) (y1 ++ [IntKind.u8.wrap ↑(BitVec.ofInt IntKind.u8.bits (IntKind.u8.wrap y0) ||| BitVec.ofInt IntKind.u8.bits 128).toNat])
    else none
  else bif decide ((ilen y1 + ilen [IntKind.u8.wrap y0]) * 1 ≤ room)
    then some (y1 ++ [IntKind.u8.wrap y0])
    else none := (loopAt_step _ _ _ _ _ _ _).trans (by kernel_rfl)
noncomputable def pack_Uint_sig : Sig := { pm := [(false, [(true, .slice (.int .u8))]), (false, [(false, .int .u64)])], rm := [(false, [(true, .slice (.int .u8))])], f := fun | [⟨.slice (.int .u8), x0⟩, ⟨.int .u64, x1⟩] => .yes _ (pack_Uint x0 x1) pack_Uint_mk | _ => .no }
theorem pack_Uint_ok : SigOk Try.prog 38 pack_Uint_sig := by
  refine contract_of (C := pack_Uint_C) (d := 3) ⟨S3_ok, noPs⟩ (callable_ex (by kernel_rfl)) ?_
  intro dvs
  unfold pack_Uint_sig
  dsimp only
  split
  · refine .inr ⟨_, pack_Uint_un, pack_Uint_mk, congrArg (fun o => Cl.yes _ o _) (pack_Uint_raw _ _), ?_⟩
    intro ds x h
    unfold pack_Uint_un at h
    split at h
    · cases h; rfl
    · cases h
  · exact .inl rfl
noncomputable def S4 : List (Nat × Sig) := (38, pack_Uint_sig) :: S3
theorem S4_ok : ListOk Try.prog S4 := ListOk.cons S3_ok pack_Uint_ok
noncomputable def pack_Bytes_C : Cfg := { P := Try.prog, sig := lookSig S4, hb := fun _ _ => none, hr := fun _ _ => none }
noncomputable def pack_Bytes_un : List DV → Option ((List Int)) := fun | [⟨.slice (.int .u8), r0⟩] => some r0 | _ => none
noncomputable def pack_Bytes_mk : (List Int) → List DV := fun r0 => [⟨.slice (.int .u8), r0⟩]
theorem pack_Bytes_ex : ∃ f : (List Int) → (List Int) → Option ((List Int)), f = fun (x0 : List Int) (x1 : List Int) => funRun pack_Bytes_C 3 24 [(false, [(true, .slice (.int .u8))]), (false, [(false, .slice (.int .u8))])] [(false, [(true, .slice (.int .u8))])] pack_Bytes_un [⟨.slice (.int .u8), x0⟩, ⟨.slice (.int .u8), x1⟩] := ⟨_, rfl⟩
noncomputable def pack_Bytes : (List Int) → (List Int) → Option ((List Int)) := pack_Bytes_ex.choose
theorem pack_Bytes_raw (x0 : List Int) (x1 : List Int) : pack_Bytes x0 x1 = funRun pack_Bytes_C 3 24 [(false, [(true, .slice (.int .u8))]), (false, [(false, .slice (.int .u8))])] [(false, [(true, .slice (.int .u8))])] pack_Bytes_un [⟨.slice (.int .u8), x0⟩, ⟨.slice (.int .u8), x1⟩] := congrFun (congrFun (pack_Bytes_ex.choose_spec) x0) x1
theorem pack_Bytes_eq (x0 : List Int) (x1 : List Int) : pack_Bytes x0 x1 =
  (pack_Uint x0 (IntKind.u64.wrap (ilen x1))).bind fun val0 =>
  bif decide ((ilen val0 + ilen x1) * 1 ≤ room)
    then some (val0 ++ x1)
    else none := (pack_Bytes_raw x0 x1).trans (by kernel_rfl)
noncomputable def pack_Bytes_sig : Sig := { pm := [(false, [(true, .slice (.int .u8))]), (false, [(false, .slice (.int .u8))])], rm := [(false, [(true, .slice (.int .u8))])], f := fun | [⟨.slice (.int .u8), x0⟩, ⟨.slice (.int .u8), x1⟩] => .yes _ (pack_Bytes x0 x1) pack_Bytes_mk | _ => .no }
theorem pack_Bytes_ok : SigOk Try.prog 24 pack_Bytes_sig := by
  refine contract_of (C := pack_Bytes_C) (d := 3) ⟨S4_ok, noPs⟩ (callable_ex (by kernel_rfl)) ?_
  intro dvs
  unfold pack_Bytes_sig
  dsimp only
  split
  · refine .inr ⟨_, pack_Bytes_un, pack_Bytes_mk, congrArg (fun o => Cl.yes _ o _) (pack_Bytes_raw _ _), ?_⟩
    intro ds x h
    unfold pack_Bytes_un at h
    split at h
    · cases h; rfl
    · cases h
  · exact .inl rfl
noncomputable def S5 : List (Nat × Sig) := (24, pack_Bytes_sig) :: S4
theorem S5_ok : ListOk Try.prog S5 := ListOk.cons S4_ok pack_Bytes_ok
noncomputable def pack_ReadUint_C : Cfg := { P := Try.prog, sig := lookSig S5, hb := fun f b =>  bif Nat.beq f 45 && Nat.beq b 0 then some { tmps := [0, 5, 10, 11], obs := [], nils := [], kl := [] } else none, hr := fun _ _ => none }
noncomputable def pack_ReadUint_un : List DV → Option (Int × (List Int) × Int) := fun | [⟨.int .u64, r0⟩, ⟨.slice (.int .u8), r1⟩, ⟨.int .i64, r2⟩] => some (r0, r1, r2) | _ => none
noncomputable def pack_ReadUint_mk : (Int × (List Int) × Int) → List DV := fun ⟨r0, r1, r2⟩ => [⟨.int .u64, r0⟩, ⟨.slice (.int .u8), r1⟩, ⟨.int .i64, r2⟩]
theorem pack_ReadUint_ex : ∃ f : (List Int) → Option (Int × (List Int) × Int), f = fun (x0 : List Int) => funRun pack_ReadUint_C 3 45 [(false, [(false, .slice (.int .u8))])] [(false, [(false, .int .u64)]), (false, [(false, .slice (.int .u8))]), (false, [(false, .int .i64)])] pack_ReadUint_un [⟨.slice (.int .u8), x0⟩] := ⟨_, rfl⟩
noncomputable def pack_ReadUint : (List Int) → Option (Int × (List Int) × Int) := pack_ReadUint_ex.choose
theorem pack_ReadUint_raw (x0 : List Int) : pack_ReadUint x0 = funRun pack_ReadUint_C 3 45 [(false, [(false, .slice (.int .u8))])] [(false, [(false, .int .u64)]), (false, [(false, .slice (.int .u8))]), (false, [(false, .int .i64)])] pack_ReadUint_un [⟨.slice (.int .u8), x0⟩] := congrFun (pack_ReadUint_ex.choose_spec) x0
noncomputable def pack_ReadUint_l0 (y0 : List (Int)) (y1 : Int) (y2 : Int) (y3 : Int) : Option (Int × (List Int) × Int) := loopAt pack_ReadUint_C 3 45 [(false, [(false, .int .u64)]), (false, [(false, .slice (.int .u8))]), (false, [(false, .int .i64)])] pack_ReadUint_un [true, true, false, true, false] (St.ofLists [(0, .fz (Ty.int IntKind.u8) y0 false false), (5, .int .u64 y1), (10, .int .i64 y2), (11, .int .i64 y3)] [] [])
theorem pack_ReadUint_eq (x0 : List Int) : pack_ReadUint x0 =
  pack_ReadUint_l0 (x0) (0) (if 10 < ilen x0 then 10 else ilen x0) (0) := (pack_ReadUint_raw x0).trans (by kernel_rfl)
theorem pack_ReadUint_l0_eq (y0 : List (Int)) (y1 : Int) (y2 : Int) (y3 : Int) : pack_ReadUint_l0 y0 y1 y2 y3 =
  bif decide (y3 < y2)
  then bif decide (0 ≤ y3)
    then (y0[y3.toNat]?).bind fun val4 =>
      bif y3 == 9
        then bif decide (IntKind.u64.wrap val4 > 1)
          then some ((0), (([]), (2)))
          else bif decide (IntKind.i64.wrap (7 * y3) < 0)
            then none
            else bif decide (IntKind.u64.wrap val4 < 128)
              then bif IntKind.u64.wrap val4 == 0
                then bif decide (y3 > 0)
                  then some ((0), (([]), (2)))
                  else bif decide (0 ≤ IntKind.i64.wrap (y3 + 1))
                    then bif decide (IntKind.i64.wrap (y3 + 1) ≤ ilen y0)
                      then bif decide (ilen y0 ≤ ilen y0)
                        then some ((IntKind.u64.wrap ↑(BitVec.ofInt IntKind.u64.bits y1 ||| BitVec.ofInt IntKind.u64.bits (IntKind.u64.wrap (IntKind.u64.wrap ↑(BitVec.ofInt IntKind.u64.bits (IntKind.u64.wrap val4) &&& BitVec.ofInt IntKind.u64.bits 127).toNat * 2 ^ min (IntKind.i64.wrap (7 * y3)).toNat IntKind.u64.bits))).toNat), ((List.drop (IntKind.i64.wrap (y3 + 1)).toNat (List.take (ilen y0).toNat y0)), (0)))
                        else none
                      else none
                    else none
                else bif decide (0 ≤ IntKind.i64.wrap (y3 + 1))
                  then bif decide (IntKind.i64.wrap (y3 + 1) ≤ ilen y0)
                    then bif decide (ilen y0 ≤ ilen y0)
                      then some ((IntKind.u64.wrap ↑(BitVec.ofInt IntKind.u64.bits y1 ||| BitVec.ofInt IntKind.u64.bits (IntKind.u64.wrap (IntKind.u64.wrap ↑(BitVec.ofInt IntKind.u64.bits (IntKind.u64.wrap val4) &&& BitVec.ofInt IntKind.u64.bits 127).toNat * 2 ^ min (IntKind.i64.wrap (7 * y3)).toNat IntKind.u64.bits))).toNat), ((List.drop (IntKind.i64.wrap (y3 + 1)).toNat (List.take (ilen y0).toNat y0)), (0)))
                      else none
                    else none
                  else none
              else pack_ReadUint_l0 (y0) (IntKind.u64.wrap ↑(BitVec.ofInt IntKind.u64.bits y1 ||| BitVec.ofInt IntKind.u64.bits (IntKind.u64.wrap (IntKind.u64.wrap ↑(BitVec.ofInt IntKind.u64.bits (IntKind.u64.wrap val4) &&& BitVec.ofInt IntKind.u64.bits 127).toNat * 2 ^ min (IntKind.i64.wrap (7 * y3)).toNat IntKind.u64.bits))).toNat) (y2) (IntKind.i64.wrap (y3 + 1))
        else bif decide (IntKind.i64.wrap (7 * y3) < 0)
          then none
          else bif decide (IntKind.u64.wrap val4 < 128)
            then bif IntKind.u64.wrap val4 == 0
              then bif decide (y3 > 0)
                then some ((0), (([]), (2)))
                else bif decide (0 ≤ IntKind.i64.wrap (y3 + 1))
                  then bif decide (IntKind.i64.wrap (y3 + 1) ≤ ilen y0)
                    then bif decide (ilen y0 ≤ ilen y0)
                      then some ((IntKind.u64.wrap ↑(BitVec.ofInt IntKind.u64.bits y1 ||| BitVec.ofInt IntKind.u64.bits (IntKind.u64.wrap (IntKind.u64.wrap ↑(BitVec.ofInt IntKind.u64.bits (IntKind.u64.wrap val4) &&& BitVec.ofInt IntKind.u64.bits 127).toNat * 2 ^ min (IntKind.i64.wrap (7 * y3)).toNat IntKind.u64.bits))).toNat), ((List.drop (IntKind.i64.wrap (y3 + 1)).toNat (List.take (ilen y0).toNat y0)), (0)))
                      else none
                    else none
                  else none
              else bif decide (0 ≤ IntKind.i64.wrap (y3 + 1))
                then bif decide (IntKind.i64.wrap (y3 + 1) ≤ ilen y0)
                  then bif decide (ilen y0 ≤ ilen y0)
                    then some ((IntKind.u64.wrap ↑(BitVec.ofInt IntKind.u64.bits y1 ||| BitVec.ofInt IntKind.u64.bits (IntKind.u64.wrap (IntKind.u64.wrap ↑(BitVec.ofInt IntKind.u64.bits (IntKind.u64.wrap val4) &&& BitVec.ofInt IntKind.u64.bits 127).toNat * 2 ^ min (IntKind.i64.wrap (7 * y3)).toNat IntKind.u64.bits))).toNat), ((List.drop (IntKind.i64.wrap (y3 + 1)).toNat (List.take (ilen y0).toNat y0)), (0)))
                    else none
                  else none
                else none
            else pack_ReadUint_l0 (y0) (IntKind.u64.wrap ↑(BitVec.ofInt IntKind.u64.bits y1 ||| BitVec.ofInt IntKind.u64.bits (IntKind.u64.wrap (IntKind.u64.wrap ↑(BitVec.ofInt IntKind.u64.bits (IntKind.u64.wrap val4) &&& BitVec.ofInt IntKind.u64.bits 127).toNat * 2 ^ min (IntKind.i64.wrap (7 * y3)).toNat IntKind.u64.bits))).toNat) (y2) (IntKind.i64.wrap (y3 + 1))
    else none
  else some ((0), (([]), (5))) := (loopAt_step _ _ _ _ _ _ _).trans (by kernel_rfl)
noncomputable def pack_ReadUint_sig : Sig := { pm := [(false, [(false, .slice (.int .u8))])], rm := [(false, [(false, .int .u64)]), (false, [(false, .slice (.int .u8))]), (false, [(false, .int .i64)])], f := fun | [⟨.slice (.int .u8), x0⟩] => .yes _ (pack_ReadUint x0) pack_ReadUint_mk | _ => .no }
theorem pack_ReadUint_ok : SigOk Try.prog 45 pack_ReadUint_sig := by
  refine contract_of (C := pack_ReadUint_C) (d := 3) ⟨S5_ok, noPs⟩ (callable_ex (by kernel_rfl)) ?_
  intro dvs
  unfold pack_ReadUint_sig
  dsimp only
  split
  · refine .inr ⟨_, pack_ReadUint_un, pack_ReadUint_mk, congrArg (fun o => Cl.yes _ o _) (pack_ReadUint_raw _), ?_⟩
    intro ds x h
    unfold pack_ReadUint_un at h
    split at h
    · cases h; rfl
    · cases h
  · exact .inl rfl
noncomputable def S6 : List (Nat × Sig) := (45, pack_ReadUint_sig) :: S5
theorem S6_ok : ListOk Try.prog S6 := ListOk.cons S5_ok pack_ReadUint_ok
noncomputable def pack_ReadBytes_C : Cfg := { P := Try.prog, sig := lookSig S6, hb := fun _ _ => none, hr := fun _ _ => none }
noncomputable def pack_ReadBytes_un : List DV → Option ((List Int) × (List Int) × Int) := fun | [⟨.slice (.int .u8), r0⟩, ⟨.slice (.int .u8), r1⟩, ⟨.int .i64, r2⟩] => some (r0, r1, r2) | _ => none
noncomputable def pack_ReadBytes_mk : ((List Int) × (List Int) × Int) → List DV := fun ⟨r0, r1, r2⟩ => [⟨.slice (.int .u8), r0⟩, ⟨.slice (.int .u8), r1⟩, ⟨.int .i64, r2⟩]
theorem pack_ReadBytes_ex : ∃ f : (List Int) → Option ((List Int) × (List Int) × Int), f = fun (x0 : List Int) => funRun pack_ReadBytes_C 3 50 [(false, [(false, .slice (.int .u8))])] [(false, [(false, .slice (.int .u8))]), (false, [(false, .slice (.int .u8))]), (false, [(false, .int .i64)])] pack_ReadBytes_un [⟨.slice (.int .u8), x0⟩] := ⟨_, rfl⟩
noncomputable def pack_ReadBytes : (List Int) → Option ((List Int) × (List Int) × Int) := pack_ReadBytes_ex.choose
theorem pack_ReadBytes_raw (x0 : List Int) : pack_ReadBytes x0 = funRun pack_ReadBytes_C 3 50 [(false, [(false, .slice (.int .u8))])] [(false, [(false, .slice (.int .u8))]), (false, [(false, .slice (.int .u8))]), (false, [(false, .int .i64)])] pack_ReadBytes_un [⟨.slice (.int .u8), x0⟩] := congrFun (pack_ReadBytes_ex.choose_spec) x0
theorem pack_ReadBytes_eq (x0 : List Int) : pack_ReadBytes x0 =
  (pack_ReadUint x0).bind fun val0 =>
  bif val0.2.2 != 0
    then some (([]), (([]), (val0.2.2)))
    else bif decide (val0.1 > IntKind.u64.wrap (ilen val0.2.1))
      then some (([]), (([]), (5)))
      else bif decide (0 ≤ val0.1)
        then bif decide (val0.1 ≤ val0.1)
          then bif decide (val0.1 ≤ ilen val0.2.1)
            then bif decide (0 ≤ val0.1)
              then bif decide (val0.1 ≤ ilen val0.2.1)
                then bif decide (ilen val0.2.1 ≤ ilen val0.2.1)
                  then some ((List.drop (Int.toNat 0) (List.take val0.1.toNat val0.2.1)), ((List.drop val0.1.toNat (List.take (ilen val0.2.1).toNat val0.2.1)), (0)))
                  else none
                else none
              else none
            else none
          else none
        else none := (pack_ReadBytes_raw x0).trans (by kernel_rfl)
noncomputable def pack_ReadBytes_sig : Sig := { pm := [(false, [(false, .slice (.int .u8))])], rm := [(false, [(false, .slice (.int .u8))]), (false, [(false, .slice (.int .u8))]), (false, [(false, .int .i64)])], f := fun | [⟨.slice (.int .u8), x0⟩] => .yes _ (pack_ReadBytes x0) pack_ReadBytes_mk | _ => .no }
theorem pack_ReadBytes_ok : SigOk Try.prog 50 pack_ReadBytes_sig := by
  refine contract_of (C := pack_ReadBytes_C) (d := 3) ⟨S6_ok, noPs⟩ (callable_ex (by kernel_rfl)) ?_
  intro dvs
  unfold pack_ReadBytes_sig
  dsimp only
  split
  · refine .inr ⟨_, pack_ReadBytes_un, pack_ReadBytes_mk, congrArg (fun o => Cl.yes _ o _) (pack_ReadBytes_raw _), ?_⟩
    intro ds x h
    unfold pack_ReadBytes_un at h
    split at h
    · cases h; rfl
    · cases h
  · exact .inl rfl
noncomputable def S7 : List (Nat × Sig) := (50, pack_ReadBytes_sig) :: S6
theorem S7_ok : ListOk Try.prog S7 := ListOk.cons S6_ok pack_ReadBytes_ok
noncomputable def crc_Update_C : Cfg := { P := Try.prog, sig := lookSig S7, hb := fun f b =>  bif Nat.beq f 39 && Nat.beq b 0 then some { tmps := [0, 10, 11, 12], obs := [], nils := [], kl := [] } else bif Nat.beq f 39 && Nat.beq b 2 then some { tmps := [0, 10, 11, 12, 20], obs := [], nils := [], kl := [] } else none, hr := fun _ _ => none }
noncomputable def crc_Update_un : List DV → Option (Int) := fun | [⟨.int .u32, r0⟩] => some r0 | _ => none
noncomputable def crc_Update_mk : Int → List DV := fun r0 => [⟨.int .u32, r0⟩]
theorem crc_Update_ex : ∃ f : (Int) → (List Int) → Option (Int), f = fun (x0 : Int) (x1 : List Int) => funRun crc_Update_C 3 39 [(false, [(false, .int .u32)]), (false, [(false, .slice (.int .u8))])] [(false, [(false, .int .u32)])] crc_Update_un [⟨.int .u32, x0⟩, ⟨.slice (.int .u8), x1⟩] := ⟨_, rfl⟩
noncomputable def crc_Update : (Int) → (List Int) → Option (Int) := crc_Update_ex.choose
theorem crc_Update_raw (x0 : Int) (x1 : List Int) : crc_Update x0 x1 = funRun crc_Update_C 3 39 [(false, [(false, .int .u32)]), (false, [(false, .slice (.int .u8))])] [(false, [(false, .int .u32)])] crc_Update_un [⟨.int .u32, x0⟩, ⟨.slice (.int .u8), x1⟩] := congrFun (congrFun (crc_Update_ex.choose_spec) x0) x1
noncomputable def crc_Update_l0 (y0 : Int) (y1 : List (Int)) (y2 : Int) (y3 : Int) : Option (Int) := loopAt crc_Update_C 3 39 [(false, [(false, .int .u32)])] crc_Update_un [true, true, false, true, false] (St.ofLists [(0, .int .u32 y0), (10, .fz (Ty.int IntKind.u8) y1 false false), (11, .int .i64 y2), (12, .int .i64 y3)] [] [])
noncomputable def crc_Update_l2 (y0 : Int) (y1 : List (Int)) (y2 : Int) (y3 : Int) (y4 : Int) : Option (Int) := loopAt crc_Update_C 3 39 [(false, [(false, .int .u32)])] crc_Update_un [true, true, false, true, false, false, true, true, false, false, true, true, true, false] (St.ofLists [(0, .int .u32 y0), (10, .fz (Ty.int IntKind.u8) y1 false false), (11, .int .i64 y2), (12, .int .i64 y3), (20, .int .i64 y4)] [] [])
theorem crc_Update_eq (x0 : Int) (x1 : List Int) : crc_Update x0 x1 =
  crc_Update_l0 (IntKind.u32.wrap ↑(BitVec.ofInt IntKind.u32.bits (bif IntKind.u32.signed then -1 else IntKind.u32.max) ^^^ BitVec.ofInt IntKind.u32.bits x0).toNat) (x1) (ilen x1) (0) := (crc_Update_raw x0 x1).trans (by kernel_rfl)
theorem crc_Update_l0_eq (y0 : Int) (y1 : List (Int)) (y2 : Int) (y3 : Int) : crc_Update_l0 y0 y1 y2 y3 =
  bif decide (y3 < y2)
  then bif decide (0 ≤ y3)
    then (y1[y3.toNat]?).bind fun val4 =>
      crc_Update_l2 (IntKind.u32.wrap ↑(BitVec.ofInt IntKind.u32.bits y0 ^^^ BitVec.ofInt IntKind.u32.bits (IntKind.u32.wrap val4)).toNat) (y1) (y2) (y3) (0)
    else none
  else some (IntKind.u32.wrap ↑(BitVec.ofInt IntKind.u32.bits (bif IntKind.u32.signed then -1 else IntKind.u32.max) ^^^ BitVec.ofInt IntKind.u32.bits y0).toNat) := (loopAt_step _ _ _ _ _ _ _).trans (by kernel_rfl)
theorem crc_Update_l2_eq (y0 : Int) (y1 : List (Int)) (y2 : Int) (y3 : Int) (y4 : Int) : crc_Update_l2 y0 y1 y2 y3 y4 =
  bif decide (y4 < 8)
  then bif IntKind.u32.wrap ↑(BitVec.ofInt IntKind.u32.bits y0 &&& BitVec.ofInt IntKind.u32.bits 1).toNat == 1
    then crc_Update_l2 (IntKind.u32.wrap ↑(BitVec.ofInt IntKind.u32.bits (y0.fdiv (2 ^ min (Int.toNat 1) IntKind.u32.bits)) ^^^ BitVec.ofInt IntKind.u32.bits 3988292384).toNat) (y1) (y2) (y3) (IntKind.i64.wrap (y4 + 1))
    else crc_Update_l2 (y0.fdiv (2 ^ min (Int.toNat 1) IntKind.u32.bits)) (y1) (y2) (y3) (IntKind.i64.wrap (y4 + 1))
  else crc_Update_l0 (y0) (y1) (y2) (IntKind.i64.wrap (y3 + 1)) := (loopAt_step _ _ _ _ _ _ _).trans (by kernel_rfl)
noncomputable def crc_Update_sig : Sig := { pm := [(false, [(false, .int .u32)]), (false, [(false, .slice (.int .u8))])], rm := [(false, [(false, .int .u32)])], f := fun | [⟨.int .u32, x0⟩, ⟨.slice (.int .u8), x1⟩] => .yes _ (crc_Update x0 x1) crc_Update_mk | _ => .no }
theorem crc_Update_ok : SigOk Try.prog 39 crc_Update_sig := by
  refine contract_of (C := crc_Update_C) (d := 3) ⟨S7_ok, noPs⟩ (callable_ex (by kernel_rfl)) ?_
  intro dvs
  unfold crc_Update_sig
  dsimp only
  split
  · refine .inr ⟨_, crc_Update_un, crc_Update_mk, congrArg (fun o => Cl.yes _ o _) (crc_Update_raw _ _), ?_⟩
    intro ds x h
    unfold crc_Update_un at h
    split at h
    · cases h; rfl
    · cases h
  · exact .inl rfl
noncomputable def S8 : List (Nat × Sig) := (39, crc_Update_sig) :: S7
theorem S8_ok : ListOk Try.prog S8 := ListOk.cons S7_ok crc_Update_ok
noncomputable def crc_Sum_C : Cfg := { P := Try.prog, sig := lookSig S8, hb := fun _ _ => none, hr := fun _ _ => none }
noncomputable def crc_Sum_un : List DV → Option (Int) := fun | [⟨.int .u32, r0⟩] => some r0 | _ => none
noncomputable def crc_Sum_mk : Int → List DV := fun r0 => [⟨.int .u32, r0⟩]
theorem crc_Sum_ex : ∃ f : (List Int) → Option (Int), f = fun (x0 : List Int) => funRun crc_Sum_C 3 25 [(false, [(false, .slice (.int .u8))])] [(false, [(false, .int .u32)])] crc_Sum_un [⟨.slice (.int .u8), x0⟩] := ⟨_, rfl⟩
noncomputable def crc_Sum : (List Int) → Option (Int) := crc_Sum_ex.choose
theorem crc_Sum_raw (x0 : List Int) : crc_Sum x0 = funRun crc_Sum_C 3 25 [(false, [(false, .slice (.int .u8))])] [(false, [(false, .int .u32)])] crc_Sum_un [⟨.slice (.int .u8), x0⟩] := congrFun (crc_Sum_ex.choose_spec) x0
theorem crc_Sum_eq (x0 : List Int) : crc_Sum x0 =
  (crc_Update 0 x0).bind fun val0 =>
  some (val0) := (crc_Sum_raw x0).trans (by kernel_rfl)
noncomputable def crc_Sum_sig : Sig := { pm := [(false, [(false, .slice (.int .u8))])], rm := [(false, [(false, .int .u32)])], f := fun | [⟨.slice (.int .u8), x0⟩] => .yes _ (crc_Sum x0) crc_Sum_mk | _ => .no }
theorem crc_Sum_ok : SigOk Try.prog 25 crc_Sum_sig := by
  refine contract_of (C := crc_Sum_C) (d := 3) ⟨S8_ok, noPs⟩ (callable_ex (by kernel_rfl)) ?_
  intro dvs
  unfold crc_Sum_sig
  dsimp only
  split
  · refine .inr ⟨_, crc_Sum_un, crc_Sum_mk, congrArg (fun o => Cl.yes _ o _) (crc_Sum_raw _), ?_⟩
    intro ds x h
    unfold crc_Sum_un at h
    split at h
    · cases h; rfl
    · cases h
  · exact .inl rfl
noncomputable def S9 : List (Nat × Sig) := (25, crc_Sum_sig) :: S8
theorem S9_ok : ListOk Try.prog S9 := ListOk.cons S8_ok crc_Sum_ok
noncomputable def packet_node_C : Cfg := { P := Try.prog, sig := lookSig S9, hb := fun _ _ => none, hr := fun _ _ => none }
noncomputable def packet_node_un : List DV → Option (Bool) := fun | [⟨.bool, r0⟩] => some r0 | _ => none
noncomputable def packet_node_mk : Bool → List DV := fun r0 => [⟨.bool, r0⟩]
theorem packet_node_ex : ∃ f : (Int) → Option (Bool), f = fun (x0 : Int) => funRun packet_node_C 3 28 [(false, [(false, .int .i64)])] [(false, [(false, .bool)])] packet_node_un [⟨.int .i64, x0⟩] := ⟨_, rfl⟩
noncomputable def packet_node : (Int) → Option (Bool) := packet_node_ex.choose
theorem packet_node_raw (x0 : Int) : packet_node x0 = funRun packet_node_C 3 28 [(false, [(false, .int .i64)])] [(false, [(false, .bool)])] packet_node_un [⟨.int .i64, x0⟩] := congrFun (packet_node_ex.choose_spec) x0
theorem packet_node_eq (x0 : Int) : packet_node x0 =
  bif decide (x0 ≥ 1)
  then some (decide (x0 ≤ 7))
  else some false := (packet_node_raw x0).trans (by kernel_rfl)
noncomputable def packet_node_sig : Sig := { pm := [(false, [(false, .int .i64)])], rm := [(false, [(false, .bool)])], f := fun | [⟨.int .i64, x0⟩] => .yes _ (packet_node x0) packet_node_mk | _ => .no }
theorem packet_node_ok : SigOk Try.prog 28 packet_node_sig := by
  refine contract_of (C := packet_node_C) (d := 3) ⟨S9_ok, noPs⟩ (callable_ex (by kernel_rfl)) ?_
  intro dvs
  unfold packet_node_sig
  dsimp only
  split
  · refine .inr ⟨_, packet_node_un, packet_node_mk, congrArg (fun o => Cl.yes _ o _) (packet_node_raw _), ?_⟩
    intro ds x h
    unfold packet_node_un at h
    split at h
    · cases h; rfl
    · cases h
  · exact .inl rfl
noncomputable def S10 : List (Nat × Sig) := (28, packet_node_sig) :: S9
theorem S10_ok : ListOk Try.prog S10 := ListOk.cons S9_ok packet_node_ok
noncomputable def packet_entry_C : Cfg := { P := Try.prog, sig := lookSig S10, hb := fun _ _ => none, hr := fun _ _ => none }
noncomputable def packet_entry_un : List DV → Option (Bool) := fun | [⟨.bool, r0⟩] => some r0 | _ => none
noncomputable def packet_entry_mk : Bool → List DV := fun r0 => [⟨.bool, r0⟩]
theorem packet_entry_ex : ∃ f : (Int) → (List Int) → Option (Bool), f = fun (x0 : Int) (x1 : List Int) => funRun packet_entry_C 3 44 [(true, [(false, .int .i64), (false, .slice (.int .u8))])] [(false, [(false, .bool)])] packet_entry_un [⟨.int .i64, x0⟩, ⟨.slice (.int .u8), x1⟩] := ⟨_, rfl⟩
noncomputable def packet_entry : (Int) → (List Int) → Option (Bool) := packet_entry_ex.choose
theorem packet_entry_raw (x0 : Int) (x1 : List Int) : packet_entry x0 x1 = funRun packet_entry_C 3 44 [(true, [(false, .int .i64), (false, .slice (.int .u8))])] [(false, [(false, .bool)])] packet_entry_un [⟨.int .i64, x0⟩, ⟨.slice (.int .u8), x1⟩] := congrFun (congrFun (packet_entry_ex.choose_spec) x0) x1
theorem packet_entry_eq (x0 : Int) (x1 : List Int) : packet_entry x0 x1 =
  bif decide (x0 ≥ 1)
  then bif decide (x0 ≤ 1099511627776)
    then some (decide (ilen x1 ≤ 65536))
    else some false
  else some false := (packet_entry_raw x0 x1).trans (by kernel_rfl)
noncomputable def packet_entry_sig : Sig := { pm := [(true, [(false, .int .i64), (false, .slice (.int .u8))])], rm := [(false, [(false, .bool)])], f := fun | [⟨.int .i64, x0⟩, ⟨.slice (.int .u8), x1⟩] => .yes _ (packet_entry x0 x1) packet_entry_mk | _ => .no }
theorem packet_entry_ok : SigOk Try.prog 44 packet_entry_sig := by
  refine contract_of (C := packet_entry_C) (d := 3) ⟨S10_ok, noPs⟩ (callable_ex (by kernel_rfl)) ?_
  intro dvs
  unfold packet_entry_sig
  dsimp only
  split
  · refine .inr ⟨_, packet_entry_un, packet_entry_mk, congrArg (fun o => Cl.yes _ o _) (packet_entry_raw _ _), ?_⟩
    intro ds x h
    unfold packet_entry_un at h
    split at h
    · cases h; rfl
    · cases h
  · exact .inl rfl
noncomputable def S11 : List (Nat × Sig) := (44, packet_entry_sig) :: S10
theorem S11_ok : ListOk Try.prog S11 := ListOk.cons S10_ok packet_entry_ok
noncomputable def packet_IndexFunc_C : Cfg := { P := Try.prog, sig := lookSig S11, hb := fun f b =>  bif Nat.beq f 49 && Nat.beq b 0 then some { tmps := [0, 1, 7, 8], obs := [], nils := [], kl := [] } else none, hr := fun _ _ => none }
noncomputable def packet_IndexFunc_un : List DV → Option (Int) := fun | [⟨.int .i64, r0⟩] => some r0 | _ => none
noncomputable def packet_IndexFunc_mk : Int → List DV := fun r0 => [⟨.int .i64, r0⟩]
theorem packet_IndexFunc_ex : ∃ f : (List (Int × (List Int))) → Option (Int), f = fun (x0 : List (Int × (List Int))) => funRun packet_IndexFunc_C 3 49 [(false, [(false, .slice (.pair (.int .i64) (.slice (.int .u8))))]), (false, [(false, .fn 43 (.unit))])] [(false, [(false, .int .i64)])] packet_IndexFunc_un [⟨.slice (.pair (.int .i64) (.slice (.int .u8))), x0⟩, ⟨.fn 43 (.unit), ()⟩] := ⟨_, rfl⟩
noncomputable def packet_IndexFunc : (List (Int × (List Int))) → Option (Int) := packet_IndexFunc_ex.choose
theorem packet_IndexFunc_raw (x0 : List (Int × (List Int))) : packet_IndexFunc x0 = funRun packet_IndexFunc_C 3 49 [(false, [(false, .slice (.pair (.int .i64) (.slice (.int .u8))))]), (false, [(false, .fn 43 (.unit))])] [(false, [(false, .int .i64)])] packet_IndexFunc_un [⟨.slice (.pair (.int .i64) (.slice (.int .u8))), x0⟩, ⟨.fn 43 (.unit), ()⟩] := congrFun (packet_IndexFunc_ex.choose_spec) x0
noncomputable def packet_IndexFunc_l0 (y0 : List ((Int) × (List (Int)))) (y1 : Int) (y2 : Int) : Option (Int) := loopAt packet_IndexFunc_C 3 49 [(false, [(false, .int .i64)])] packet_IndexFunc_un [true, false, true, false] (St.ofLists [(0, .fz ((Ty.int IntKind.i64).pair (Ty.int IntKind.u8).slice) y0 false false), (1, .func 43 []), (7, .int .i64 y1), (8, .int .i64 y2)] [] [])
theorem packet_IndexFunc_eq (x0 : List (Int × (List Int))) : packet_IndexFunc x0 =
  packet_IndexFunc_l0 (x0) (ilen x0) (0) := (packet_IndexFunc_raw x0).trans (by kernel_rfl)
theorem packet_IndexFunc_l0_eq (y0 : List ((Int) × (List (Int)))) (y1 : Int) (y2 : Int) : packet_IndexFunc_l0 y0 y1 y2 =
  bif decide (y2 < y1)
  then bif decide (0 ≤ y2)
    then (y0[y2.toNat]?).bind fun val4 =>
      (packet_entry val4.fst val4.snd).bind fun val6 =>
        bif !val6
          then some (y2)
          else packet_IndexFunc_l0 (y0) (y1) (IntKind.i64.wrap (y2 + 1))
    else none
  else some (-1) := (loopAt_step _ _ _ _ _ _ _).trans (by kernel_rfl)
noncomputable def packet_IndexFunc_sig : Sig := { pm := [(false, [(false, .slice (.pair (.int .i64) (.slice (.int .u8))))]), (false, [(false, .fn 43 (.unit))])], rm := [(false, [(false, .int .i64)])], f := fun | [⟨.slice (.pair (.int .i64) (.slice (.int .u8))), x0⟩, ⟨.fn 43 (.unit), ()⟩] => .yes _ (packet_IndexFunc x0) packet_IndexFunc_mk | _ => .no }
theorem packet_IndexFunc_ok : SigOk Try.prog 49 packet_IndexFunc_sig := by
  refine contract_of (C := packet_IndexFunc_C) (d := 3) ⟨S11_ok, noPs⟩ (callable_ex (by kernel_rfl)) ?_
  intro dvs
  unfold packet_IndexFunc_sig
  dsimp only
  split
  · refine .inr ⟨_, packet_IndexFunc_un, packet_IndexFunc_mk, congrArg (fun o => Cl.yes _ o _) (packet_IndexFunc_raw _), ?_⟩
    intro ds x h
    unfold packet_IndexFunc_un at h
    split at h
    · cases h; rfl
    · cases h
  · exact .inl rfl
noncomputable def S12 : List (Nat × Sig) := (49, packet_IndexFunc_sig) :: S11
theorem S12_ok : ListOk Try.prog S12 := ListOk.cons S11_ok packet_IndexFunc_ok
noncomputable def packet_ContainsFunc_C : Cfg := { P := Try.prog, sig := lookSig S12, hb := fun _ _ => none, hr := fun _ _ => none }
noncomputable def packet_ContainsFunc_un : List DV → Option (Bool) := fun | [⟨.bool, r0⟩] => some r0 | _ => none
noncomputable def packet_ContainsFunc_mk : Bool → List DV := fun r0 => [⟨.bool, r0⟩]
theorem packet_ContainsFunc_ex : ∃ f : (List (Int × (List Int))) → Option (Bool), f = fun (x0 : List (Int × (List Int))) => funRun packet_ContainsFunc_C 3 42 [(false, [(false, .slice (.pair (.int .i64) (.slice (.int .u8))))]), (false, [(false, .fn 43 (.unit))])] [(false, [(false, .bool)])] packet_ContainsFunc_un [⟨.slice (.pair (.int .i64) (.slice (.int .u8))), x0⟩, ⟨.fn 43 (.unit), ()⟩] := ⟨_, rfl⟩
noncomputable def packet_ContainsFunc : (List (Int × (List Int))) → Option (Bool) := packet_ContainsFunc_ex.choose
theorem packet_ContainsFunc_raw (x0 : List (Int × (List Int))) : packet_ContainsFunc x0 = funRun packet_ContainsFunc_C 3 42 [(false, [(false, .slice (.pair (.int .i64) (.slice (.int .u8))))]), (false, [(false, .fn 43 (.unit))])] [(false, [(false, .bool)])] packet_ContainsFunc_un [⟨.slice (.pair (.int .i64) (.slice (.int .u8))), x0⟩, ⟨.fn 43 (.unit), ()⟩] := congrFun (packet_ContainsFunc_ex.choose_spec) x0
theorem packet_ContainsFunc_eq (x0 : List (Int × (List Int))) : packet_ContainsFunc x0 =
  (packet_IndexFunc x0).bind fun val0 =>
  some (decide (val0 ≥ 0)) := (packet_ContainsFunc_raw x0).trans (by kernel_rfl)
noncomputable def packet_ContainsFunc_sig : Sig := { pm := [(false, [(false, .slice (.pair (.int .i64) (.slice (.int .u8))))]), (false, [(false, .fn 43 (.unit))])], rm := [(false, [(false, .bool)])], f := fun | [⟨.slice (.pair (.int .i64) (.slice (.int .u8))), x0⟩, ⟨.fn 43 (.unit), ()⟩] => .yes _ (packet_ContainsFunc x0) packet_ContainsFunc_mk | _ => .no }
theorem packet_ContainsFunc_ok : SigOk Try.prog 42 packet_ContainsFunc_sig := by
  refine contract_of (C := packet_ContainsFunc_C) (d := 3) ⟨S12_ok, noPs⟩ (callable_ex (by kernel_rfl)) ?_
  intro dvs
  unfold packet_ContainsFunc_sig
  dsimp only
  split
  · refine .inr ⟨_, packet_ContainsFunc_un, packet_ContainsFunc_mk, congrArg (fun o => Cl.yes _ o _) (packet_ContainsFunc_raw _), ?_⟩
    intro ds x h
    unfold packet_ContainsFunc_un at h
    split at h
    · cases h; rfl
    · cases h
  · exact .inl rfl
noncomputable def S13 : List (Nat × Sig) := (42, packet_ContainsFunc_sig) :: S12
theorem S13_ok : ListOk Try.prog S13 := ListOk.cons S12_ok packet_ContainsFunc_ok
noncomputable def packet_okmsg_C : Cfg := { P := Try.prog, sig := lookSig S13, hb := fun _ _ => none, hr := fun _ _ => none, un := fun f b => bif Nat.beq f 29 && Nat.beq b 0 then 5 else 0 }
noncomputable def packet_okmsg_un : List DV → Option (Bool) := fun | [⟨.bool, r0⟩] => some r0 | _ => none
noncomputable def packet_okmsg_mk : Bool → List DV := fun r0 => [⟨.bool, r0⟩]
theorem packet_okmsg_ex : ∃ f : (Int) → (Int) → (Int) → (Int) → (Int) → (Int) → (Int) → (Int) → (Bool) → (List (Int × (List Int))) → (List Int) → Option (Bool), f = fun (x0 : Int) (x1 : Int) (x2 : Int) (x3 : Int) (x4 : Int) (x5 : Int) (x6 : Int) (x7 : Int) (x8 : Bool) (x9 : List (Int × (List Int))) (x10 : List Int) => funRun packet_okmsg_C 3 29 [(true, [(false, .int .i64), (false, .int .i64), (false, .int .i64), (false, .int .i64), (false, .int .i64), (false, .int .i64), (false, .int .i64), (false, .int .i64), (false, .bool), (false, .slice (.pair (.int .i64) (.slice (.int .u8)))), (false, .slice (.int .u8))])] [(false, [(false, .bool)])] packet_okmsg_un [⟨.int .i64, x0⟩, ⟨.int .i64, x1⟩, ⟨.int .i64, x2⟩, ⟨.int .i64, x3⟩, ⟨.int .i64, x4⟩, ⟨.int .i64, x5⟩, ⟨.int .i64, x6⟩, ⟨.int .i64, x7⟩, ⟨.bool, x8⟩, ⟨.slice (.pair (.int .i64) (.slice (.int .u8))), x9⟩, ⟨.slice (.int .u8), x10⟩] := ⟨_, rfl⟩
noncomputable def packet_okmsg : (Int) → (Int) → (Int) → (Int) → (Int) → (Int) → (Int) → (Int) → (Bool) → (List (Int × (List Int))) → (List Int) → Option (Bool) := packet_okmsg_ex.choose
theorem packet_okmsg_raw (x0 : Int) (x1 : Int) (x2 : Int) (x3 : Int) (x4 : Int) (x5 : Int) (x6 : Int) (x7 : Int) (x8 : Bool) (x9 : List (Int × (List Int))) (x10 : List Int) : packet_okmsg x0 x1 x2 x3 x4 x5 x6 x7 x8 x9 x10 = funRun packet_okmsg_C 3 29 [(true, [(false, .int .i64), (false, .int .i64), (false, .int .i64), (false, .int .i64), (false, .int .i64), (false, .int .i64), (false, .int .i64), (false, .int .i64), (false, .bool), (false, .slice (.pair (.int .i64) (.slice (.int .u8)))), (false, .slice (.int .u8))])] [(false, [(false, .bool)])] packet_okmsg_un [⟨.int .i64, x0⟩, ⟨.int .i64, x1⟩, ⟨.int .i64, x2⟩, ⟨.int .i64, x3⟩, ⟨.int .i64, x4⟩, ⟨.int .i64, x5⟩, ⟨.int .i64, x6⟩, ⟨.int .i64, x7⟩, ⟨.bool, x8⟩, ⟨.slice (.pair (.int .i64) (.slice (.int .u8))), x9⟩, ⟨.slice (.int .u8), x10⟩] := congrFun (congrFun (congrFun (congrFun (congrFun (congrFun (congrFun (congrFun (congrFun (congrFun (congrFun (packet_okmsg_ex.choose_spec) x0) x1) x2) x3) x4) x5) x6) x7) x8) x9) x10
theorem packet_okmsg_eq (x0 : Int) (x1 : Int) (x2 : Int) (x3 : Int) (x4 : Int) (x5 : Int) (x6 : Int) (x7 : Int) (x8 : Bool) (x9 : List (Int × (List Int))) (x10 : List Int) : packet_okmsg x0 x1 x2 x3 x4 x5 x6 x7 x8 x9 x10 =
  bif decide (x4 < 0)
  then some false
  else bif decide (x4 > 1099511627776)
    then some false
    else bif decide (x5 < 0)
      then some false
      else bif decide (x5 > 1099511627776)
        then some false
        else bif decide (x6 < 0)
          then some false
          else bif decide (x6 > 1099511627776)
            then some false
            else bif decide (x7 < 0)
              then some false
              else bif decide (x7 > 1099511627776)
                then some false
                else bif decide (x0 < 1)
                  then some false
                  else bif decide (x0 > 7)
                    then some false
                    else bif decide (x1 < 0)
                      then some false
                      else bif decide (x1 ≥ 64)
                        then some false
                        else bif decide (ilen x9 > 8)
                          then some false
                          else bif decide (ilen x10 > 65536)
                            then some false
                            else (packet_ContainsFunc x9).bind fun val28 =>
                              some (!val28) := (packet_okmsg_raw x0 x1 x2 x3 x4 x5 x6 x7 x8 x9 x10).trans (by kernel_rfl)
noncomputable def packet_okmsg_sig : Sig := { pm := [(true, [(false, .int .i64), (false, .int .i64), (false, .int .i64), (false, .int .i64), (false, .int .i64), (false, .int .i64), (false, .int .i64), (false, .int .i64), (false, .bool), (false, .slice (.pair (.int .i64) (.slice (.int .u8)))), (false, .slice (.int .u8))])], rm := [(false, [(false, .bool)])], f := fun | [⟨.int .i64, x0⟩, ⟨.int .i64, x1⟩, ⟨.int .i64, x2⟩, ⟨.int .i64, x3⟩, ⟨.int .i64, x4⟩, ⟨.int .i64, x5⟩, ⟨.int .i64, x6⟩, ⟨.int .i64, x7⟩, ⟨.bool, x8⟩, ⟨.slice (.pair (.int .i64) (.slice (.int .u8))), x9⟩, ⟨.slice (.int .u8), x10⟩] => .yes _ (packet_okmsg x0 x1 x2 x3 x4 x5 x6 x7 x8 x9 x10) packet_okmsg_mk | _ => .no }
theorem packet_okmsg_ok : SigOk Try.prog 29 packet_okmsg_sig := by
  refine contract_of (C := packet_okmsg_C) (d := 3) ⟨S13_ok, noPs⟩ (callable_ex (by kernel_rfl)) ?_
  intro dvs
  unfold packet_okmsg_sig
  dsimp only
  split
  · refine .inr ⟨_, packet_okmsg_un, packet_okmsg_mk, congrArg (fun o => Cl.yes _ o _) (packet_okmsg_raw _ _ _ _ _ _ _ _ _ _ _), ?_⟩
    intro ds x h
    unfold packet_okmsg_un at h
    split at h
    · cases h; rfl
    · cases h
  · exact .inl rfl
noncomputable def S14 : List (Nat × Sig) := (29, packet_okmsg_sig) :: S13
theorem S14_ok : ListOk Try.prog S14 := ListOk.cons S13_ok packet_okmsg_ok
noncomputable def packet_Check_C : Cfg := { P := Try.prog, sig := lookSig S14, hb := fun f b =>  bif Nat.beq f 13 && Nat.beq b 1 then some { tmps := [1, 29, 30, 31], obs := [108], nils := [], kl := [108, 132] } else none, hr := fun _ _ => none }
noncomputable def packet_Check_un : List DV → Option (Int) := fun | [⟨.int .i64, r0⟩] => some r0 | _ => none
noncomputable def packet_Check_mk : Int → List DV := fun r0 => [⟨.int .i64, r0⟩]
theorem packet_Check_ex : ∃ f : (Int) → (Int) → (List (Int × Int × Int × Int × Int × Int × Int × Int × Bool × (List (Int × (List Int))) × (List Int))) → Option (Int), f = fun (x0 : Int) (x1 : Int) (x2 : List (Int × Int × Int × Int × Int × Int × Int × Int × Bool × (List (Int × (List Int))) × (List Int))) => funRun packet_Check_C 3 13 [(true, [(false, .int .i64), (false, .int .i64), (false, .slice (.pair (.int .i64) (.pair (.int .i64) (.pair (.int .i64) (.pair (.int .i64) (.pair (.int .i64) (.pair (.int .i64) (.pair (.int .i64) (.pair (.int .i64) (.pair (.bool) (.pair (.slice (.pair (.int .i64) (.slice (.int .u8)))) (.slice (.int .u8)))))))))))))])] [(false, [(false, .int .i64)])] packet_Check_un [⟨.int .i64, x0⟩, ⟨.int .i64, x1⟩, ⟨.slice (.pair (.int .i64) (.pair (.int .i64) (.pair (.int .i64) (.pair (.int .i64) (.pair (.int .i64) (.pair (.int .i64) (.pair (.int .i64) (.pair (.int .i64) (.pair (.bool) (.pair (.slice (.pair (.int .i64) (.slice (.int .u8)))) (.slice (.int .u8)))))))))))), x2⟩] := ⟨_, rfl⟩
noncomputable def packet_Check : (Int) → (Int) → (List (Int × Int × Int × Int × Int × Int × Int × Int × Bool × (List (Int × (List Int))) × (List Int))) → Option (Int) := packet_Check_ex.choose
theorem packet_Check_raw (x0 : Int) (x1 : Int) (x2 : List (Int × Int × Int × Int × Int × Int × Int × Int × Bool × (List (Int × (List Int))) × (List Int))) : packet_Check x0 x1 x2 = funRun packet_Check_C 3 13 [(true, [(false, .int .i64), (false, .int .i64), (false, .slice (.pair (.int .i64) (.pair (.int .i64) (.pair (.int .i64) (.pair (.int .i64) (.pair (.int .i64) (.pair (.int .i64) (.pair (.int .i64) (.pair (.int .i64) (.pair (.bool) (.pair (.slice (.pair (.int .i64) (.slice (.int .u8)))) (.slice (.int .u8)))))))))))))])] [(false, [(false, .int .i64)])] packet_Check_un [⟨.int .i64, x0⟩, ⟨.int .i64, x1⟩, ⟨.slice (.pair (.int .i64) (.pair (.int .i64) (.pair (.int .i64) (.pair (.int .i64) (.pair (.int .i64) (.pair (.int .i64) (.pair (.int .i64) (.pair (.int .i64) (.pair (.bool) (.pair (.slice (.pair (.int .i64) (.slice (.int .u8)))) (.slice (.int .u8)))))))))))), x2⟩] := congrFun (congrFun (congrFun (packet_Check_ex.choose_spec) x0) x1) x2
noncomputable def packet_Check_l1 (y0 : List ((Int) × ((Int) × ((Int) × ((Int) × ((Int) × ((Int) × ((Int) × ((Int) × ((Bool) × ((List ((Int) × (List (Int)))) × (List (Int))))))))))))) (y1 : Int) (y2 : Int) (y3 : Int) (y4 : Int) (y5 : List ((Int) × ((Int) × ((Int) × ((Int) × ((Int) × ((Int) × ((Int) × ((Int) × ((Bool) × ((List ((Int) × (List (Int)))) × (List (Int))))))))))))) : Option (Int) := loopAt packet_Check_C 3 13 [(false, [(false, .int .i64)])] packet_Check_un [true, true, false, true, false] (St.ofLists [(1, .ptr 108 0), (29, .fz ((Ty.int IntKind.i64).pair ((Ty.int IntKind.i64).pair ((Ty.int IntKind.i64).pair ((Ty.int IntKind.i64).pair ((Ty.int IntKind.i64).pair ((Ty.int IntKind.i64).pair ((Ty.int IntKind.i64).pair ((Ty.int IntKind.i64).pair (Ty.bool.pair (((Ty.int IntKind.i64).pair (Ty.int IntKind.u8).slice).slice.pair (Ty.int IntKind.u8).slice)))))))))) y0 false false), (30, .int .i64 y1), (31, .int .i64 y2)] [(108, some (.cells [.int .i64 y3, .int .i64 y4, .fz ((Ty.int IntKind.i64).pair ((Ty.int IntKind.i64).pair ((Ty.int IntKind.i64).pair ((Ty.int IntKind.i64).pair ((Ty.int IntKind.i64).pair ((Ty.int IntKind.i64).pair ((Ty.int IntKind.i64).pair ((Ty.int IntKind.i64).pair (Ty.bool.pair (((Ty.int IntKind.i64).pair (Ty.int IntKind.u8).slice).slice.pair (Ty.int IntKind.u8).slice)))))))))) y5 false false]))] [108, 132])
theorem packet_Check_eq (x0 : Int) (x1 : Int) (x2 : List (Int × Int × Int × Int × Int × Int × Int × Int × Bool × (List (Int × (List Int))) × (List Int))) : packet_Check x0 x1 x2 =
  (packet_node x0).bind fun val0 =>
  bif !val0
    then some (1)
    else (packet_node x1).bind fun val4 =>
      bif !val4
        then some (1)
        else bif x0 == x1
          then some (1)
          else bif decide (ilen x2 > 256)
            then some (6)
            else packet_Check_l1 (x2) (ilen x2) (0) (x0) (x1) (x2) := (packet_Check_raw x0 x1 x2).trans (by kernel_rfl)
theorem packet_Check_l1_eq (y0 : List ((Int) × ((Int) × ((Int) × ((Int) × ((Int) × ((Int) × ((Int) × ((Int) × ((Bool) × ((List ((Int) × (List (Int)))) × (List (Int))))))))))))) (y1 : Int) (y2 : Int) (y3 : Int) (y4 : Int) (y5 : List ((Int) × ((Int) × ((Int) × ((Int) × ((Int) × ((Int) × ((Int) × ((Int) × ((Bool) × ((List ((Int) × (List (Int)))) × (List (Int))))))))))))) : packet_Check_l1 y0 y1 y2 y3 y4 y5 =
  bif decide (y2 < y1)
  then bif decide (0 ≤ y2)
    then (y0[y2.toNat]?).bind fun val4 =>
      bif val4.snd.snd.fst != y3
        then some (1)
        else bif val4.snd.snd.snd.fst != y4
          then some (1)
          else (packet_okmsg val4.fst val4.snd.fst val4.snd.snd.fst val4.snd.snd.snd.fst val4.snd.snd.snd.snd.fst val4.snd.snd.snd.snd.snd.fst val4.snd.snd.snd.snd.snd.snd.fst val4.snd.snd.snd.snd.snd.snd.snd.fst val4.snd.snd.snd.snd.snd.snd.snd.snd.fst val4.snd.snd.snd.snd.snd.snd.snd.snd.snd.fst val4.snd.snd.snd.snd.snd.snd.snd.snd.snd.snd).bind fun val10 =>
            bif !val10
              then some (1)
              else packet_Check_l1 (y0) (y1) (IntKind.i64.wrap (y2 + 1)) (y3) (y4) (y5)
    else none
  else some (0) := (loopAt_step _ _ _ _ _ _ _).trans (by kernel_rfl)
noncomputable def packet_Check_sig : Sig := { pm := [(true, [(false, .int .i64), (false, .int .i64), (false, .slice (.pair (.int .i64) (.pair (.int .i64) (.pair (.int .i64) (.pair (.int .i64) (.pair (.int .i64) (.pair (.int .i64) (.pair (.int .i64) (.pair (.int .i64) (.pair (.bool) (.pair (.slice (.pair (.int .i64) (.slice (.int .u8)))) (.slice (.int .u8)))))))))))))])], rm := [(false, [(false, .int .i64)])], f := fun | [⟨.int .i64, x0⟩, ⟨.int .i64, x1⟩, ⟨.slice (.pair (.int .i64) (.pair (.int .i64) (.pair (.int .i64) (.pair (.int .i64) (.pair (.int .i64) (.pair (.int .i64) (.pair (.int .i64) (.pair (.int .i64) (.pair (.bool) (.pair (.slice (.pair (.int .i64) (.slice (.int .u8)))) (.slice (.int .u8)))))))))))), x2⟩] => .yes _ (packet_Check x0 x1 x2) packet_Check_mk | _ => .no }
theorem packet_Check_ok : SigOk Try.prog 13 packet_Check_sig := by
  refine contract_of (C := packet_Check_C) (d := 3) ⟨S14_ok, noPs⟩ (callable_ex (by kernel_rfl)) ?_
  intro dvs
  unfold packet_Check_sig
  dsimp only
  split
  · refine .inr ⟨_, packet_Check_un, packet_Check_mk, congrArg (fun o => Cl.yes _ o _) (packet_Check_raw _ _ _), ?_⟩
    intro ds x h
    unfold packet_Check_un at h
    split at h
    · cases h; rfl
    · cases h
  · exact .inl rfl
noncomputable def S15 : List (Nat × Sig) := (13, packet_Check_sig) :: S14
theorem S15_ok : ListOk Try.prog S15 := ListOk.cons S14_ok packet_Check_ok
noncomputable def packet_numbers_C : Cfg := { P := Try.prog, sig := lookSig S15, hb := fun f b =>  bif Nat.beq f 22 && Nat.beq b 0 then some { tmps := [0, 7, 8, 9], obs := [60], nils := [(0, 60, (.int .u8))], kl := [228, 0, 60] } else none, hr := fun _ _ => none }
noncomputable def packet_numbers_un : List DV → Option ((List Int)) := fun | [⟨.slice (.int .u8), r0⟩] => some r0 | _ => none
noncomputable def packet_numbers_mk : (List Int) → List DV := fun r0 => [⟨.slice (.int .u8), r0⟩]
theorem packet_numbers_ex : ∃ f : (List Int) → (List Int) → Option ((List Int)), f = fun (x0 : List Int) (x1 : List Int) => funRun packet_numbers_C 3 22 [(false, [(true, .slice (.int .u8))]), (false, [(false, .slice (.int .i64))])] [(false, [(true, .slice (.int .u8))])] packet_numbers_un [⟨.slice (.int .u8), x0⟩, ⟨.slice (.int .i64), x1⟩] := ⟨_, rfl⟩
noncomputable def packet_numbers : (List Int) → (List Int) → Option ((List Int)) := packet_numbers_ex.choose
theorem packet_numbers_raw (x0 : List Int) (x1 : List Int) : packet_numbers x0 x1 = funRun packet_numbers_C 3 22 [(false, [(true, .slice (.int .u8))]), (false, [(false, .slice (.int .i64))])] [(false, [(true, .slice (.int .u8))])] packet_numbers_un [⟨.slice (.int .u8), x0⟩, ⟨.slice (.int .i64), x1⟩] := congrFun (congrFun (packet_numbers_ex.choose_spec) x0) x1
noncomputable def packet_numbers_l0 (y0 : List (Int)) (y1 : Int) (y2 : Int) (y3 : List (Int)) : Option ((List Int)) := loopAt packet_numbers_C 3 22 [(false, [(true, .slice (.int .u8))])] packet_numbers_un [true, false, true, false] (St.ofLists [(0, .ow 60), (7, .fz (Ty.int IntKind.i64) y0 false false), (8, .int .i64 y1), (9, .int .i64 y2)] [(60, some (.row (Ty.int IntKind.u8) y3 0 false))] [228, 0, 60])
theorem packet_numbers_eq (x0 : List Int) (x1 : List Int) : packet_numbers x0 x1 =
  packet_numbers_l0 (x1) (ilen x1) (0) (x0) := (packet_numbers_raw x0 x1).trans (by kernel_rfl)
theorem packet_numbers_l0_eq (y0 : List (Int)) (y1 : Int) (y2 : Int) (y3 : List (Int)) : packet_numbers_l0 y0 y1 y2 y3 =
  bif decide (y2 < y1)
  then bif decide (0 ≤ y2)
    then (y0[y2.toNat]?).bind fun val4 =>
      (pack_Uint y3 (IntKind.u64.wrap val4)).bind fun val6 =>
        packet_numbers_l0 (y0) (y1) (IntKind.i64.wrap (y2 + 1)) (val6)
    else none
  else some (y3) := (loopAt_step _ _ _ _ _ _ _).trans (by kernel_rfl)
noncomputable def packet_numbers_sig : Sig := { pm := [(false, [(true, .slice (.int .u8))]), (false, [(false, .slice (.int .i64))])], rm := [(false, [(true, .slice (.int .u8))])], f := fun | [⟨.slice (.int .u8), x0⟩, ⟨.slice (.int .i64), x1⟩] => .yes _ (packet_numbers x0 x1) packet_numbers_mk | _ => .no }
theorem packet_numbers_ok : SigOk Try.prog 22 packet_numbers_sig := by
  refine contract_of (C := packet_numbers_C) (d := 3) ⟨S15_ok, noPs⟩ (callable_ex (by kernel_rfl)) ?_
  intro dvs
  unfold packet_numbers_sig
  dsimp only
  split
  · refine .inr ⟨_, packet_numbers_un, packet_numbers_mk, congrArg (fun o => Cl.yes _ o _) (packet_numbers_raw _ _), ?_⟩
    intro ds x h
    unfold packet_numbers_un at h
    split at h
    · cases h; rfl
    · cases h
  · exact .inl rfl
noncomputable def S16 : List (Nat × Sig) := (22, packet_numbers_sig) :: S15
theorem S16_ok : ListOk Try.prog S16 := ListOk.cons S15_ok packet_numbers_ok
noncomputable def packet_yes_C : Cfg := { P := Try.prog, sig := lookSig S16, hb := fun _ _ => none, hr := fun _ _ => none }
noncomputable def packet_yes_un : List DV → Option (Int) := fun | [⟨.int .i64, r0⟩] => some r0 | _ => none
noncomputable def packet_yes_mk : Int → List DV := fun r0 => [⟨.int .i64, r0⟩]
theorem packet_yes_ex : ∃ f : (Bool) → Option (Int), f = fun (x0 : Bool) => funRun packet_yes_C 3 23 [(false, [(false, .bool)])] [(false, [(false, .int .i64)])] packet_yes_un [⟨.bool, x0⟩] := ⟨_, rfl⟩
noncomputable def packet_yes : (Bool) → Option (Int) := packet_yes_ex.choose
theorem packet_yes_raw (x0 : Bool) : packet_yes x0 = funRun packet_yes_C 3 23 [(false, [(false, .bool)])] [(false, [(false, .int .i64)])] packet_yes_un [⟨.bool, x0⟩] := congrFun (packet_yes_ex.choose_spec) x0
theorem packet_yes_eq (x0 : Bool) : packet_yes x0 =
  bif x0
  then some (1)
  else some (0) := (packet_yes_raw x0).trans (by kernel_rfl)
noncomputable def packet_yes_sig : Sig := { pm := [(false, [(false, .bool)])], rm := [(false, [(false, .int .i64)])], f := fun | [⟨.bool, x0⟩] => .yes _ (packet_yes x0) packet_yes_mk | _ => .no }
theorem packet_yes_ok : SigOk Try.prog 23 packet_yes_sig := by
  refine contract_of (C := packet_yes_C) (d := 3) ⟨S16_ok, noPs⟩ (callable_ex (by kernel_rfl)) ?_
  intro dvs
  unfold packet_yes_sig
  dsimp only
  split
  · refine .inr ⟨_, packet_yes_un, packet_yes_mk, congrArg (fun o => Cl.yes _ o _) (packet_yes_raw _), ?_⟩
    intro ds x h
    unfold packet_yes_un at h
    split at h
    · cases h; rfl
    · cases h
  · exact .inl rfl
noncomputable def S17 : List (Nat × Sig) := (23, packet_yes_sig) :: S16
theorem S17_ok : ListOk Try.prog S17 := ListOk.cons S16_ok packet_yes_ok
noncomputable def packet_Put_C : Cfg := { P := Try.prog, sig := lookSig S17, hb := fun f b =>  bif Nat.beq f 10 && Nat.beq b 0 then some { tmps := [5, 26, 27, 28], obs := [61], nils := [(5, 61, (.int .u8))], kl := [292, 284, 108, 676, 516, 508, 156, 61, 636, 612, 604, 172, 60] } else bif Nat.beq f 10 && Nat.beq b 2 then some { tmps := [5, 7, 26, 27, 28, 54, 55, 56], obs := [156, 60], nils := [(5, 60, (.int .u8))], kl := [516, 508, 156, 292, 284, 108, 636, 612, 604, 172, 60, 676, 61] } else none, hr := fun _ _ => none }
noncomputable def packet_Put_un : List DV → Option ((List Int) × Int) := fun | [⟨.slice (.int .u8), r0⟩, ⟨.int .i64, r1⟩] => some (r0, r1) | _ => none
noncomputable def packet_Put_mk : ((List Int) × Int) → List DV := fun ⟨r0, r1⟩ => [⟨.slice (.int .u8), r0⟩, ⟨.int .i64, r1⟩]
theorem packet_Put_ex : ∃ f : (Int) → (Int) → (List (Int × Int × Int × Int × Int × Int × Int × Int × Bool × (List (Int × (List Int))) × (List Int))) → Option ((List Int) × Int), f = fun (x0 : Int) (x1 : Int) (x2 : List (Int × Int × Int × Int × Int × Int × Int × Int × Bool × (List (Int × (List Int))) × (List Int))) => funRun packet_Put_C 3 10 [(true, [(false, .int .i64), (false, .int .i64), (false, .slice (.pair (.int .i64) (.pair (.int .i64) (.pair (.int .i64) (.pair (.int .i64) (.pair (.int .i64) (.pair (.int .i64) (.pair (.int .i64) (.pair (.int .i64) (.pair (.bool) (.pair (.slice (.pair (.int .i64) (.slice (.int .u8)))) (.slice (.int .u8)))))))))))))])] [(false, [(true, .slice (.int .u8))]), (false, [(false, .int .i64)])] packet_Put_un [⟨.int .i64, x0⟩, ⟨.int .i64, x1⟩, ⟨.slice (.pair (.int .i64) (.pair (.int .i64) (.pair (.int .i64) (.pair (.int .i64) (.pair (.int .i64) (.pair (.int .i64) (.pair (.int .i64) (.pair (.int .i64) (.pair (.bool) (.pair (.slice (.pair (.int .i64) (.slice (.int .u8)))) (.slice (.int .u8)))))))))))), x2⟩] := ⟨_, rfl⟩
noncomputable def packet_Put : (Int) → (Int) → (List (Int × Int × Int × Int × Int × Int × Int × Int × Bool × (List (Int × (List Int))) × (List Int))) → Option ((List Int) × Int) := packet_Put_ex.choose
theorem packet_Put_raw (x0 : Int) (x1 : Int) (x2 : List (Int × Int × Int × Int × Int × Int × Int × Int × Bool × (List (Int × (List Int))) × (List Int))) : packet_Put x0 x1 x2 = funRun packet_Put_C 3 10 [(true, [(false, .int .i64), (false, .int .i64), (false, .slice (.pair (.int .i64) (.pair (.int .i64) (.pair (.int .i64) (.pair (.int .i64) (.pair (.int .i64) (.pair (.int .i64) (.pair (.int .i64) (.pair (.int .i64) (.pair (.bool) (.pair (.slice (.pair (.int .i64) (.slice (.int .u8)))) (.slice (.int .u8)))))))))))))])] [(false, [(true, .slice (.int .u8))]), (false, [(false, .int .i64)])] packet_Put_un [⟨.int .i64, x0⟩, ⟨.int .i64, x1⟩, ⟨.slice (.pair (.int .i64) (.pair (.int .i64) (.pair (.int .i64) (.pair (.int .i64) (.pair (.int .i64) (.pair (.int .i64) (.pair (.int .i64) (.pair (.int .i64) (.pair (.bool) (.pair (.slice (.pair (.int .i64) (.slice (.int .u8)))) (.slice (.int .u8)))))))))))), x2⟩] := congrFun (congrFun (congrFun (packet_Put_ex.choose_spec) x0) x1) x2
noncomputable def packet_Put_l0 (y0 : List ((Int) × ((Int) × ((Int) × ((Int) × ((Int) × ((Int) × ((Int) × ((Int) × ((Bool) × ((List ((Int) × (List (Int)))) × (List (Int))))))))))))) (y1 : Int) (y2 : Int) (y3 : List (Int)) : Option ((List Int) × Int) := loopAt packet_Put_C 3 10 [(false, [(true, .slice (.int .u8))]), (false, [(false, .int .i64)])] packet_Put_un [true, true, true, false, true, false] (St.ofLists [(5, .ow 61), (26, .fz ((Ty.int IntKind.i64).pair ((Ty.int IntKind.i64).pair ((Ty.int IntKind.i64).pair ((Ty.int IntKind.i64).pair ((Ty.int IntKind.i64).pair ((Ty.int IntKind.i64).pair ((Ty.int IntKind.i64).pair ((Ty.int IntKind.i64).pair (Ty.bool.pair (((Ty.int IntKind.i64).pair (Ty.int IntKind.u8).slice).slice.pair (Ty.int IntKind.u8).slice)))))))))) y0 false false), (27, .int .i64 y1), (28, .int .i64 y2)] [(61, some (.row (Ty.int IntKind.u8) y3 0 false))] [292, 284, 108, 676, 516, 508, 156, 61, 636, 612, 604, 172, 60])
noncomputable def packet_Put_l2 (y0 : List ((Int) × ((Int) × ((Int) × ((Int) × ((Int) × ((Int) × ((Int) × ((Int) × ((Bool) × ((List ((Int) × (List (Int)))) × (List (Int))))))))))))) (y1 : Int) (y2 : Int) (y3 : List ((Int) × (List (Int)))) (y4 : Int) (y5 : Int) (y6 : Int) (y7 : Int) (y8 : Int) (y9 : Int) (y10 : Int) (y11 : Int) (y12 : Int) (y13 : Int) (y14 : Bool) (y15 : List ((Int) × (List (Int)))) (y16 : List (Int)) (y17 : List (Int)) : Option ((List Int) × Int) := loopAt packet_Put_C 3 10 [(false, [(true, .slice (.int .u8))]), (false, [(false, .int .i64)])] packet_Put_un [true, true, true, false, true, false, false, true, true, false, false, true, true, false, true, false] (St.ofLists [(5, .ow 60), (7, .ptr 156 0), (26, .fz ((Ty.int IntKind.i64).pair ((Ty.int IntKind.i64).pair ((Ty.int IntKind.i64).pair ((Ty.int IntKind.i64).pair ((Ty.int IntKind.i64).pair ((Ty.int IntKind.i64).pair ((Ty.int IntKind.i64).pair ((Ty.int IntKind.i64).pair (Ty.bool.pair (((Ty.int IntKind.i64).pair (Ty.int IntKind.u8).slice).slice.pair (Ty.int IntKind.u8).slice)))))))))) y0 false false), (27, .int .i64 y1), (28, .int .i64 y2), (54, .fz ((Ty.int IntKind.i64).pair (Ty.int IntKind.u8).slice) y3 false false), (55, .int .i64 y4), (56, .int .i64 y5)] [(156, some (.cells [.int .i64 y6, .int .i64 y7, .int .i64 y8, .int .i64 y9, .int .i64 y10, .int .i64 y11, .int .i64 y12, .int .i64 y13, .bool y14, .fz ((Ty.int IntKind.i64).pair (Ty.int IntKind.u8).slice) y15 false false, .fz (Ty.int IntKind.u8) y16 false false])), (60, some (.row (Ty.int IntKind.u8) y17 0 false))] [516, 508, 156, 292, 284, 108, 636, 612, 604, 172, 60, 676, 61])
theorem packet_Put_eq (x0 : Int) (x1 : Int) (x2 : List (Int × Int × Int × Int × Int × Int × Int × Int × Bool × (List (Int × (List Int))) × (List Int))) : packet_Put x0 x1 x2 =
  (packet_Check x0 x1 x2).bind fun val0 =>
  bif val0 != 0
    then some (([]), (val0))
    else (packet_numbers [] [x0, x1, ilen x2]).bind fun val4 =>
      packet_Put_l0 (x2) (ilen x2) (0) (val4) := (packet_Put_raw x0 x1 x2).trans (by kernel_rfl)
theorem packet_Put_l0_eq (y0 : List ((Int) × ((Int) × ((Int) × ((Int) × ((Int) × ((Int) × ((Int) × ((Int) × ((Bool) × ((List ((Int) × (List (Int)))) × (List (Int))))))))))))) (y1 : Int) (y2 : Int) (y3 : List (Int)) : packet_Put_l0 y0 y1 y2 y3 =
  bif decide (y2 < y1)
  then bif decide (0 ≤ y2)
    then (y0[y2.toNat]?).bind fun val4 =>
      (packet_yes val4.snd.snd.snd.snd.snd.snd.snd.snd.fst).bind fun val6 =>
        (packet_numbers y3 [val4.fst, val4.snd.fst, val4.snd.snd.snd.snd.fst, val4.snd.snd.snd.snd.snd.fst, val4.snd.snd.snd.snd.snd.snd.fst, val4.snd.snd.snd.snd.snd.snd.snd.fst, val6, ilen val4.snd.snd.snd.snd.snd.snd.snd.snd.snd.fst]).bind fun val8 =>
          packet_Put_l2 (y0) (y1) (y2) (val4.snd.snd.snd.snd.snd.snd.snd.snd.snd.fst) (ilen val4.snd.snd.snd.snd.snd.snd.snd.snd.snd.fst) (0) (val4.fst) (val4.snd.fst) (val4.snd.snd.fst) (val4.snd.snd.snd.fst) (val4.snd.snd.snd.snd.fst) (val4.snd.snd.snd.snd.snd.fst) (val4.snd.snd.snd.snd.snd.snd.fst) (val4.snd.snd.snd.snd.snd.snd.snd.fst) (val4.snd.snd.snd.snd.snd.snd.snd.snd.fst) (val4.snd.snd.snd.snd.snd.snd.snd.snd.snd.fst) (val4.snd.snd.snd.snd.snd.snd.snd.snd.snd.snd) (val8)
    else none
  else (crc_Sum y3).bind fun val2 =>
    bif decide ((ilen y3 + ilen [IntKind.u8.wrap val2, IntKind.u8.wrap (val2.fdiv (2 ^ min (Int.toNat 8) IntKind.u32.bits)), IntKind.u8.wrap (val2.fdiv (2 ^ min (Int.toNat 16) IntKind.u32.bits)), IntKind.u8.wrap (val2.fdiv (2 ^ min (Int.toNat 24) IntKind.u32.bits))]) * 1 ≤ room)
      then some ((y3 ++ [IntKind.u8.wrap val2, IntKind.u8.wrap (val2.fdiv (2 ^ min (Int.toNat 8) IntKind.u32.bits)), IntKind.u8.wrap (val2.fdiv (2 ^ min (Int.toNat 16) IntKind.u32.bits)), IntKind.u8.wrap (val2.fdiv (2 ^ min (Int.toNat 24) IntKind.u32.bits))]), (0))
      else none := (loopAt_step _ _ _ _ _ _ _).trans (by kernel_rfl)
theorem packet_Put_l2_eq (y0 : List ((Int) × ((Int) × ((Int) × ((Int) × ((Int) × ((Int) × ((Int) × ((Int) × ((Bool) × ((List ((Int) × (List (Int)))) × (List (Int))))))))))))) (y1 : Int) (y2 : Int) (y3 : List ((Int) × (List (Int)))) (y4 : Int) (y5 : Int) (y6 : Int) (y7 : Int) (y8 : Int) (y9 : Int) (y10 : Int) (y11 : Int) (y12 : Int) (y13 : Int) (y14 : Bool) (y15 : List ((Int) × (List (Int)))) (y16 : List (Int)) (y17 : List (Int)) : packet_Put_l2 y0 y1 y2 y3 y4 y5 y6 y7 y8 y9 y10 y11 y12 y13 y14 y15 y16 y17 =
  bif decide (y5 < y4)
  then bif decide (0 ≤ y5)
    then (y3[y5.toNat]?).bind fun val4 =>
      (packet_numbers y17 [val4.fst]).bind fun val6 =>
        (pack_Bytes val6 val4.snd).bind fun val8 =>
          packet_Put_l2 (y0) (y1) (y2) (y3) (y4) (IntKind.i64.wrap (y5 + 1)) (y6) (y7) (y8) (y9) (y10) (y11) (y12) (y13) (y14) (y15) (y16) (val8)
    else none
  else (pack_Bytes y17 y16).bind fun val2 =>
    packet_Put_l0 (y0) (y1) (IntKind.i64.wrap (y2 + 1)) (val2) := (loopAt_step _ _ _ _ _ _ _).trans (by kernel_rfl)
noncomputable def packet_Put_sig : Sig := { pm := [(true, [(false, .int .i64), (false, .int .i64), (false, .slice (.pair (.int .i64) (.pair (.int .i64) (.pair (.int .i64) (.pair (.int .i64) (.pair (.int .i64) (.pair (.int .i64) (.pair (.int .i64) (.pair (.int .i64) (.pair (.bool) (.pair (.slice (.pair (.int .i64) (.slice (.int .u8)))) (.slice (.int .u8)))))))))))))])], rm := [(false, [(true, .slice (.int .u8))]), (false, [(false, .int .i64)])], f := fun | [⟨.int .i64, x0⟩, ⟨.int .i64, x1⟩, ⟨.slice (.pair (.int .i64) (.pair (.int .i64) (.pair (.int .i64) (.pair (.int .i64) (.pair (.int .i64) (.pair (.int .i64) (.pair (.int .i64) (.pair (.int .i64) (.pair (.bool) (.pair (.slice (.pair (.int .i64) (.slice (.int .u8)))) (.slice (.int .u8)))))))))))), x2⟩] => .yes _ (packet_Put x0 x1 x2) packet_Put_mk | _ => .no }
theorem packet_Put_ok : SigOk Try.prog 10 packet_Put_sig := by
  refine contract_of (C := packet_Put_C) (d := 3) ⟨S17_ok, noPs⟩ (callable_ex (by kernel_rfl)) ?_
  intro dvs
  unfold packet_Put_sig
  dsimp only
  split
  · refine .inr ⟨_, packet_Put_un, packet_Put_mk, congrArg (fun o => Cl.yes _ o _) (packet_Put_raw _ _ _), ?_⟩
    intro ds x h
    unfold packet_Put_un at h
    split at h
    · cases h; rfl
    · cases h
  · exact .inl rfl
noncomputable def S18 : List (Nat × Sig) := (10, packet_Put_sig) :: S17
theorem S18_ok : ListOk Try.prog S18 := ListOk.cons S17_ok packet_Put_ok
noncomputable def reader_fail_C : Cfg := { P := Try.prog, sig := lookSig S18, hb := fun _ _ => none, hr := fun _ _ => none }
noncomputable def reader_fail_un : List DV → Option ((List Int) × Int) := fun | [⟨.slice (.int .u8), r0⟩, ⟨.int .i64, r1⟩] => some (r0, r1) | _ => none
noncomputable def reader_fail_mk : ((List Int) × Int) → List DV := fun ⟨r0, r1⟩ => [⟨.slice (.int .u8), r0⟩, ⟨.int .i64, r1⟩]
theorem reader_fail_ex : ∃ f : (List Int) → (Int) → (Int) → Option ((List Int) × Int), f = fun (x0 : List Int) (x1 : Int) (x2 : Int) => pRun reader_fail_C 3 35 [(true, [(false, .slice (.int .u8)), (false, .int .i64)]), (false, [(false, .int .i64)])] [(true, [(false, .slice (.int .u8)), (false, .int .i64)])] reader_fail_un [⟨.slice (.int .u8), x0⟩, ⟨.int .i64, x1⟩, ⟨.int .i64, x2⟩] := ⟨_, rfl⟩
noncomputable def reader_fail : (List Int) → (Int) → (Int) → Option ((List Int) × Int) := reader_fail_ex.choose
theorem reader_fail_raw (x0 : List Int) (x1 : Int) (x2 : Int) : reader_fail x0 x1 x2 = pRun reader_fail_C 3 35 [(true, [(false, .slice (.int .u8)), (false, .int .i64)]), (false, [(false, .int .i64)])] [(true, [(false, .slice (.int .u8)), (false, .int .i64)])] reader_fail_un [⟨.slice (.int .u8), x0⟩, ⟨.int .i64, x1⟩, ⟨.int .i64, x2⟩] := congrFun (congrFun (congrFun (reader_fail_ex.choose_spec) x0) x1) x2
theorem reader_fail_eq (x0 : List Int) (x1 : Int) (x2 : Int) : reader_fail x0 x1 x2 =
  bif x1 == 0
  then some ((x0), (x2))
  else some ((x0), (x1)) := (reader_fail_raw x0 x1 x2).trans (by kernel_rfl)
noncomputable def reader_fail_sig : Sig := { pm := [(true, [(false, .slice (.int .u8)), (false, .int .i64)]), (false, [(false, .int .i64)])], rm := [(true, [(false, .slice (.int .u8)), (false, .int .i64)])], f := fun | [⟨.slice (.int .u8), x0⟩, ⟨.int .i64, x1⟩, ⟨.int .i64, x2⟩] => .yes _ (reader_fail x0 x1 x2) reader_fail_mk | _ => .no }
theorem reader_fail_ok : PSigOk Try.prog 35 reader_fail_sig := by
  refine pcontract_of (C := reader_fail_C) (d := 3) ⟨S18_ok, noPs⟩ (callable_ex (by kernel_rfl)) ?_
  intro dvs
  unfold reader_fail_sig
  dsimp only
  split
  · refine .inr ⟨_, reader_fail_un, reader_fail_mk, congrArg (fun o => Cl.yes _ o _) (reader_fail_raw _ _ _), ?_⟩
    intro ds x h
    unfold reader_fail_un at h
    split at h
    · cases h; rfl
    · cases h
  · exact .inl rfl
noncomputable def P19 : List (Nat × Sig) := (35, reader_fail_sig) :: P0
theorem P19_ok : ListPOk Try.prog P19 := ListPOk.cons P0_ok reader_fail_ok
noncomputable def reader_number_C : Cfg := { P := Try.prog, sig := lookSig S18, hb := fun _ _ => none, hr := fun _ _ => none, ps := lookSig P19 }
noncomputable def reader_number_un : List DV → Option ((List Int) × Int × Int) := fun | [⟨.slice (.int .u8), r0⟩, ⟨.int .i64, r1⟩, ⟨.int .i64, r2⟩] => some (r0, r1, r2) | _ => none
noncomputable def reader_number_mk : ((List Int) × Int × Int) → List DV := fun ⟨r0, r1, r2⟩ => [⟨.slice (.int .u8), r0⟩, ⟨.int .i64, r1⟩, ⟨.int .i64, r2⟩]
theorem reader_number_ex : ∃ f : (List Int) → (Int) → (Int) → Option ((List Int) × Int × Int), f = fun (x0 : List Int) (x1 : Int) (x2 : Int) => pRun reader_number_C 3 33 [(true, [(false, .slice (.int .u8)), (false, .int .i64)]), (false, [(false, .int .i64)])] [(true, [(false, .slice (.int .u8)), (false, .int .i64)]), (false, [(false, .int .i64)])] reader_number_un [⟨.slice (.int .u8), x0⟩, ⟨.int .i64, x1⟩, ⟨.int .i64, x2⟩] := ⟨_, rfl⟩
noncomputable def reader_number : (List Int) → (Int) → (Int) → Option ((List Int) × Int × Int) := reader_number_ex.choose
theorem reader_number_raw (x0 : List Int) (x1 : Int) (x2 : Int) : reader_number x0 x1 x2 = pRun reader_number_C 3 33 [(true, [(false, .slice (.int .u8)), (false, .int .i64)]), (false, [(false, .int .i64)])] [(true, [(false, .slice (.int .u8)), (false, .int .i64)]), (false, [(false, .int .i64)])] reader_number_un [⟨.slice (.int .u8), x0⟩, ⟨.int .i64, x1⟩, ⟨.int .i64, x2⟩] := congrFun (congrFun (congrFun (reader_number_ex.choose_spec) x0) x1) x2
theorem reader_number_eq (x0 : List Int) (x1 : Int) (x2 : Int) : reader_number x0 x1 x2 =
  bif x1 != 0
  then some ((x0), ((x1), (0)))
  else (pack_ReadUint x0).bind fun val2 =>
    (reader_fail x0 x1 val2.2.2).bind fun val4 =>
      bif val2.2.2 != 0
        then some ((val4.1), ((val4.2), (0)))
        else bif decide (val2.1 > IntKind.u64.wrap x2)
          then (reader_fail val2.2.1 val4.2 6).bind fun val10 =>
            some ((val10.1), ((val10.2), (0)))
          else some ((val2.2.1), ((val4.2), (IntKind.i64.wrap val2.1))) := (reader_number_raw x0 x1 x2).trans (by kernel_rfl)
noncomputable def reader_number_sig : Sig := { pm := [(true, [(false, .slice (.int .u8)), (false, .int .i64)]), (false, [(false, .int .i64)])], rm := [(true, [(false, .slice (.int .u8)), (false, .int .i64)]), (false, [(false, .int .i64)])], f := fun | [⟨.slice (.int .u8), x0⟩, ⟨.int .i64, x1⟩, ⟨.int .i64, x2⟩] => .yes _ (reader_number x0 x1 x2) reader_number_mk | _ => .no }
theorem reader_number_ok : PSigOk Try.prog 33 reader_number_sig := by
  refine pcontract_of (C := reader_number_C) (d := 3) ⟨S18_ok, P19_ok⟩ (callable_ex (by kernel_rfl)) ?_
  intro dvs
  unfold reader_number_sig
  dsimp only
  split
  · refine .inr ⟨_, reader_number_un, reader_number_mk, congrArg (fun o => Cl.yes _ o _) (reader_number_raw _ _ _), ?_⟩
    intro ds x h
    unfold reader_number_un at h
    split at h
    · cases h; rfl
    · cases h
  · exact .inl rfl
noncomputable def P20 : List (Nat × Sig) := (33, reader_number_sig) :: P19
theorem P20_ok : ListPOk Try.prog P20 := ListPOk.cons P19_ok reader_number_ok
noncomputable def reader_bytes_C : Cfg := { P := Try.prog, sig := lookSig S18, hb := fun _ _ => none, hr := fun _ _ => none, ps := lookSig P20 }
noncomputable def reader_bytes_un : List DV → Option ((List Int) × Int × (List Int)) := fun | [⟨.slice (.int .u8), r0⟩, ⟨.int .i64, r1⟩, ⟨.slice (.int .u8), r2⟩] => some (r0, r1, r2) | _ => none
noncomputable def reader_bytes_mk : ((List Int) × Int × (List Int)) → List DV := fun ⟨r0, r1, r2⟩ => [⟨.slice (.int .u8), r0⟩, ⟨.int .i64, r1⟩, ⟨.slice (.int .u8), r2⟩]
theorem reader_bytes_ex : ∃ f : (List Int) → (Int) → Option ((List Int) × Int × (List Int)), f = fun (x0 : List Int) (x1 : Int) => pRun reader_bytes_C 3 46 [(true, [(false, .slice (.int .u8)), (false, .int .i64)])] [(true, [(false, .slice (.int .u8)), (false, .int .i64)]), (false, [(false, .slice (.int .u8))])] reader_bytes_un [⟨.slice (.int .u8), x0⟩, ⟨.int .i64, x1⟩] := ⟨_, rfl⟩
noncomputable def reader_bytes : (List Int) → (Int) → Option ((List Int) × Int × (List Int)) := reader_bytes_ex.choose
theorem reader_bytes_raw (x0 : List Int) (x1 : Int) : reader_bytes x0 x1 = pRun reader_bytes_C 3 46 [(true, [(false, .slice (.int .u8)), (false, .int .i64)])] [(true, [(false, .slice (.int .u8)), (false, .int .i64)]), (false, [(false, .slice (.int .u8))])] reader_bytes_un [⟨.slice (.int .u8), x0⟩, ⟨.int .i64, x1⟩] := congrFun (congrFun (reader_bytes_ex.choose_spec) x0) x1
theorem reader_bytes_eq (x0 : List Int) (x1 : Int) : reader_bytes x0 x1 =
  bif x1 != 0
  then some ((x0), ((x1), ([])))
  else (pack_ReadBytes x0).bind fun val2 =>
    (reader_fail x0 x1 val2.2.2).bind fun val4 =>
      bif val2.2.2 != 0
        then some ((val4.1), ((val4.2), ([])))
        else (packet_CloneB val2.1).bind fun val8 =>
          some ((val2.2.1), ((val4.2), (val8))) := (reader_bytes_raw x0 x1).trans (by kernel_rfl)
noncomputable def reader_bytes_sig : Sig := { pm := [(true, [(false, .slice (.int .u8)), (false, .int .i64)])], rm := [(true, [(false, .slice (.int .u8)), (false, .int .i64)]), (false, [(false, .slice (.int .u8))])], f := fun | [⟨.slice (.int .u8), x0⟩, ⟨.int .i64, x1⟩] => .yes _ (reader_bytes x0 x1) reader_bytes_mk | _ => .no }
theorem reader_bytes_ok : PSigOk Try.prog 46 reader_bytes_sig := by
  refine pcontract_of (C := reader_bytes_C) (d := 3) ⟨S18_ok, P20_ok⟩ (callable_ex (by kernel_rfl)) ?_
  intro dvs
  unfold reader_bytes_sig
  dsimp only
  split
  · refine .inr ⟨_, reader_bytes_un, reader_bytes_mk, congrArg (fun o => Cl.yes _ o _) (reader_bytes_raw _ _), ?_⟩
    intro ds x h
    unfold reader_bytes_un at h
    split at h
    · cases h; rfl
    · cases h
  · exact .inl rfl
noncomputable def P21 : List (Nat × Sig) := (46, reader_bytes_sig) :: P20
theorem P21_ok : ListPOk Try.prog P21 := ListPOk.cons P20_ok reader_bytes_ok
noncomputable def reader_msg_C : Cfg := { P := Try.prog, sig := lookSig S18, hb := fun f b =>  bif Nat.beq f 34 && Nat.beq b 0 then some { tmps := [0, 6, 7, 8, 9, 10], obs := [50, 148, 164, 60], nils := [], kl := [164, 148, 580, 572, 60], cn := [(164, 9, 60, (.pair (.int .i64) (.slice (.int .u8))))] } else none, hr := fun _ _ => none, ps := lookSig P21 }
noncomputable def reader_msg_un : List DV → Option ((List Int) × Int × Int × Int × Int × Int × Int × Int × Int × Int × Bool × (List (Int × (List Int))) × (List Int)) := fun | [⟨.slice (.int .u8), r0⟩, ⟨.int .i64, r1⟩, ⟨.int .i64, r2⟩, ⟨.int .i64, r3⟩, ⟨.int .i64, r4⟩, ⟨.int .i64, r5⟩, ⟨.int .i64, r6⟩, ⟨.int .i64, r7⟩, ⟨.int .i64, r8⟩, ⟨.int .i64, r9⟩, ⟨.bool, r10⟩, ⟨.slice (.pair (.int .i64) (.slice (.int .u8))), r11⟩, ⟨.slice (.int .u8), r12⟩] => some (r0, r1, r2, r3, r4, r5, r6, r7, r8, r9, r10, r11, r12) | _ => none
noncomputable def reader_msg_mk : ((List Int) × Int × Int × Int × Int × Int × Int × Int × Int × Int × Bool × (List (Int × (List Int))) × (List Int)) → List DV := fun ⟨r0, r1, r2, r3, r4, r5, r6, r7, r8, r9, r10, r11, r12⟩ => [⟨.slice (.int .u8), r0⟩, ⟨.int .i64, r1⟩, ⟨.int .i64, r2⟩, ⟨.int .i64, r3⟩, ⟨.int .i64, r4⟩, ⟨.int .i64, r5⟩, ⟨.int .i64, r6⟩, ⟨.int .i64, r7⟩, ⟨.int .i64, r8⟩, ⟨.int .i64, r9⟩, ⟨.bool, r10⟩, ⟨.slice (.pair (.int .i64) (.slice (.int .u8))), r11⟩, ⟨.slice (.int .u8), r12⟩]
theorem reader_msg_ex : ∃ f : (List Int) → (Int) → (Int) → (Int) → Option ((List Int) × Int × Int × Int × Int × Int × Int × Int × Int × Int × Bool × (List (Int × (List Int))) × (List Int)), f = fun (x0 : List Int) (x1 : Int) (x2 : Int) (x3 : Int) => pRun reader_msg_C 3 34 [(true, [(false, .slice (.int .u8)), (false, .int .i64)]), (false, [(false, .int .i64)]), (false, [(false, .int .i64)])] [(true, [(false, .slice (.int .u8)), (false, .int .i64)]), (true, [(false, .int .i64), (false, .int .i64), (false, .int .i64), (false, .int .i64), (false, .int .i64), (false, .int .i64), (false, .int .i64), (false, .int .i64), (false, .bool), (false, .slice (.pair (.int .i64) (.slice (.int .u8)))), (false, .slice (.int .u8))])] reader_msg_un [⟨.slice (.int .u8), x0⟩, ⟨.int .i64, x1⟩, ⟨.int .i64, x2⟩, ⟨.int .i64, x3⟩] := ⟨_, rfl⟩
noncomputable def reader_msg : (List Int) → (Int) → (Int) → (Int) → Option ((List Int) × Int × Int × Int × Int × Int × Int × Int × Int × Int × Bool × (List (Int × (List Int))) × (List Int)) := reader_msg_ex.choose
theorem reader_msg_raw (x0 : List Int) (x1 : Int) (x2 : Int) (x3 : Int) : reader_msg x0 x1 x2 x3 = pRun reader_msg_C 3 34 [(true, [(false, .slice (.int .u8)), (false, .int .i64)]), (false, [(false, .int .i64)]), (false, [(false, .int .i64)])] [(true, [(false, .slice (.int .u8)), (false, .int .i64)]), (true, [(false, .int .i64), (false, .int .i64), (false, .int .i64), (false, .int .i64), (false, .int .i64), (false, .int .i64), (false, .int .i64), (false, .int .i64), (false, .bool), (false, .slice (.pair (.int .i64) (.slice (.int .u8)))), (false, .slice (.int .u8))])] reader_msg_un [⟨.slice (.int .u8), x0⟩, ⟨.int .i64, x1⟩, ⟨.int .i64, x2⟩, ⟨.int .i64, x3⟩] := congrFun (congrFun (congrFun (congrFun (reader_msg_ex.choose_spec) x0) x1) x2) x3
noncomputable def reader_msg_l0 (y0 : Int) (y1 : Int) (y2 : List (Int)) (y3 : Int) (y4 : Int) (y5 : Int) (y6 : Int) (y7 : Int) (y8 : Int) (y9 : Int) (y10 : Int) (y11 : Int) (y12 : Bool) (y13 : Int) (y14 : Int) (y15 : Int) (y16 : Int) (y17 : Int) (y18 : Int) (y19 : Int) (y20 : Int) (y21 : Bool) (y22 : List ((Int) × (List (Int)))) : Option ((List Int) × Int × Int × Int × Int × Int × Int × Int × Int × Int × Bool × (List (Int × (List Int))) × (List Int)) := ploopAt reader_msg_C 3 34 [(true, [(false, .slice (.int .u8)), (false, .int .i64)]), (true, [(false, .int .i64), (false, .int .i64), (false, .int .i64), (false, .int .i64), (false, .int .i64), (false, .int .i64), (false, .int .i64), (false, .int .i64), (false, .bool), (false, .slice (.pair (.int .i64) (.slice (.int .u8)))), (false, .slice (.int .u8))])] reader_msg_un [true, true, true, true, true, true, true, false, true, false] (St.ofLists [(0, .ptr 50 0), (6, .ptr 148 0), (7, .bnd 33 [.ptr 50 0]), (8, .ptr 164 0), (9, .int .i64 y0), (10, .int .i64 y1)] [(50, some (.cells [.fz (Ty.int IntKind.u8) y2 false false, .int .i64 y3])), (148, some (.cells [.int .i64 y4, .int .i64 y5, .int .i64 y6, .int .i64 y7, .int .i64 y8, .int .i64 y9, .int .i64 y10, .int .i64 y11, .bool y12, .nils, .nils])), (164, some (.cells [.int .i64 y13, .int .i64 y14, .int .i64 y15, .int .i64 y16, .int .i64 y17, .int .i64 y18, .int .i64 y19, .int .i64 y20, .bool y21, .ow 60, .nils])), (60, some (.row ((Ty.int IntKind.i64).pair (Ty.int IntKind.u8).slice) y22 0 false))] [164, 148, 580, 572, 60])
theorem reader_msg_eq (x0 : List Int) (x1 : Int) (x2 : Int) (x3 : Int) : reader_msg x0 x1 x2 x3 =
  (reader_number x0 x1 7).bind fun val0 =>
  (reader_number val0.1 val0.2.1 64).bind fun val2 =>
    (reader_number val2.1 val2.2.1 1099511627776).bind fun val4 =>
      (reader_number val4.1 val4.2.1 1099511627776).bind fun val6 =>
        (reader_number val6.1 val6.2.1 1099511627776).bind fun val8 =>
          (reader_number val8.1 val8.2.1 1099511627776).bind fun val10 =>
            (reader_number val10.1 val10.2.1 1).bind fun val12 =>
              (reader_number val12.1 val12.2.1 8).bind fun val14 =>
                reader_msg_l0 (val14.2.2) (0) (val14.1) (val14.2.1) (0) (0) (0) (0) (0) (0) (0) (0) (false) (val0.2.2) (val2.2.2) (x2) (x3) (val4.2.2) (val6.2.2) (val8.2.2) (val10.2.2) (val12.2.2 == 1) ([]) := (reader_msg_raw x0 x1 x2 x3).trans (by kernel_rfl)
theorem reader_msg_l0_eq (y0 : Int) (y1 : Int) (y2 : List (Int)) (y3 : Int) (y4 : Int) (y5 : Int) (y6 : Int) (y7 : Int) (y8 : Int) (y9 : Int) (y10 : Int) (y11 : Int) (y12 : Bool) (y13 : Int) (y14 : Int) (y15 : Int) (y16 : Int) (y17 : Int) (y18 : Int) (y19 : Int) (y20 : Int) (y21 : Bool) (y22 : List ((Int) × (List (Int)))) : reader_msg_l0 y0 y1 y2 y3 y4 y5 y6 y7 y8 y9 y10 y11 y12 y13 y14 y15 y16 y17 y18 y19 y20 y21 y22 =
  bif decide (y1 < y0)
  then bif y3 == 0
    then (reader_number y2 y3 1099511627776).bind fun val4 =>
      (reader_bytes val4.1 val4.2.1).bind fun val6 =>
        bif decide ((ilen y22 + ilen [(val4.2.2, val6.2.2)]) * 32 ≤ room)
          then reader_msg_l0 (y0) (IntKind.i64.wrap (y1 + 1)) (val6.1) (val6.2.1) (y4) (y5) (y6) (y7) (y8) (y9) (y10) (y11) (y12) (y13) (y14) (y15) (y16) (y17) (y18) (y19) (y20) (y21) (y22 ++ [(val4.2.2, val6.2.2)])
          else none
    else (reader_bytes y2 y3).bind fun val4 =>
      some ((val4.1), ((val4.2.1), ((y13), ((y14), ((y15), ((y16), ((y17), ((y18), ((y19), ((y20), ((y21), ((y22), (val4.2.2)))))))))))))
  else (reader_bytes y2 y3).bind fun val2 =>
    some ((val2.1), ((val2.2.1), ((y13), ((y14), ((y15), ((y16), ((y17), ((y18), ((y19), ((y20), ((y21), ((y22), (val2.2.2))))))))))))) := (ploopAt_step _ _ _ _ _ _ _).trans (by kernel_rfl)
noncomputable def reader_msg_sig : Sig := { pm := [(true, [(false, .slice (.int .u8)), (false, .int .i64)]), (false, [(false, .int .i64)]), (false, [(false, .int .i64)])], rm := [(true, [(false, .slice (.int .u8)), (false, .int .i64)]), (true, [(false, .int .i64), (false, .int .i64), (false, .int .i64), (false, .int .i64), (false, .int .i64), (false, .int .i64), (false, .int .i64), (false, .int .i64), (false, .bool), (false, .slice (.pair (.int .i64) (.slice (.int .u8)))), (false, .slice (.int .u8))])], f := fun | [⟨.slice (.int .u8), x0⟩, ⟨.int .i64, x1⟩, ⟨.int .i64, x2⟩, ⟨.int .i64, x3⟩] => .yes _ (reader_msg x0 x1 x2 x3) reader_msg_mk | _ => .no }
theorem reader_msg_ok : PSigOk Try.prog 34 reader_msg_sig := by
  refine pcontract_of (C := reader_msg_C) (d := 3) ⟨S18_ok, P21_ok⟩ (callable_ex (by kernel_rfl)) ?_
  intro dvs
  unfold reader_msg_sig
  dsimp only
  split
  · refine .inr ⟨_, reader_msg_un, reader_msg_mk, congrArg (fun o => Cl.yes _ o _) (reader_msg_raw _ _ _ _), ?_⟩
    intro ds x h
    unfold reader_msg_un at h
    split at h
    · cases h; rfl
    · cases h
  · exact .inl rfl
noncomputable def P22 : List (Nat × Sig) := (34, reader_msg_sig) :: P21
theorem P22_ok : ListPOk Try.prog P22 := ListPOk.cons P21_ok reader_msg_ok
noncomputable def packet_Read_C : Cfg := { P := Try.prog, sig := lookSig S18, hb := fun f b =>  bif Nat.beq f 15 && Nat.beq b 0 then some { tmps := [2, 6, 7, 8, 9], obs := [116, 452, 156, 60], nils := [], kl := [156, 452, 404, 116, 684, 676, 60], cn := [(156, 2, 60, (.pair (.int .i64) (.pair (.int .i64) (.pair (.int .i64) (.pair (.int .i64) (.pair (.int .i64) (.pair (.int .i64) (.pair (.int .i64) (.pair (.int .i64) (.pair (.bool) (.pair (.slice (.pair (.int .i64) (.slice (.int .u8)))) (.slice (.int .u8)))))))))))))] } else none, hr := fun f b =>  bif Nat.beq f 15 && Nat.beq b 16 then some { tmps := [2, 6, 7], obs := [116, 452, 156, 66], nils := [], kl := [156, 452, 404, 116, 684, 676, 65, 66, 64, 65, 63, 64, 62, 63, 61, 62, 60, 61, 60], cn := [(156, 2, 61, (.pair (.int .i64) (.pair (.int .i64) (.pair (.int .i64) (.pair (.int .i64) (.pair (.int .i64) (.pair (.int .i64) (.pair (.int .i64) (.pair (.int .i64) (.pair (.bool) (.pair (.slice (.pair (.int .i64) (.slice (.int .u8)))) (.slice (.int .u8))))))))))))), (156, 2, 62, (.pair (.int .i64) (.pair (.int .i64) (.pair (.int .i64) (.pair (.int .i64) (.pair (.int .i64) (.pair (.int .i64) (.pair (.int .i64) (.pair (.int .i64) (.pair (.bool) (.pair (.slice (.pair (.int .i64) (.slice (.int .u8)))) (.slice (.int .u8))))))))))))), (156, 2, 63, (.pair (.int .i64) (.pair (.int .i64) (.pair (.int .i64) (.pair (.int .i64) (.pair (.int .i64) (.pair (.int .i64) (.pair (.int .i64) (.pair (.int .i64) (.pair (.bool) (.pair (.slice (.pair (.int .i64) (.slice (.int .u8)))) (.slice (.int .u8))))))))))))), (156, 2, 64, (.pair (.int .i64) (.pair (.int .i64) (.pair (.int .i64) (.pair (.int .i64) (.pair (.int .i64) (.pair (.int .i64) (.pair (.int .i64) (.pair (.int .i64) (.pair (.bool) (.pair (.slice (.pair (.int .i64) (.slice (.int .u8)))) (.slice (.int .u8))))))))))))), (156, 2, 65, (.pair (.int .i64) (.pair (.int .i64) (.pair (.int .i64) (.pair (.int .i64) (.pair (.int .i64) (.pair (.int .i64) (.pair (.int .i64) (.pair (.int .i64) (.pair (.bool) (.pair (.slice (.pair (.int .i64) (.slice (.int .u8)))) (.slice (.int .u8))))))))))))), (156, 2, 66, (.pair (.int .i64) (.pair (.int .i64) (.pair (.int .i64) (.pair (.int .i64) (.pair (.int .i64) (.pair (.int .i64) (.pair (.int .i64) (.pair (.int .i64) (.pair (.bool) (.pair (.slice (.pair (.int .i64) (.slice (.int .u8)))) (.slice (.int .u8)))))))))))))] } else none, ps := lookSig P22 }
noncomputable def packet_Read_un : List DV → Option (Int × Int × (List (Int × Int × Int × Int × Int × Int × Int × Int × Bool × (List (Int × (List Int))) × (List Int))) × Int) := fun | [⟨.int .i64, r0⟩, ⟨.int .i64, r1⟩, ⟨.slice (.pair (.int .i64) (.pair (.int .i64) (.pair (.int .i64) (.pair (.int .i64) (.pair (.int .i64) (.pair (.int .i64) (.pair (.int .i64) (.pair (.int .i64) (.pair (.bool) (.pair (.slice (.pair (.int .i64) (.slice (.int .u8)))) (.slice (.int .u8)))))))))))), r2⟩, ⟨.int .i64, r3⟩] => some (r0, r1, r2, r3) | _ => none
noncomputable def packet_Read_mk : (Int × Int × (List (Int × Int × Int × Int × Int × Int × Int × Int × Bool × (List (Int × (List Int))) × (List Int))) × Int) → List DV := fun ⟨r0, r1, r2, r3⟩ => [⟨.int .i64, r0⟩, ⟨.int .i64, r1⟩, ⟨.slice (.pair (.int .i64) (.pair (.int .i64) (.pair (.int .i64) (.pair (.int .i64) (.pair (.int .i64) (.pair (.int .i64) (.pair (.int .i64) (.pair (.int .i64) (.pair (.bool) (.pair (.slice (.pair (.int .i64) (.slice (.int .u8)))) (.slice (.int .u8)))))))))))), r2⟩, ⟨.int .i64, r3⟩]
theorem packet_Read_ex : ∃ f : (List Int) → Option (Int × Int × (List (Int × Int × Int × Int × Int × Int × Int × Int × Bool × (List (Int × (List Int))) × (List Int))) × Int), f = fun (x0 : List Int) => funRun packet_Read_C 3 15 [(false, [(false, .slice (.int .u8))])] [(true, [(false, .int .i64), (false, .int .i64), (false, .slice (.pair (.int .i64) (.pair (.int .i64) (.pair (.int .i64) (.pair (.int .i64) (.pair (.int .i64) (.pair (.int .i64) (.pair (.int .i64) (.pair (.int .i64) (.pair (.bool) (.pair (.slice (.pair (.int .i64) (.slice (.int .u8)))) (.slice (.int .u8)))))))))))))]), (false, [(false, .int .i64)])] packet_Read_un [⟨.slice (.int .u8), x0⟩] := ⟨_, rfl⟩
noncomputable def packet_Read : (List Int) → Option (Int × Int × (List (Int × Int × Int × Int × Int × Int × Int × Int × Bool × (List (Int × (List Int))) × (List Int))) × Int) := packet_Read_ex.choose
theorem packet_Read_raw (x0 : List Int) : packet_Read x0 = funRun packet_Read_C 3 15 [(false, [(false, .slice (.int .u8))])] [(true, [(false, .int .i64), (false, .int .i64), (false, .slice (.pair (.int .i64) (.pair (.int .i64) (.pair (.int .i64) (.pair (.int .i64) (.pair (.int .i64) (.pair (.int .i64) (.pair (.int .i64) (.pair (.int .i64) (.pair (.bool) (.pair (.slice (.pair (.int .i64) (.slice (.int .u8)))) (.slice (.int .u8)))))))))))))]), (false, [(false, .int .i64)])] packet_Read_un [⟨.slice (.int .u8), x0⟩] := congrFun (packet_Read_ex.choose_spec) x0
noncomputable def packet_Read_l0 (y0 : Int) (y1 : Int) (y2 : Int) (y3 : Int) (y4 : List (Int)) (y5 : Int) (y6 : Int) (y7 : Int) (y8 : List ((Int) × ((Int) × ((Int) × ((Int) × ((Int) × ((Int) × ((Int) × ((Int) × ((Bool) × ((List ((Int) × (List (Int)))) × (List (Int))))))))))))) : Option (Int × Int × (List (Int × Int × Int × Int × Int × Int × Int × Int × Bool × (List (Int × (List Int))) × (List Int))) × Int) := loopAt packet_Read_C 3 15 [(true, [(false, .int .i64), (false, .int .i64), (false, .slice (.pair (.int .i64) (.pair (.int .i64) (.pair (.int .i64) (.pair (.int .i64) (.pair (.int .i64) (.pair (.int .i64) (.pair (.int .i64) (.pair (.int .i64) (.pair (.bool) (.pair (.slice (.pair (.int .i64) (.slice (.int .u8)))) (.slice (.int .u8)))))))))))))]), (false, [(false, .int .i64)])] packet_Read_un [true, true, true, true, true, true, true, false, true, false] (St.ofLists [(2, .ptr 116 0), (6, .ptr 452 0), (7, .ptr 156 0), (8, .int .i64 y0), (9, .int .i64 y1)] [(116, some (.cells [.int .i64 y2, .int .i64 y3, .nils])), (452, some (.cells [.fz (Ty.int IntKind.u8) y4 false false, .int .i64 y5])), (156, some (.cells [.int .i64 y6, .int .i64 y7, .ow 60])), (60, some (.row ((Ty.int IntKind.i64).pair ((Ty.int IntKind.i64).pair ((Ty.int IntKind.i64).pair ((Ty.int IntKind.i64).pair ((Ty.int IntKind.i64).pair ((Ty.int IntKind.i64).pair ((Ty.int IntKind.i64).pair ((Ty.int IntKind.i64).pair (Ty.bool.pair (((Ty.int IntKind.i64).pair (Ty.int IntKind.u8).slice).slice.pair (Ty.int IntKind.u8).slice)))))))))) y8 0 false))] [156, 452, 404, 116, 684, 676, 60])
noncomputable def packet_Read_r16 (y0 : Int) (y1 : Int) (y2 : List (Int)) (y3 : Int) (y4 : Int) (y5 : Int) (y6 : List ((Int) × ((Int) × ((Int) × ((Int) × ((Int) × ((Int) × ((Int) × ((Int) × ((Bool) × ((List ((Int) × (List (Int)))) × (List (Int))))))))))))) : Option (Int × Int × (List (Int × Int × Int × Int × Int × Int × Int × Int × Bool × (List (Int × (List Int))) × (List Int))) × Int) := regAt packet_Read_C 3 15 [(true, [(false, .int .i64), (false, .int .i64), (false, .slice (.pair (.int .i64) (.pair (.int .i64) (.pair (.int .i64) (.pair (.int .i64) (.pair (.int .i64) (.pair (.int .i64) (.pair (.int .i64) (.pair (.int .i64) (.pair (.bool) (.pair (.slice (.pair (.int .i64) (.slice (.int .u8)))) (.slice (.int .u8)))))))))))))]), (false, [(false, .int .i64)])] packet_Read_un [true, true, true, true, true, true, true, true, true, false, false] (St.ofLists [(2, .ptr 116 0), (6, .ptr 452 0), (7, .ptr 156 0)] [(116, some (.cells [.int .i64 y0, .int .i64 y1, .nils])), (452, some (.cells [.fz (Ty.int IntKind.u8) y2 false false, .int .i64 y3])), (156, some (.cells [.int .i64 y4, .int .i64 y5, .ow 66])), (66, some (.row ((Ty.int IntKind.i64).pair ((Ty.int IntKind.i64).pair ((Ty.int IntKind.i64).pair ((Ty.int IntKind.i64).pair ((Ty.int IntKind.i64).pair ((Ty.int IntKind.i64).pair ((Ty.int IntKind.i64).pair ((Ty.int IntKind.i64).pair (Ty.bool.pair (((Ty.int IntKind.i64).pair (Ty.int IntKind.u8).slice).slice.pair (Ty.int IntKind.u8).slice)))))))))) y6 0 false))] [156, 452, 404, 116, 684, 676, 65, 66, 64, 65, 63, 64, 62, 63, 61, 62, 60, 61, 60])
theorem packet_Read_eq (x0 : List Int) : packet_Read x0 =
  bif decide (ilen x0 < 4)
  then some ((0), ((0), (([]), (5))))
  else bif decide (0 ≤ IntKind.i64.wrap (ilen x0 - 4))
    then bif decide (IntKind.i64.wrap (ilen x0 - 4) ≤ ilen x0)
      then bif decide (0 ≤ IntKind.i64.wrap (ilen x0 - 4))
        then bif decide (IntKind.i64.wrap (ilen x0 - 4) ≤ ilen x0)
          then bif decide (ilen x0 ≤ ilen x0)
            then (crc_Sum (List.drop (Int.toNat 0) (List.take (IntKind.i64.wrap (ilen x0 - 4)).toNat x0))).bind fun val12 =>
              (bytes_Equal (List.drop (IntKind.i64.wrap (ilen x0 - 4)).toNat (List.take (ilen x0).toNat x0)) [IntKind.u8.wrap val12, IntKind.u8.wrap (val12.fdiv (2 ^ min (Int.toNat 8) IntKind.u32.bits)), IntKind.u8.wrap (val12.fdiv (2 ^ min (Int.toNat 16) IntKind.u32.bits)), IntKind.u8.wrap (val12.fdiv (2 ^ min (Int.toNat 24) IntKind.u32.bits))]).bind fun val14 =>
                bif !val14
                  then some ((0), ((0), (([]), (4))))
                  else (reader_number (List.drop (Int.toNat 0) (List.take (IntKind.i64.wrap (ilen x0 - 4)).toNat x0)) 0 7).bind fun val18 =>
                    (reader_number val18.1 val18.2.1 7).bind fun val20 =>
                      (reader_number val20.1 val20.2.1 256).bind fun val22 =>
                        packet_Read_l0 (val22.2.2) (0) (0) (0) (val22.1) (val22.2.1) (val18.2.2) (val20.2.2) ([])
            else none
          else none
        else none
      else none
    else none := (packet_Read_raw x0).trans (by kernel_rfl)
theorem packet_Read_l0_eq (y0 : Int) (y1 : Int) (y2 : Int) (y3 : Int) (y4 : List (Int)) (y5 : Int) (y6 : Int) (y7 : Int) (y8 : List ((Int) × ((Int) × ((Int) × ((Int) × ((Int) × ((Int) × ((Int) × ((Int) × ((Bool) × ((List ((Int) × (List (Int)))) × (List (Int))))))))))))) : packet_Read_l0 y0 y1 y2 y3 y4 y5 y6 y7 y8 =
  bif decide (y1 < y0)
  then bif y5 == 0
    then (reader_msg y4 y5 y6 y7).bind fun val4 =>
      bif decide ((ilen y8 + ilen [val4.2.2]) * 120 ≤ room)
        then packet_Read_l0 (y0) (IntKind.i64.wrap (y1 + 1)) (y2) (y3) (val4.1) (val4.2.1) (y6) (y7) (y8 ++ [val4.2.2])
        else none
    else bif y5 == 0
      then bif decide (ilen y4 > 0)
        then (reader_fail y4 y5 3).bind fun val8 =>
          packet_Read_r16 (y2) (y3) (val8.1) (val8.2) (y6) (y7) (y8)
        else packet_Read_r16 (y2) (y3) (y4) (y5) (y6) (y7) (y8)
      else packet_Read_r16 (y2) (y3) (y4) (y5) (y6) (y7) (y8)
  else bif y5 == 0
    then bif decide (ilen y4 > 0)
      then (reader_fail y4 y5 3).bind fun val6 =>
        packet_Read_r16 (y2) (y3) (val6.1) (val6.2) (y6) (y7) (y8)
      else packet_Read_r16 (y2) (y3) (y4) (y5) (y6) (y7) (y8)
    else packet_Read_r16 (y2) (y3) (y4) (y5) (y6) (y7) (y8) := (loopAt_step _ _ _ _ _ _ _).trans (by kernel_rfl)
theorem packet_Read_r16_eq (y0 : Int) (y1 : Int) (y2 : List (Int)) (y3 : Int) (y4 : Int) (y5 : Int) (y6 : List ((Int) × ((Int) × ((Int) × ((Int) × ((Int) × ((Int) × ((Int) × ((Int) × ((Bool) × ((List ((Int) × (List (Int)))) × (List (Int))))))))))))) : packet_Read_r16 y0 y1 y2 y3 y4 y5 y6 =
  bif y3 == 0
  then (packet_Check y4 y5 y6).bind fun val2 =>
    (reader_fail y2 y3 val2).bind fun val4 =>
      bif val4.2 != 0
        then some ((0), ((0), (([]), (val4.2))))
        else some ((y4), ((y5), ((y6), (0))))
  else bif y3 != 0
    then some ((0), ((0), (([]), (y3))))
    else some ((y4), ((y5), ((y6), (0)))) := (regAt_step _ _ _ _ _ _ _).trans (by kernel_rfl)
noncomputable def packet_Read_sig : Sig := { pm := [(false, [(false, .slice (.int .u8))])], rm := [(true, [(false, .int .i64), (false, .int .i64), (false, .slice (.pair (.int .i64) (.pair (.int .i64) (.pair (.int .i64) (.pair (.int .i64) (.pair (.int .i64) (.pair (.int .i64) (.pair (.int .i64) (.pair (.int .i64) (.pair (.bool) (.pair (.slice (.pair (.int .i64) (.slice (.int .u8)))) (.slice (.int .u8)))))))))))))]), (false, [(false, .int .i64)])], f := fun | [⟨.slice (.int .u8), x0⟩] => .yes _ (packet_Read x0) packet_Read_mk | _ => .no }
theorem packet_Read_ok : SigOk Try.prog 15 packet_Read_sig := by
  refine contract_of (C := packet_Read_C) (d := 3) ⟨S18_ok, P22_ok⟩ (callable_ex (by kernel_rfl)) ?_
  intro dvs
  unfold packet_Read_sig
  dsimp only
  split
  · refine .inr ⟨_, packet_Read_un, packet_Read_mk, congrArg (fun o => Cl.yes _ o _) (packet_Read_raw _), ?_⟩
    intro ds x h
    unfold packet_Read_un at h
    split at h
    · cases h; rfl
    · cases h
  · exact .inl rfl
noncomputable def S23 : List (Nat × Sig) := (15, packet_Read_sig) :: S18
theorem S23_ok : ListOk Try.prog S23 := ListOk.cons S18_ok packet_Read_ok
noncomputable def packet_Together_C : Cfg := { P := Try.prog, sig := lookSig S23, hb := fun f b =>  bif Nat.beq f 18 && Nat.beq b 0 then some { tmps := [0, 1, 5, 6], obs := [61], nils := [(5, 61, (.pair (.int .i64) (.pair (.int .i64) (.slice (.pair (.int .i64) (.pair (.int .i64) (.pair (.int .i64) (.pair (.int .i64) (.pair (.int .i64) (.pair (.int .i64) (.pair (.int .i64) (.pair (.int .i64) (.pair (.bool) (.pair (.slice (.pair (.int .i64) (.slice (.int .u8)))) (.slice (.int .u8))))))))))))))))], kl := [156, 516, 508, 436, 428, 172, 61, 60, 62, 62] } else bif Nat.beq f 18 && Nat.beq b 2 then some { tmps := [0, 1, 5, 6, 7, 17, 18, 19], obs := [156, 60, 62], nils := [(5, 62, (.pair (.int .i64) (.pair (.int .i64) (.slice (.pair (.int .i64) (.pair (.int .i64) (.pair (.int .i64) (.pair (.int .i64) (.pair (.int .i64) (.pair (.int .i64) (.pair (.int .i64) (.pair (.int .i64) (.pair (.bool) (.pair (.slice (.pair (.int .i64) (.slice (.int .u8)))) (.slice (.int .u8))))))))))))))))], kl := [156, 436, 428, 172, 60, 516, 508, 61, 62, 61], cn := [(156, 2, 60, (.pair (.int .i64) (.pair (.int .i64) (.pair (.int .i64) (.pair (.int .i64) (.pair (.int .i64) (.pair (.int .i64) (.pair (.int .i64) (.pair (.int .i64) (.pair (.bool) (.pair (.slice (.pair (.int .i64) (.slice (.int .u8)))) (.slice (.int .u8)))))))))))))] } else none, hr := fun _ _ => none, ps := lookSig P22 }
noncomputable def packet_Together_un : List DV → Option ((List (Int × Int × (List (Int × Int × Int × Int × Int × Int × Int × Int × Bool × (List (Int × (List Int))) × (List Int)))))) := fun | [⟨.slice (.pair (.int .i64) (.pair (.int .i64) (.slice (.pair (.int .i64) (.pair (.int .i64) (.pair (.int .i64) (.pair (.int .i64) (.pair (.int .i64) (.pair (.int .i64) (.pair (.int .i64) (.pair (.int .i64) (.pair (.bool) (.pair (.slice (.pair (.int .i64) (.slice (.int .u8)))) (.slice (.int .u8))))))))))))))), r0⟩] => some r0 | _ => none
noncomputable def packet_Together_mk : (List (Int × Int × (List (Int × Int × Int × Int × Int × Int × Int × Int × Bool × (List (Int × (List Int))) × (List Int))))) → List DV := fun r0 => [⟨.slice (.pair (.int .i64) (.pair (.int .i64) (.slice (.pair (.int .i64) (.pair (.int .i64) (.pair (.int .i64) (.pair (.int .i64) (.pair (.int .i64) (.pair (.int .i64) (.pair (.int .i64) (.pair (.int .i64) (.pair (.bool) (.pair (.slice (.pair (.int .i64) (.slice (.int .u8)))) (.slice (.int .u8))))))))))))))), r0⟩]
theorem packet_Together_ex : ∃ f : (Int) → (List (Int × Int × Int × Int × Int × Int × Int × Int × Bool × (List (Int × (List Int))) × (List Int))) → Option ((List (Int × Int × (List (Int × Int × Int × Int × Int × Int × Int × Int × Bool × (List (Int × (List Int))) × (List Int)))))), f = fun (x0 : Int) (x1 : List (Int × Int × Int × Int × Int × Int × Int × Int × Bool × (List (Int × (List Int))) × (List Int))) => funRun packet_Together_C 3 18 [(false, [(false, .int .i64)]), (false, [(false, .slice (.pair (.int .i64) (.pair (.int .i64) (.pair (.int .i64) (.pair (.int .i64) (.pair (.int .i64) (.pair (.int .i64) (.pair (.int .i64) (.pair (.int .i64) (.pair (.bool) (.pair (.slice (.pair (.int .i64) (.slice (.int .u8)))) (.slice (.int .u8)))))))))))))])] [(false, [(false, .slice (.pair (.int .i64) (.pair (.int .i64) (.slice (.pair (.int .i64) (.pair (.int .i64) (.pair (.int .i64) (.pair (.int .i64) (.pair (.int .i64) (.pair (.int .i64) (.pair (.int .i64) (.pair (.int .i64) (.pair (.bool) (.pair (.slice (.pair (.int .i64) (.slice (.int .u8)))) (.slice (.int .u8))))))))))))))))])] packet_Together_un [⟨.int .i64, x0⟩, ⟨.slice (.pair (.int .i64) (.pair (.int .i64) (.pair (.int .i64) (.pair (.int .i64) (.pair (.int .i64) (.pair (.int .i64) (.pair (.int .i64) (.pair (.int .i64) (.pair (.bool) (.pair (.slice (.pair (.int .i64) (.slice (.int .u8)))) (.slice (.int .u8)))))))))))), x1⟩] := ⟨_, rfl⟩
noncomputable def packet_Together : (Int) → (List (Int × Int × Int × Int × Int × Int × Int × Int × Bool × (List (Int × (List Int))) × (List Int))) → Option ((List (Int × Int × (List (Int × Int × Int × Int × Int × Int × Int × Int × Bool × (List (Int × (List Int))) × (List Int)))))) := packet_Together_ex.choose
theorem packet_Together_raw (x0 : Int) (x1 : List (Int × Int × Int × Int × Int × Int × Int × Int × Bool × (List (Int × (List Int))) × (List Int))) : packet_Together x0 x1 = funRun packet_Together_C 3 18 [(false, [(false, .int .i64)]), (false, [(false, .slice (.pair (.int .i64) (.pair (.int .i64) (.pair (.int .i64) (.pair (.int .i64) (.pair (.int .i64) (.pair (.int .i64) (.pair (.int .i64) (.pair (.int .i64) (.pair (.bool) (.pair (.slice (.pair (.int .i64) (.slice (.int .u8)))) (.slice (.int .u8)))))))))))))])] [(false, [(false, .slice (.pair (.int .i64) (.pair (.int .i64) (.slice (.pair (.int .i64) (.pair (.int .i64) (.pair (.int .i64) (.pair (.int .i64) (.pair (.int .i64) (.pair (.int .i64) (.pair (.int .i64) (.pair (.int .i64) (.pair (.bool) (.pair (.slice (.pair (.int .i64) (.slice (.int .u8)))) (.slice (.int .u8))))))))))))))))])] packet_Together_un [⟨.int .i64, x0⟩, ⟨.slice (.pair (.int .i64) (.pair (.int .i64) (.pair (.int .i64) (.pair (.int .i64) (.pair (.int .i64) (.pair (.int .i64) (.pair (.int .i64) (.pair (.int .i64) (.pair (.bool) (.pair (.slice (.pair (.int .i64) (.slice (.int .u8)))) (.slice (.int .u8)))))))))))), x1⟩] := congrFun (congrFun (packet_Together_ex.choose_spec) x0) x1
noncomputable def packet_Together_l0 (y0 : Int) (y1 : List ((Int) × ((Int) × ((Int) × ((Int) × ((Int) × ((Int) × ((Int) × ((Int) × ((Bool) × ((List ((Int) × (List (Int)))) × (List (Int))))))))))))) (y2 : Int) (y3 : List ((Int) × ((Int) × (List ((Int) × ((Int) × ((Int) × ((Int) × ((Int) × ((Int) × ((Int) × ((Int) × ((Bool) × ((List ((Int) × (List (Int)))) × (List (Int)))))))))))))))) : Option ((List (Int × Int × (List (Int × Int × Int × Int × Int × Int × Int × Int × Bool × (List (Int × (List Int))) × (List Int)))))) := loopAt packet_Together_C 3 18 [(false, [(false, .slice (.pair (.int .i64) (.pair (.int .i64) (.slice (.pair (.int .i64) (.pair (.int .i64) (.pair (.int .i64) (.pair (.int .i64) (.pair (.int .i64) (.pair (.int .i64) (.pair (.int .i64) (.pair (.int .i64) (.pair (.bool) (.pair (.slice (.pair (.int .i64) (.slice (.int .u8)))) (.slice (.int .u8))))))))))))))))])] packet_Together_un [true, true, false, true, false] (St.ofLists [(0, .int .i64 y0), (1, .fz ((Ty.int IntKind.i64).pair ((Ty.int IntKind.i64).pair ((Ty.int IntKind.i64).pair ((Ty.int IntKind.i64).pair ((Ty.int IntKind.i64).pair ((Ty.int IntKind.i64).pair ((Ty.int IntKind.i64).pair ((Ty.int IntKind.i64).pair (Ty.bool.pair (((Ty.int IntKind.i64).pair (Ty.int IntKind.u8).slice).slice.pair (Ty.int IntKind.u8).slice)))))))))) y1 false false), (5, .ow 61), (6, .int .i64 y2)] [(61, some (.row ((Ty.int IntKind.i64).pair ((Ty.int IntKind.i64).pair ((Ty.int IntKind.i64).pair ((Ty.int IntKind.i64).pair ((Ty.int IntKind.i64).pair ((Ty.int IntKind.i64).pair ((Ty.int IntKind.i64).pair ((Ty.int IntKind.i64).pair ((Ty.int IntKind.i64).pair ((Ty.int IntKind.i64).pair (Ty.bool.pair (((Ty.int IntKind.i64).pair (Ty.int IntKind.u8).slice).slice.pair (Ty.int IntKind.u8).slice)))))))))).slice)) y3 0 false))] [156, 516, 508, 436, 428, 172, 61, 60, 62, 62])
noncomputable def packet_Together_l2 (y0 : Int) (y1 : List ((Int) × ((Int) × ((Int) × ((Int) × ((Int) × ((Int) × ((Int) × ((Int) × ((Bool) × ((List ((Int) × (List (Int)))) × (List (Int))))))))))))) (y2 : Int) (y3 : List ((Int) × ((Int) × ((Int) × ((Int) × ((Int) × ((Int) × ((Int) × ((Int) × ((Bool) × ((List ((Int) × (List (Int)))) × (List (Int))))))))))))) (y4 : Int) (y5 : Int) (y6 : Int) (y7 : Int) (y8 : List ((Int) × ((Int) × ((Int) × ((Int) × ((Int) × ((Int) × ((Int) × ((Int) × ((Bool) × ((List ((Int) × (List (Int)))) × (List (Int))))))))))))) (y9 : List ((Int) × ((Int) × (List ((Int) × ((Int) × ((Int) × ((Int) × ((Int) × ((Int) × ((Int) × ((Int) × ((Bool) × ((List ((Int) × (List (Int)))) × (List (Int)))))))))))))))) : Option ((List (Int × Int × (List (Int × Int × Int × Int × Int × Int × Int × Int × Bool × (List (Int × (List Int))) × (List Int)))))) := loopAt packet_Together_C 3 18 [(false, [(false, .slice (.pair (.int .i64) (.pair (.int .i64) (.slice (.pair (.int .i64) (.pair (.int .i64) (.pair (.int .i64) (.pair (.int .i64) (.pair (.int .i64) (.pair (.int .i64) (.pair (.int .i64) (.pair (.int .i64) (.pair (.bool) (.pair (.slice (.pair (.int .i64) (.slice (.int .u8)))) (.slice (.int .u8))))))))))))))))])] packet_Together_un [true, true, false, true, false, false, true, false, false, true, false, true, false] (St.ofLists [(0, .int .i64 y0), (1, .fz ((Ty.int IntKind.i64).pair ((Ty.int IntKind.i64).pair ((Ty.int IntKind.i64).pair ((Ty.int IntKind.i64).pair ((Ty.int IntKind.i64).pair ((Ty.int IntKind.i64).pair ((Ty.int IntKind.i64).pair ((Ty.int IntKind.i64).pair (Ty.bool.pair (((Ty.int IntKind.i64).pair (Ty.int IntKind.u8).slice).slice.pair (Ty.int IntKind.u8).slice)))))))))) y1 false false), (5, .ow 62), (6, .int .i64 y2), (7, .ptr 156 0), (17, .fz ((Ty.int IntKind.i64).pair ((Ty.int IntKind.i64).pair ((Ty.int IntKind.i64).pair ((Ty.int IntKind.i64).pair ((Ty.int IntKind.i64).pair ((Ty.int IntKind.i64).pair ((Ty.int IntKind.i64).pair ((Ty.int IntKind.i64).pair (Ty.bool.pair (((Ty.int IntKind.i64).pair (Ty.int IntKind.u8).slice).slice.pair (Ty.int IntKind.u8).slice)))))))))) y3 false false), (18, .int .i64 y4), (19, .int .i64 y5)] [(156, some (.cells [.int .i64 y6, .int .i64 y7, .ow 60])), (60, some (.row ((Ty.int IntKind.i64).pair ((Ty.int IntKind.i64).pair ((Ty.int IntKind.i64).pair ((Ty.int IntKind.i64).pair ((Ty.int IntKind.i64).pair ((Ty.int IntKind.i64).pair ((Ty.int IntKind.i64).pair ((Ty.int IntKind.i64).pair (Ty.bool.pair (((Ty.int IntKind.i64).pair (Ty.int IntKind.u8).slice).slice.pair (Ty.int IntKind.u8).slice)))))))))) y8 0 false)), (62, some (.row ((Ty.int IntKind.i64).pair ((Ty.int IntKind.i64).pair ((Ty.int IntKind.i64).pair ((Ty.int IntKind.i64).pair ((Ty.int IntKind.i64).pair ((Ty.int IntKind.i64).pair ((Ty.int IntKind.i64).pair ((Ty.int IntKind.i64).pair ((Ty.int IntKind.i64).pair ((Ty.int IntKind.i64).pair (Ty.bool.pair (((Ty.int IntKind.i64).pair (Ty.int IntKind.u8).slice).slice.pair (Ty.int IntKind.u8).slice)))))))))).slice)) y9 0 false))] [156, 436, 428, 172, 60, 516, 508, 61, 62, 61])
theorem packet_Together_eq (x0 : Int) (x1 : List (Int × Int × Int × Int × Int × Int × Int × Int × Bool × (List (Int × (List Int))) × (List Int))) : packet_Together x0 x1 =
  packet_Together_l0 (x0) (x1) (1) ([]) := (packet_Together_raw x0 x1).trans (by kernel_rfl)
theorem packet_Together_l0_eq (y0 : Int) (y1 : List ((Int) × ((Int) × ((Int) × ((Int) × ((Int) × ((Int) × ((Int) × ((Int) × ((Bool) × ((List ((Int) × (List (Int)))) × (List (Int))))))))))))) (y2 : Int) (y3 : List ((Int) × ((Int) × (List ((Int) × ((Int) × ((Int) × ((Int) × ((Int) × ((Int) × ((Int) × ((Int) × ((Bool) × ((List ((Int) × (List (Int)))) × (List (Int)))))))))))))))) : packet_Together_l0 y0 y1 y2 y3 =
  bif decide (y2 ≤ 7)
  then packet_Together_l2 (y0) (y1) (y2) (y1) (ilen y1) (0) (y0) (y2) ([]) (y3)
  else some (y3) := (loopAt_step _ _ _ _ _ _ _).trans (by kernel_rfl)
theorem packet_Together_l2_eq (y0 : Int) (y1 : List ((Int) × ((Int) × ((Int) × ((Int) × ((Int) × ((Int) × ((Int) × ((Int) × ((Bool) × ((List ((Int) × (List (Int)))) × (List (Int))))))))))))) (y2 : Int) (y3 : List ((Int) × ((Int) × ((Int) × ((Int) × ((Int) × ((Int) × ((Int) × ((Int) × ((Bool) × ((List ((Int) × (List (Int)))) × (List (Int))))))))))))) (y4 : Int) (y5 : Int) (y6 : Int) (y7 : Int) (y8 : List ((Int) × ((Int) × ((Int) × ((Int) × ((Int) × ((Int) × ((Int) × ((Int) × ((Bool) × ((List ((Int) × (List (Int)))) × (List (Int))))))))))))) (y9 : List ((Int) × ((Int) × (List ((Int) × ((Int) × ((Int) × ((Int) × ((Int) × ((Int) × ((Int) × ((Int) × ((Bool) × ((List ((Int) × (List (Int)))) × (List (Int)))))))))))))))) : packet_Together_l2 y0 y1 y2 y3 y4 y5 y6 y7 y8 y9 =
  bif decide (y5 < y4)
  then bif decide (0 ≤ y5)
    then (y3[y5.toNat]?).bind fun val4 =>
      bif val4.snd.snd.snd.fst == y2
        then bif val4.snd.snd.fst == y0
          then bif y2 != y0
            then bif decide ((ilen y8 + ilen [val4]) * 120 ≤ room)
              then packet_Together_l2 (y0) (y1) (y2) (y3) (y4) (IntKind.i64.wrap (y5 + 1)) (y6) (y7) (y8 ++ [val4]) (y9)
              else none
            else packet_Together_l2 (y0) (y1) (y2) (y3) (y4) (IntKind.i64.wrap (y5 + 1)) (y6) (y7) (y8) (y9)
          else packet_Together_l2 (y0) (y1) (y2) (y3) (y4) (IntKind.i64.wrap (y5 + 1)) (y6) (y7) (y8) (y9)
        else packet_Together_l2 (y0) (y1) (y2) (y3) (y4) (IntKind.i64.wrap (y5 + 1)) (y6) (y7) (y8) (y9)
    else none
  else bif decide (ilen y8 > 0)
    then bif decide ((ilen y9 + ilen [(y6, y7, y8)]) * 40 ≤ room)
      then packet_Together_l0 (y0) (y1) (IntKind.i64.wrap (y2 + 1)) (y9 ++ [(y6, y7, y8)])
      else none
    else packet_Together_l0 (y0) (y1) (IntKind.i64.wrap (y2 + 1)) (y9) := (loopAt_step _ _ _ _ _ _ _).trans (by kernel_rfl)
noncomputable def packet_Together_sig : Sig := { pm := [(false, [(false, .int .i64)]), (false, [(false, .slice (.pair (.int .i64) (.pair (.int .i64) (.pair (.int .i64) (.pair (.int .i64) (.pair (.int .i64) (.pair (.int .i64) (.pair (.int .i64) (.pair (.int .i64) (.pair (.bool) (.pair (.slice (.pair (.int .i64) (.slice (.int .u8)))) (.slice (.int .u8)))))))))))))])], rm := [(false, [(false, .slice (.pair (.int .i64) (.pair (.int .i64) (.slice (.pair (.int .i64) (.pair (.int .i64) (.pair (.int .i64) (.pair (.int .i64) (.pair (.int .i64) (.pair (.int .i64) (.pair (.int .i64) (.pair (.int .i64) (.pair (.bool) (.pair (.slice (.pair (.int .i64) (.slice (.int .u8)))) (.slice (.int .u8))))))))))))))))])], f := fun | [⟨.int .i64, x0⟩, ⟨.slice (.pair (.int .i64) (.pair (.int .i64) (.pair (.int .i64) (.pair (.int .i64) (.pair (.int .i64) (.pair (.int .i64) (.pair (.int .i64) (.pair (.int .i64) (.pair (.bool) (.pair (.slice (.pair (.int .i64) (.slice (.int .u8)))) (.slice (.int .u8)))))))))))), x1⟩] => .yes _ (packet_Together x0 x1) packet_Together_mk | _ => .no }
theorem packet_Together_ok : SigOk Try.prog 18 packet_Together_sig := by
  refine contract_of (C := packet_Together_C) (d := 3) ⟨S23_ok, P22_ok⟩ (callable_ex (by kernel_rfl)) ?_
  intro dvs
  unfold packet_Together_sig
  dsimp only
  split
  · refine .inr ⟨_, packet_Together_un, packet_Together_mk, congrArg (fun o => Cl.yes _ o _) (packet_Together_raw _ _), ?_⟩
    intro ds x h
    unfold packet_Together_un at h
    split at h
    · cases h; rfl
    · cases h
  · exact .inl rfl
noncomputable def S24 : List (Nat × Sig) := (18, packet_Together_sig) :: S23
theorem S24_ok : ListOk Try.prog S24 := ListOk.cons S23_ok packet_Together_ok
noncomputable def ref13_Entries_C : Cfg := { P := Try.prog, sig := lookSig S24, hb := fun f b =>  bif Nat.beq f 52 && Nat.beq b 0 then some { tmps := [0, 1, 5], obs := [], nils := [], kl := [] } else none, hr := fun _ _ => none, ps := lookSig P22 }
noncomputable def ref13_Entries_un : List DV → Option (Bool) := fun | [⟨.bool, r0⟩] => some r0 | _ => none
noncomputable def ref13_Entries_mk : Bool → List DV := fun r0 => [⟨.bool, r0⟩]
theorem ref13_Entries_ex : ∃ f : (List (Int × (List Int))) → (List (Int × (List Int))) → Option (Bool), f = fun (x0 : List (Int × (List Int))) (x1 : List (Int × (List Int))) => funRun ref13_Entries_C 3 52 [(false, [(false, .slice (.pair (.int .i64) (.slice (.int .u8))))]), (false, [(false, .slice (.pair (.int .i64) (.slice (.int .u8))))])] [(false, [(false, .bool)])] ref13_Entries_un [⟨.slice (.pair (.int .i64) (.slice (.int .u8))), x0⟩, ⟨.slice (.pair (.int .i64) (.slice (.int .u8))), x1⟩] := ⟨_, rfl⟩
noncomputable def ref13_Entries : (List (Int × (List Int))) → (List (Int × (List Int))) → Option (Bool) := ref13_Entries_ex.choose
theorem ref13_Entries_raw (x0 : List (Int × (List Int))) (x1 : List (Int × (List Int))) : ref13_Entries x0 x1 = funRun ref13_Entries_C 3 52 [(false, [(false, .slice (.pair (.int .i64) (.slice (.int .u8))))]), (false, [(false, .slice (.pair (.int .i64) (.slice (.int .u8))))])] [(false, [(false, .bool)])] ref13_Entries_un [⟨.slice (.pair (.int .i64) (.slice (.int .u8))), x0⟩, ⟨.slice (.pair (.int .i64) (.slice (.int .u8))), x1⟩] := congrFun (congrFun (ref13_Entries_ex.choose_spec) x0) x1
noncomputable def ref13_Entries_l0 (y0 : List ((Int) × (List (Int)))) (y1 : List ((Int) × (List (Int)))) (y2 : Int) : Option (Bool) := loopAt ref13_Entries_C 3 52 [(false, [(false, .bool)])] ref13_Entries_un [true, true, false, true, false] (St.ofLists [(0, .fz ((Ty.int IntKind.i64).pair (Ty.int IntKind.u8).slice) y0 false false), (1, .fz ((Ty.int IntKind.i64).pair (Ty.int IntKind.u8).slice) y1 false false), (5, .int .i64 y2)] [] [])
theorem ref13_Entries_eq (x0 : List (Int × (List Int))) (x1 : List (Int × (List Int))) : ref13_Entries x0 x1 =
  bif ilen x0 != ilen x1
  then some false
  else ref13_Entries_l0 (x0) (x1) (0) := (ref13_Entries_raw x0 x1).trans (by kernel_rfl)
theorem ref13_Entries_l0_eq (y0 : List ((Int) × (List (Int)))) (y1 : List ((Int) × (List (Int)))) (y2 : Int) : ref13_Entries_l0 y0 y1 y2 =
  bif decide (y2 < ilen y0)
  then bif decide (0 ≤ y2)
    then (y0[y2.toNat]?).bind fun val4 =>
      bif decide (0 ≤ y2)
        then (y1[y2.toNat]?).bind fun val8 =>
          bif val4.fst != val8.fst
            then some false
            else bif decide (0 ≤ y2)
              then (y0[y2.toNat]?).bind fun val14 =>
                bif decide (0 ≤ y2)
                  then (y1[y2.toNat]?).bind fun val18 =>
                    bif !(strOf val14.snd).toList == (strOf val18.snd).toList
                      then some false
                      else ref13_Entries_l0 (y0) (y1) (IntKind.i64.wrap (y2 + 1))
                  else none
              else none
        else none
    else none
  else some true := (loopAt_step _ _ _ _ _ _ _).trans (by kernel_rfl)
noncomputable def ref13_Entries_sig : Sig := { pm := [(false, [(false, .slice (.pair (.int .i64) (.slice (.int .u8))))]), (false, [(false, .slice (.pair (.int .i64) (.slice (.int .u8))))])], rm := [(false, [(false, .bool)])], f := fun | [⟨.slice (.pair (.int .i64) (.slice (.int .u8))), x0⟩, ⟨.slice (.pair (.int .i64) (.slice (.int .u8))), x1⟩] => .yes _ (ref13_Entries x0 x1) ref13_Entries_mk | _ => .no }
theorem ref13_Entries_ok : SigOk Try.prog 52 ref13_Entries_sig := by
  refine contract_of (C := ref13_Entries_C) (d := 3) ⟨S24_ok, P22_ok⟩ (callable_ex (by kernel_rfl)) ?_
  intro dvs
  unfold ref13_Entries_sig
  dsimp only
  split
  · refine .inr ⟨_, ref13_Entries_un, ref13_Entries_mk, congrArg (fun o => Cl.yes _ o _) (ref13_Entries_raw _ _), ?_⟩
    intro ds x h
    unfold ref13_Entries_un at h
    split at h
    · cases h; rfl
    · cases h
  · exact .inl rfl
noncomputable def S25 : List (Nat × Sig) := (52, ref13_Entries_sig) :: S24
theorem S25_ok : ListOk Try.prog S25 := ListOk.cons S24_ok ref13_Entries_ok
noncomputable def ref15_SameMsg_C : Cfg := { P := Try.prog, sig := lookSig S25, hb := fun _ _ => none, hr := fun _ _ => none, ps := lookSig P22 }
noncomputable def ref15_SameMsg_un : List DV → Option (Bool) := fun | [⟨.bool, r0⟩] => some r0 | _ => none
noncomputable def ref15_SameMsg_mk : Bool → List DV := fun r0 => [⟨.bool, r0⟩]
theorem ref15_SameMsg_ex : ∃ f : (Int) → (Int) → (Int) → (Int) → (Int) → (Int) → (Int) → (Int) → (Bool) → (List (Int × (List Int))) → (List Int) → (Int) → (Int) → (Int) → (Int) → (Int) → (Int) → (Int) → (Int) → (Bool) → (List (Int × (List Int))) → (List Int) → Option (Bool), f = fun (x0 : Int) (x1 : Int) (x2 : Int) (x3 : Int) (x4 : Int) (x5 : Int) (x6 : Int) (x7 : Int) (x8 : Bool) (x9 : List (Int × (List Int))) (x10 : List Int) (x11 : Int) (x12 : Int) (x13 : Int) (x14 : Int) (x15 : Int) (x16 : Int) (x17 : Int) (x18 : Int) (x19 : Bool) (x20 : List (Int × (List Int))) (x21 : List Int) => funRun ref15_SameMsg_C 3 47 [(true, [(false, .int .i64), (false, .int .i64), (false, .int .i64), (false, .int .i64), (false, .int .i64), (false, .int .i64), (false, .int .i64), (false, .int .i64), (false, .bool), (false, .slice (.pair (.int .i64) (.slice (.int .u8)))), (false, .slice (.int .u8))]), (true, [(false, .int .i64), (false, .int .i64), (false, .int .i64), (false, .int .i64), (false, .int .i64), (false, .int .i64), (false, .int .i64), (false, .int .i64), (false, .bool), (false, .slice (.pair (.int .i64) (.slice (.int .u8)))), (false, .slice (.int .u8))])] [(false, [(false, .bool)])] ref15_SameMsg_un [⟨.int .i64, x0⟩, ⟨.int .i64, x1⟩, ⟨.int .i64, x2⟩, ⟨.int .i64, x3⟩, ⟨.int .i64, x4⟩, ⟨.int .i64, x5⟩, ⟨.int .i64, x6⟩, ⟨.int .i64, x7⟩, ⟨.bool, x8⟩, ⟨.slice (.pair (.int .i64) (.slice (.int .u8))), x9⟩, ⟨.slice (.int .u8), x10⟩, ⟨.int .i64, x11⟩, ⟨.int .i64, x12⟩, ⟨.int .i64, x13⟩, ⟨.int .i64, x14⟩, ⟨.int .i64, x15⟩, ⟨.int .i64, x16⟩, ⟨.int .i64, x17⟩, ⟨.int .i64, x18⟩, ⟨.bool, x19⟩, ⟨.slice (.pair (.int .i64) (.slice (.int .u8))), x20⟩, ⟨.slice (.int .u8), x21⟩] := ⟨_, rfl⟩
noncomputable def ref15_SameMsg : (Int) → (Int) → (Int) → (Int) → (Int) → (Int) → (Int) → (Int) → (Bool) → (List (Int × (List Int))) → (List Int) → (Int) → (Int) → (Int) → (Int) → (Int) → (Int) → (Int) → (Int) → (Bool) → (List (Int × (List Int))) → (List Int) → Option (Bool) := ref15_SameMsg_ex.choose
theorem ref15_SameMsg_raw (x0 : Int) (x1 : Int) (x2 : Int) (x3 : Int) (x4 : Int) (x5 : Int) (x6 : Int) (x7 : Int) (x8 : Bool) (x9 : List (Int × (List Int))) (x10 : List Int) (x11 : Int) (x12 : Int) (x13 : Int) (x14 : Int) (x15 : Int) (x16 : Int) (x17 : Int) (x18 : Int) (x19 : Bool) (x20 : List (Int × (List Int))) (x21 : List Int) : ref15_SameMsg x0 x1 x2 x3 x4 x5 x6 x7 x8 x9 x10 x11 x12 x13 x14 x15 x16 x17 x18 x19 x20 x21 = funRun ref15_SameMsg_C 3 47 [(true, [(false, .int .i64), (false, .int .i64), (false, .int .i64), (false, .int .i64), (false, .int .i64), (false, .int .i64), (false, .int .i64), (false, .int .i64), (false, .bool), (false, .slice (.pair (.int .i64) (.slice (.int .u8)))), (false, .slice (.int .u8))]), (true, [(false, .int .i64), (false, .int .i64), (false, .int .i64), (false, .int .i64), (false, .int .i64), (false, .int .i64), (false, .int .i64), (false, .int .i64), (false, .bool), (false, .slice (.pair (.int .i64) (.slice (.int .u8)))), (false, .slice (.int .u8))])] [(false, [(false, .bool)])] ref15_SameMsg_un [⟨.int .i64, x0⟩, ⟨.int .i64, x1⟩, ⟨.int .i64, x2⟩, ⟨.int .i64, x3⟩, ⟨.int .i64, x4⟩, ⟨.int .i64, x5⟩, ⟨.int .i64, x6⟩, ⟨.int .i64, x7⟩, ⟨.bool, x8⟩, ⟨.slice (.pair (.int .i64) (.slice (.int .u8))), x9⟩, ⟨.slice (.int .u8), x10⟩, ⟨.int .i64, x11⟩, ⟨.int .i64, x12⟩, ⟨.int .i64, x13⟩, ⟨.int .i64, x14⟩, ⟨.int .i64, x15⟩, ⟨.int .i64, x16⟩, ⟨.int .i64, x17⟩, ⟨.int .i64, x18⟩, ⟨.bool, x19⟩, ⟨.slice (.pair (.int .i64) (.slice (.int .u8))), x20⟩, ⟨.slice (.int .u8), x21⟩] := congrFun (congrFun (congrFun (congrFun (congrFun (congrFun (congrFun (congrFun (congrFun (congrFun (congrFun (congrFun (congrFun (congrFun (congrFun (congrFun (congrFun (congrFun (congrFun (congrFun (congrFun (congrFun (ref15_SameMsg_ex.choose_spec) x0) x1) x2) x3) x4) x5) x6) x7) x8) x9) x10) x11) x12) x13) x14) x15) x16) x17) x18) x19) x20) x21
theorem ref15_SameMsg_eq (x0 : Int) (x1 : Int) (x2 : Int) (x3 : Int) (x4 : Int) (x5 : Int) (x6 : Int) (x7 : Int) (x8 : Bool) (x9 : List (Int × (List Int))) (x10 : List Int) (x11 : Int) (x12 : Int) (x13 : Int) (x14 : Int) (x15 : Int) (x16 : Int) (x17 : Int) (x18 : Int) (x19 : Bool) (x20 : List (Int × (List Int))) (x21 : List Int) : ref15_SameMsg x0 x1 x2 x3 x4 x5 x6 x7 x8 x9 x10 x11 x12 x13 x14 x15 x16 x17 x18 x19 x20 x21 =
  bif x0 != x11
  then some false
  else bif x1 != x12
    then some false
    else bif x2 != x13
      then some false
      else bif x3 != x14
        then some false
        else bif x4 != x15
          then some false
          else bif x5 != x16
            then some false
            else bif x6 != x17
              then some false
              else bif x7 != x18
                then some false
                else bif !x8 == x19
                  then some false
                  else (ref13_Entries x9 x20).bind fun val18 =>
                    bif val18
                      then some ((strOf x10).toList == (strOf x21).toList)
                      else some false := (ref15_SameMsg_raw x0 x1 x2 x3 x4 x5 x6 x7 x8 x9 x10 x11 x12 x13 x14 x15 x16 x17 x18 x19 x20 x21).trans (by kernel_rfl)
noncomputable def ref15_SameMsg_sig : Sig := { pm := [(true, [(false, .int .i64), (false, .int .i64), (false, .int .i64), (false, .int .i64), (false, .int .i64), (false, .int .i64), (false, .int .i64), (false, .int .i64), (false, .bool), (false, .slice (.pair (.int .i64) (.slice (.int .u8)))), (false, .slice (.int .u8))]), (true, [(false, .int .i64), (false, .int .i64), (false, .int .i64), (false, .int .i64), (false, .int .i64), (false, .int .i64), (false, .int .i64), (false, .int .i64), (false, .bool), (false, .slice (.pair (.int .i64) (.slice (.int .u8)))), (false, .slice (.int .u8))])], rm := [(false, [(false, .bool)])], f := fun | [⟨.int .i64, x0⟩, ⟨.int .i64, x1⟩, ⟨.int .i64, x2⟩, ⟨.int .i64, x3⟩, ⟨.int .i64, x4⟩, ⟨.int .i64, x5⟩, ⟨.int .i64, x6⟩, ⟨.int .i64, x7⟩, ⟨.bool, x8⟩, ⟨.slice (.pair (.int .i64) (.slice (.int .u8))), x9⟩, ⟨.slice (.int .u8), x10⟩, ⟨.int .i64, x11⟩, ⟨.int .i64, x12⟩, ⟨.int .i64, x13⟩, ⟨.int .i64, x14⟩, ⟨.int .i64, x15⟩, ⟨.int .i64, x16⟩, ⟨.int .i64, x17⟩, ⟨.int .i64, x18⟩, ⟨.bool, x19⟩, ⟨.slice (.pair (.int .i64) (.slice (.int .u8))), x20⟩, ⟨.slice (.int .u8), x21⟩] => .yes _ (ref15_SameMsg x0 x1 x2 x3 x4 x5 x6 x7 x8 x9 x10 x11 x12 x13 x14 x15 x16 x17 x18 x19 x20 x21) ref15_SameMsg_mk | _ => .no }
theorem ref15_SameMsg_ok : SigOk Try.prog 47 ref15_SameMsg_sig := by
  refine contract_of (C := ref15_SameMsg_C) (d := 3) ⟨S25_ok, P22_ok⟩ (callable_ex (by kernel_rfl)) ?_
  intro dvs
  unfold ref15_SameMsg_sig
  dsimp only
  split
  · refine .inr ⟨_, ref15_SameMsg_un, ref15_SameMsg_mk, congrArg (fun o => Cl.yes _ o _) (ref15_SameMsg_raw _ _ _ _ _ _ _ _ _ _ _ _ _ _ _ _ _ _ _ _ _ _), ?_⟩
    intro ds x h
    unfold ref15_SameMsg_un at h
    split at h
    · cases h; rfl
    · cases h
  · exact .inl rfl
noncomputable def S26 : List (Nat × Sig) := (47, ref15_SameMsg_sig) :: S25
theorem S26_ok : ListOk Try.prog S26 := ListOk.cons S25_ok ref15_SameMsg_ok
noncomputable def ref15_SameMsgs_C : Cfg := { P := Try.prog, sig := lookSig S26, hb := fun f b =>  bif Nat.beq f 36 && Nat.beq b 0 then some { tmps := [0, 1, 5], obs := [], nils := [], kl := [] } else none, hr := fun _ _ => none, ps := lookSig P22 }
noncomputable def ref15_SameMsgs_un : List DV → Option (Bool) := fun | [⟨.bool, r0⟩] => some r0 | _ => none
noncomputable def ref15_SameMsgs_mk : Bool → List DV := fun r0 => [⟨.bool, r0⟩]
theorem ref15_SameMsgs_ex : ∃ f : (List (Int × Int × Int × Int × Int × Int × Int × Int × Bool × (List (Int × (List Int))) × (List Int))) → (List (Int × Int × Int × Int × Int × Int × Int × Int × Bool × (List (Int × (List Int))) × (List Int))) → Option (Bool), f = fun (x0 : List (Int × Int × Int × Int × Int × Int × Int × Int × Bool × (List (Int × (List Int))) × (List Int))) (x1 : List (Int × Int × Int × Int × Int × Int × Int × Int × Bool × (List (Int × (List Int))) × (List Int))) => funRun ref15_SameMsgs_C 3 36 [(false, [(false, .slice (.pair (.int .i64) (.pair (.int .i64) (.pair (.int .i64) (.pair (.int .i64) (.pair (.int .i64) (.pair (.int .i64) (.pair (.int .i64) (.pair (.int .i64) (.pair (.bool) (.pair (.slice (.pair (.int .i64) (.slice (.int .u8)))) (.slice (.int .u8)))))))))))))]), (false, [(false, .slice (.pair (.int .i64) (.pair (.int .i64) (.pair (.int .i64) (.pair (.int .i64) (.pair (.int .i64) (.pair (.int .i64) (.pair (.int .i64) (.pair (.int .i64) (.pair (.bool) (.pair (.slice (.pair (.int .i64) (.slice (.int .u8)))) (.slice (.int .u8)))))))))))))])] [(false, [(false, .bool)])] ref15_SameMsgs_un [⟨.slice (.pair (.int .i64) (.pair (.int .i64) (.pair (.int .i64) (.pair (.int .i64) (.pair (.int .i64) (.pair (.int .i64) (.pair (.int .i64) (.pair (.int .i64) (.pair (.bool) (.pair (.slice (.pair (.int .i64) (.slice (.int .u8)))) (.slice (.int .u8)))))))))))), x0⟩, ⟨.slice (.pair (.int .i64) (.pair (.int .i64) (.pair (.int .i64) (.pair (.int .i64) (.pair (.int .i64) (.pair (.int .i64) (.pair (.int .i64) (.pair (.int .i64) (.pair (.bool) (.pair (.slice (.pair (.int .i64) (.slice (.int .u8)))) (.slice (.int .u8)))))))))))), x1⟩] := ⟨_, rfl⟩
noncomputable def ref15_SameMsgs : (List (Int × Int × Int × Int × Int × Int × Int × Int × Bool × (List (Int × (List Int))) × (List Int))) → (List (Int × Int × Int × Int × Int × Int × Int × Int × Bool × (List (Int × (List Int))) × (List Int))) → Option (Bool) := ref15_SameMsgs_ex.choose
theorem ref15_SameMsgs_raw (x0 : List (Int × Int × Int × Int × Int × Int × Int × Int × Bool × (List (Int × (List Int))) × (List Int))) (x1 : List (Int × Int × Int × Int × Int × Int × Int × Int × Bool × (List (Int × (List Int))) × (List Int))) : ref15_SameMsgs x0 x1 = funRun ref15_SameMsgs_C 3 36 [(false, [(false, .slice (.pair (.int .i64) (.pair (.int .i64) (.pair (.int .i64) (.pair (.int .i64) (.pair (.int .i64) (.pair (.int .i64) (.pair (.int .i64) (.pair (.int .i64) (.pair (.bool) (.pair (.slice (.pair (.int .i64) (.slice (.int .u8)))) (.slice (.int .u8)))))))))))))]), (false, [(false, .slice (.pair (.int .i64) (.pair (.int .i64) (.pair (.int .i64) (.pair (.int .i64) (.pair (.int .i64) (.pair (.int .i64) (.pair (.int .i64) (.pair (.int .i64) (.pair (.bool) (.pair (.slice (.pair (.int .i64) (.slice (.int .u8)))) (.slice (.int .u8)))))))))))))])] [(false, [(false, .bool)])] ref15_SameMsgs_un [⟨.slice (.pair (.int .i64) (.pair (.int .i64) (.pair (.int .i64) (.pair (.int .i64) (.pair (.int .i64) (.pair (.int .i64) (.pair (.int .i64) (.pair (.int .i64) (.pair (.bool) (.pair (.slice (.pair (.int .i64) (.slice (.int .u8)))) (.slice (.int .u8)))))))))))), x0⟩, ⟨.slice (.pair (.int .i64) (.pair (.int .i64) (.pair (.int .i64) (.pair (.int .i64) (.pair (.int .i64) (.pair (.int .i64) (.pair (.int .i64) (.pair (.int .i64) (.pair (.bool) (.pair (.slice (.pair (.int .i64) (.slice (.int .u8)))) (.slice (.int .u8)))))))))))), x1⟩] := congrFun (congrFun (ref15_SameMsgs_ex.choose_spec) x0) x1
noncomputable def ref15_SameMsgs_l0 (y0 : List ((Int) × ((Int) × ((Int) × ((Int) × ((Int) × ((Int) × ((Int) × ((Int) × ((Bool) × ((List ((Int) × (List (Int)))) × (List (Int))))))))))))) (y1 : List ((Int) × ((Int) × ((Int) × ((Int) × ((Int) × ((Int) × ((Int) × ((Int) × ((Bool) × ((List ((Int) × (List (Int)))) × (List (Int))))))))))))) (y2 : Int) : Option (Bool) := loopAt ref15_SameMsgs_C 3 36 [(false, [(false, .bool)])] ref15_SameMsgs_un [true, true, false, true, false] (St.ofLists [(0, .fz ((Ty.int IntKind.i64).pair ((Ty.int IntKind.i64).pair ((Ty.int IntKind.i64).pair ((Ty.int IntKind.i64).pair ((Ty.int IntKind.i64).pair ((Ty.int IntKind.i64).pair ((Ty.int IntKind.i64).pair ((Ty.int IntKind.i64).pair (Ty.bool.pair (((Ty.int IntKind.i64).pair (Ty.int IntKind.u8).slice).slice.pair (Ty.int IntKind.u8).slice)))))))))) y0 false false), (1, .fz ((Ty.int IntKind.i64).pair ((Ty.int IntKind.i64).pair ((Ty.int IntKind.i64).pair ((Ty.int IntKind.i64).pair ((Ty.int IntKind.i64).pair ((Ty.int IntKind.i64).pair ((Ty.int IntKind.i64).pair ((Ty.int IntKind.i64).pair (Ty.bool.pair (((Ty.int IntKind.i64).pair (Ty.int IntKind.u8).slice).slice.pair (Ty.int IntKind.u8).slice)))))))))) y1 false false), (5, .int .i64 y2)] [] [])
theorem ref15_SameMsgs_eq (x0 : List (Int × Int × Int × Int × Int × Int × Int × Int × Bool × (List (Int × (List Int))) × (List Int))) (x1 : List (Int × Int × Int × Int × Int × Int × Int × Int × Bool × (List (Int × (List Int))) × (List Int))) : ref15_SameMsgs x0 x1 =
  bif ilen x0 != ilen x1
  then some false
  else ref15_SameMsgs_l0 (x0) (x1) (0) := (ref15_SameMsgs_raw x0 x1).trans (by kernel_rfl)
theorem ref15_SameMsgs_l0_eq (y0 : List ((Int) × ((Int) × ((Int) × ((Int) × ((Int) × ((Int) × ((Int) × ((Int) × ((Bool) × ((List ((Int) × (List (Int)))) × (List (Int))))))))))))) (y1 : List ((Int) × ((Int) × ((Int) × ((Int) × ((Int) × ((Int) × ((Int) × ((Int) × ((Bool) × ((List ((Int) × (List (Int)))) × (List (Int))))))))))))) (y2 : Int) : ref15_SameMsgs_l0 y0 y1 y2 =
  bif decide (y2 < ilen y0)
  then bif decide (0 ≤ y2)
    then (y0[y2.toNat]?).bind fun val4 =>
      bif decide (0 ≤ y2)
        then (y1[y2.toNat]?).bind fun val8 =>
          (ref15_SameMsg val4.fst val4.snd.fst val4.snd.snd.fst val4.snd.snd.snd.fst val4.snd.snd.snd.snd.fst val4.snd.snd.snd.snd.snd.fst val4.snd.snd.snd.snd.snd.snd.fst val4.snd.snd.snd.snd.snd.snd.snd.fst val4.snd.snd.snd.snd.snd.snd.snd.snd.fst val4.snd.snd.snd.snd.snd.snd.snd.snd.snd.fst val4.snd.snd.snd.snd.snd.snd.snd.snd.snd.snd val8.fst val8.snd.fst val8.snd.snd.fst val8.snd.snd.snd.fst val8.snd.snd.snd.snd.fst val8.snd.snd.snd.snd.snd.fst val8.snd.snd.snd.snd.snd.snd.fst val8.snd.snd.snd.snd.snd.snd.snd.fst val8.snd.snd.snd.snd.snd.snd.snd.snd.fst val8.snd.snd.snd.snd.snd.snd.snd.snd.snd.fst val8.snd.snd.snd.snd.snd.snd.snd.snd.snd.snd).bind fun val10 =>
            bif !val10
              then some false
              else ref15_SameMsgs_l0 (y0) (y1) (IntKind.i64.wrap (y2 + 1))
        else none
    else none
  else some true := (loopAt_step _ _ _ _ _ _ _).trans (by kernel_rfl)
noncomputable def ref15_SameMsgs_sig : Sig := { pm := [(false, [(false, .slice (.pair (.int .i64) (.pair (.int .i64) (.pair (.int .i64) (.pair (.int .i64) (.pair (.int .i64) (.pair (.int .i64) (.pair (.int .i64) (.pair (.int .i64) (.pair (.bool) (.pair (.slice (.pair (.int .i64) (.slice (.int .u8)))) (.slice (.int .u8)))))))))))))]), (false, [(false, .slice (.pair (.int .i64) (.pair (.int .i64) (.pair (.int .i64) (.pair (.int .i64) (.pair (.int .i64) (.pair (.int .i64) (.pair (.int .i64) (.pair (.int .i64) (.pair (.bool) (.pair (.slice (.pair (.int .i64) (.slice (.int .u8)))) (.slice (.int .u8)))))))))))))])], rm := [(false, [(false, .bool)])], f := fun | [⟨.slice (.pair (.int .i64) (.pair (.int .i64) (.pair (.int .i64) (.pair (.int .i64) (.pair (.int .i64) (.pair (.int .i64) (.pair (.int .i64) (.pair (.int .i64) (.pair (.bool) (.pair (.slice (.pair (.int .i64) (.slice (.int .u8)))) (.slice (.int .u8)))))))))))), x0⟩, ⟨.slice (.pair (.int .i64) (.pair (.int .i64) (.pair (.int .i64) (.pair (.int .i64) (.pair (.int .i64) (.pair (.int .i64) (.pair (.int .i64) (.pair (.int .i64) (.pair (.bool) (.pair (.slice (.pair (.int .i64) (.slice (.int .u8)))) (.slice (.int .u8)))))))))))), x1⟩] => .yes _ (ref15_SameMsgs x0 x1) ref15_SameMsgs_mk | _ => .no }
theorem ref15_SameMsgs_ok : SigOk Try.prog 36 ref15_SameMsgs_sig := by
  refine contract_of (C := ref15_SameMsgs_C) (d := 3) ⟨S26_ok, P22_ok⟩ (callable_ex (by kernel_rfl)) ?_
  intro dvs
  unfold ref15_SameMsgs_sig
  dsimp only
  split
  · refine .inr ⟨_, ref15_SameMsgs_un, ref15_SameMsgs_mk, congrArg (fun o => Cl.yes _ o _) (ref15_SameMsgs_raw _ _), ?_⟩
    intro ds x h
    unfold ref15_SameMsgs_un at h
    split at h
    · cases h; rfl
    · cases h
  · exact .inl rfl
noncomputable def S27 : List (Nat × Sig) := (36, ref15_SameMsgs_sig) :: S26
theorem S27_ok : ListOk Try.prog S27 := ListOk.cons S26_ok ref15_SameMsgs_ok
noncomputable def ref17_Same_C : Cfg := { P := Try.prog, sig := lookSig S27, hb := fun _ _ => none, hr := fun _ _ => none, ps := lookSig P22 }
noncomputable def ref17_Same_un : List DV → Option (Bool) := fun | [⟨.bool, r0⟩] => some r0 | _ => none
noncomputable def ref17_Same_mk : Bool → List DV := fun r0 => [⟨.bool, r0⟩]
theorem ref17_Same_ex : ∃ f : (Int) → (Int) → (List (Int × Int × Int × Int × Int × Int × Int × Int × Bool × (List (Int × (List Int))) × (List Int))) → (Int) → (Int) → (List (Int × Int × Int × Int × Int × Int × Int × Int × Bool × (List (Int × (List Int))) × (List Int))) → Option (Bool), f = fun (x0 : Int) (x1 : Int) (x2 : List (Int × Int × Int × Int × Int × Int × Int × Int × Bool × (List (Int × (List Int))) × (List Int))) (x3 : Int) (x4 : Int) (x5 : List (Int × Int × Int × Int × Int × Int × Int × Int × Bool × (List (Int × (List Int))) × (List Int))) => funRun ref17_Same_C 3 16 [(true, [(false, .int .i64), (false, .int .i64), (false, .slice (.pair (.int .i64) (.pair (.int .i64) (.pair (.int .i64) (.pair (.int .i64) (.pair (.int .i64) (.pair (.int .i64) (.pair (.int .i64) (.pair (.int .i64) (.pair (.bool) (.pair (.slice (.pair (.int .i64) (.slice (.int .u8)))) (.slice (.int .u8)))))))))))))]), (true, [(false, .int .i64), (false, .int .i64), (false, .slice (.pair (.int .i64) (.pair (.int .i64) (.pair (.int .i64) (.pair (.int .i64) (.pair (.int .i64) (.pair (.int .i64) (.pair (.int .i64) (.pair (.int .i64) (.pair (.bool) (.pair (.slice (.pair (.int .i64) (.slice (.int .u8)))) (.slice (.int .u8)))))))))))))])] [(false, [(false, .bool)])] ref17_Same_un [⟨.int .i64, x0⟩, ⟨.int .i64, x1⟩, ⟨.slice (.pair (.int .i64) (.pair (.int .i64) (.pair (.int .i64) (.pair (.int .i64) (.pair (.int .i64) (.pair (.int .i64) (.pair (.int .i64) (.pair (.int .i64) (.pair (.bool) (.pair (.slice (.pair (.int .i64) (.slice (.int .u8)))) (.slice (.int .u8)))))))))))), x2⟩, ⟨.int .i64, x3⟩, ⟨.int .i64, x4⟩, ⟨.slice (.pair (.int .i64) (.pair (.int .i64) (.pair (.int .i64) (.pair (.int .i64) (.pair (.int .i64) (.pair (.int .i64) (.pair (.int .i64) (.pair (.int .i64) (.pair (.bool) (.pair (.slice (.pair (.int .i64) (.slice (.int .u8)))) (.slice (.int .u8)))))))))))), x5⟩] := ⟨_, rfl⟩
noncomputable def ref17_Same : (Int) → (Int) → (List (Int × Int × Int × Int × Int × Int × Int × Int × Bool × (List (Int × (List Int))) × (List Int))) → (Int) → (Int) → (List (Int × Int × Int × Int × Int × Int × Int × Int × Bool × (List (Int × (List Int))) × (List Int))) → Option (Bool) := ref17_Same_ex.choose
theorem ref17_Same_raw (x0 : Int) (x1 : Int) (x2 : List (Int × Int × Int × Int × Int × Int × Int × Int × Bool × (List (Int × (List Int))) × (List Int))) (x3 : Int) (x4 : Int) (x5 : List (Int × Int × Int × Int × Int × Int × Int × Int × Bool × (List (Int × (List Int))) × (List Int))) : ref17_Same x0 x1 x2 x3 x4 x5 = funRun ref17_Same_C 3 16 [(true, [(false, .int .i64), (false, .int .i64), (false, .slice (.pair (.int .i64) (.pair (.int .i64) (.pair (.int .i64) (.pair (.int .i64) (.pair (.int .i64) (.pair (.int .i64) (.pair (.int .i64) (.pair (.int .i64) (.pair (.bool) (.pair (.slice (.pair (.int .i64) (.slice (.int .u8)))) (.slice (.int .u8)))))))))))))]), (true, [(false, .int .i64), (false, .int .i64), (false, .slice (.pair (.int .i64) (.pair (.int .i64) (.pair (.int .i64) (.pair (.int .i64) (.pair (.int .i64) (.pair (.int .i64) (.pair (.int .i64) (.pair (.int .i64) (.pair (.bool) (.pair (.slice (.pair (.int .i64) (.slice (.int .u8)))) (.slice (.int .u8)))))))))))))])] [(false, [(false, .bool)])] ref17_Same_un [⟨.int .i64, x0⟩, ⟨.int .i64, x1⟩, ⟨.slice (.pair (.int .i64) (.pair (.int .i64) (.pair (.int .i64) (.pair (.int .i64) (.pair (.int .i64) (.pair (.int .i64) (.pair (.int .i64) (.pair (.int .i64) (.pair (.bool) (.pair (.slice (.pair (.int .i64) (.slice (.int .u8)))) (.slice (.int .u8)))))))))))), x2⟩, ⟨.int .i64, x3⟩, ⟨.int .i64, x4⟩, ⟨.slice (.pair (.int .i64) (.pair (.int .i64) (.pair (.int .i64) (.pair (.int .i64) (.pair (.int .i64) (.pair (.int .i64) (.pair (.int .i64) (.pair (.int .i64) (.pair (.bool) (.pair (.slice (.pair (.int .i64) (.slice (.int .u8)))) (.slice (.int .u8)))))))))))), x5⟩] := congrFun (congrFun (congrFun (congrFun (congrFun (congrFun (ref17_Same_ex.choose_spec) x0) x1) x2) x3) x4) x5
theorem ref17_Same_eq (x0 : Int) (x1 : Int) (x2 : List (Int × Int × Int × Int × Int × Int × Int × Int × Bool × (List (Int × (List Int))) × (List Int))) (x3 : Int) (x4 : Int) (x5 : List (Int × Int × Int × Int × Int × Int × Int × Int × Bool × (List (Int × (List Int))) × (List Int))) : ref17_Same x0 x1 x2 x3 x4 x5 =
  bif x0 == x3
  then bif x1 == x4
    then (ref15_SameMsgs x2 x5).bind fun val4 =>
      some (val4)
    else some false
  else some false := (ref17_Same_raw x0 x1 x2 x3 x4 x5).trans (by kernel_rfl)
noncomputable def ref17_Same_sig : Sig := { pm := [(true, [(false, .int .i64), (false, .int .i64), (false, .slice (.pair (.int .i64) (.pair (.int .i64) (.pair (.int .i64) (.pair (.int .i64) (.pair (.int .i64) (.pair (.int .i64) (.pair (.int .i64) (.pair (.int .i64) (.pair (.bool) (.pair (.slice (.pair (.int .i64) (.slice (.int .u8)))) (.slice (.int .u8)))))))))))))]), (true, [(false, .int .i64), (false, .int .i64), (false, .slice (.pair (.int .i64) (.pair (.int .i64) (.pair (.int .i64) (.pair (.int .i64) (.pair (.int .i64) (.pair (.int .i64) (.pair (.int .i64) (.pair (.int .i64) (.pair (.bool) (.pair (.slice (.pair (.int .i64) (.slice (.int .u8)))) (.slice (.int .u8)))))))))))))])], rm := [(false, [(false, .bool)])], f := fun | [⟨.int .i64, x0⟩, ⟨.int .i64, x1⟩, ⟨.slice (.pair (.int .i64) (.pair (.int .i64) (.pair (.int .i64) (.pair (.int .i64) (.pair (.int .i64) (.pair (.int .i64) (.pair (.int .i64) (.pair (.int .i64) (.pair (.bool) (.pair (.slice (.pair (.int .i64) (.slice (.int .u8)))) (.slice (.int .u8)))))))))))), x2⟩, ⟨.int .i64, x3⟩, ⟨.int .i64, x4⟩, ⟨.slice (.pair (.int .i64) (.pair (.int .i64) (.pair (.int .i64) (.pair (.int .i64) (.pair (.int .i64) (.pair (.int .i64) (.pair (.int .i64) (.pair (.int .i64) (.pair (.bool) (.pair (.slice (.pair (.int .i64) (.slice (.int .u8)))) (.slice (.int .u8)))))))))))), x5⟩] => .yes _ (ref17_Same x0 x1 x2 x3 x4 x5) ref17_Same_mk | _ => .no }
theorem ref17_Same_ok : SigOk Try.prog 16 ref17_Same_sig := by
  refine contract_of (C := ref17_Same_C) (d := 3) ⟨S27_ok, P22_ok⟩ (callable_ex (by kernel_rfl)) ?_
  intro dvs
  unfold ref17_Same_sig
  dsimp only
  split
  · refine .inr ⟨_, ref17_Same_un, ref17_Same_mk, congrArg (fun o => Cl.yes _ o _) (ref17_Same_raw _ _ _ _ _ _), ?_⟩
    intro ds x h
    unfold ref17_Same_un at h
    split at h
    · cases h; rfl
    · cases h
  · exact .inl rfl
noncomputable def S28 : List (Nat × Sig) := (16, ref17_Same_sig) :: S27
theorem S28_ok : ListOk Try.prog S28 := ListOk.cons S27_ok ref17_Same_ok
noncomputable def ref17_SameAll_C : Cfg := { P := Try.prog, sig := lookSig S28, hb := fun f b =>  bif Nat.beq f 19 && Nat.beq b 0 then some { tmps := [0, 1, 5], obs := [], nils := [], kl := [] } else none, hr := fun _ _ => none, ps := lookSig P22 }
noncomputable def ref17_SameAll_un : List DV → Option (Bool) := fun | [⟨.bool, r0⟩] => some r0 | _ => none
noncomputable def ref17_SameAll_mk : Bool → List DV := fun r0 => [⟨.bool, r0⟩]
theorem ref17_SameAll_ex : ∃ f : (List (Int × Int × (List (Int × Int × Int × Int × Int × Int × Int × Int × Bool × (List (Int × (List Int))) × (List Int))))) → (List (Int × Int × (List (Int × Int × Int × Int × Int × Int × Int × Int × Bool × (List (Int × (List Int))) × (List Int))))) → Option (Bool), f = fun (x0 : List (Int × Int × (List (Int × Int × Int × Int × Int × Int × Int × Int × Bool × (List (Int × (List Int))) × (List Int))))) (x1 : List (Int × Int × (List (Int × Int × Int × Int × Int × Int × Int × Int × Bool × (List (Int × (List Int))) × (List Int))))) => funRun ref17_SameAll_C 3 19 [(false, [(false, .slice (.pair (.int .i64) (.pair (.int .i64) (.slice (.pair (.int .i64) (.pair (.int .i64) (.pair (.int .i64) (.pair (.int .i64) (.pair (.int .i64) (.pair (.int .i64) (.pair (.int .i64) (.pair (.int .i64) (.pair (.bool) (.pair (.slice (.pair (.int .i64) (.slice (.int .u8)))) (.slice (.int .u8))))))))))))))))]), (false, [(false, .slice (.pair (.int .i64) (.pair (.int .i64) (.slice (.pair (.int .i64) (.pair (.int .i64) (.pair (.int .i64) (.pair (.int .i64) (.pair (.int .i64) (.pair (.int .i64) (.pair (.int .i64) (.pair (.int .i64) (.pair (.bool) (.pair (.slice (.pair (.int .i64) (.slice (.int .u8)))) (.slice (.int .u8))))))))))))))))])] [(false, [(false, .bool)])] ref17_SameAll_un [⟨.slice (.pair (.int .i64) (.pair (.int .i64) (.slice (.pair (.int .i64) (.pair (.int .i64) (.pair (.int .i64) (.pair (.int .i64) (.pair (.int .i64) (.pair (.int .i64) (.pair (.int .i64) (.pair (.int .i64) (.pair (.bool) (.pair (.slice (.pair (.int .i64) (.slice (.int .u8)))) (.slice (.int .u8))))))))))))))), x0⟩, ⟨.slice (.pair (.int .i64) (.pair (.int .i64) (.slice (.pair (.int .i64) (.pair (.int .i64) (.pair (.int .i64) (.pair (.int .i64) (.pair (.int .i64) (.pair (.int .i64) (.pair (.int .i64) (.pair (.int .i64) (.pair (.bool) (.pair (.slice (.pair (.int .i64) (.slice (.int .u8)))) (.slice (.int .u8))))))))))))))), x1⟩] := ⟨_, rfl⟩
noncomputable def ref17_SameAll : (List (Int × Int × (List (Int × Int × Int × Int × Int × Int × Int × Int × Bool × (List (Int × (List Int))) × (List Int))))) → (List (Int × Int × (List (Int × Int × Int × Int × Int × Int × Int × Int × Bool × (List (Int × (List Int))) × (List Int))))) → Option (Bool) := ref17_SameAll_ex.choose
theorem ref17_SameAll_raw (x0 : List (Int × Int × (List (Int × Int × Int × Int × Int × Int × Int × Int × Bool × (List (Int × (List Int))) × (List Int))))) (x1 : List (Int × Int × (List (Int × Int × Int × Int × Int × Int × Int × Int × Bool × (List (Int × (List Int))) × (List Int))))) : ref17_SameAll x0 x1 = funRun ref17_SameAll_C 3 19 [(false, [(false, .slice (.pair (.int .i64) (.pair (.int .i64) (.slice (.pair (.int .i64) (.pair (.int .i64) (.pair (.int .i64) (.pair (.int .i64) (.pair (.int .i64) (.pair (.int .i64) (.pair (.int .i64) (.pair (.int .i64) (.pair (.bool) (.pair (.slice (.pair (.int .i64) (.slice (.int .u8)))) (.slice (.int .u8))))))))))))))))]), (false, [(false, .slice (.pair (.int .i64) (.pair (.int .i64) (.slice (.pair (.int .i64) (.pair (.int .i64) (.pair (.int .i64) (.pair (.int .i64) (.pair (.int .i64) (.pair (.int .i64) (.pair (.int .i64) (.pair (.int .i64) (.pair (.bool) (.pair (.slice (.pair (.int .i64) (.slice (.int .u8)))) (.slice (.int .u8))))))))))))))))])] [(false, [(false, .bool)])] ref17_SameAll_un [⟨.slice (.pair (.int .i64) (.pair (.int .i64) (.slice (.pair (.int .i64) (.pair (.int .i64) (.pair (.int .i64) (.pair (.int .i64) (.pair (.int .i64) (.pair (.int .i64) (.pair (.int .i64) (.pair (.int .i64) (.pair (.bool) (.pair (.slice (.pair (.int .i64) (.slice (.int .u8)))) (.slice (.int .u8))))))))))))))), x0⟩, ⟨.slice (.pair (.int .i64) (.pair (.int .i64) (.slice (.pair (.int .i64) (.pair (.int .i64) (.pair (.int .i64) (.pair (.int .i64) (.pair (.int .i64) (.pair (.int .i64) (.pair (.int .i64) (.pair (.int .i64) (.pair (.bool) (.pair (.slice (.pair (.int .i64) (.slice (.int .u8)))) (.slice (.int .u8))))))))))))))), x1⟩] := congrFun (congrFun (ref17_SameAll_ex.choose_spec) x0) x1
noncomputable def ref17_SameAll_l0 (y0 : List ((Int) × ((Int) × (List ((Int) × ((Int) × ((Int) × ((Int) × ((Int) × ((Int) × ((Int) × ((Int) × ((Bool) × ((List ((Int) × (List (Int)))) × (List (Int)))))))))))))))) (y1 : List ((Int) × ((Int) × (List ((Int) × ((Int) × ((Int) × ((Int) × ((Int) × ((Int) × ((Int) × ((Int) × ((Bool) × ((List ((Int) × (List (Int)))) × (List (Int)))))))))))))))) (y2 : Int) : Option (Bool) := loopAt ref17_SameAll_C 3 19 [(false, [(false, .bool)])] ref17_SameAll_un [true, true, false, true, false] (St.ofLists [(0, .fz ((Ty.int IntKind.i64).pair ((Ty.int IntKind.i64).pair ((Ty.int IntKind.i64).pair ((Ty.int IntKind.i64).pair ((Ty.int IntKind.i64).pair ((Ty.int IntKind.i64).pair ((Ty.int IntKind.i64).pair ((Ty.int IntKind.i64).pair ((Ty.int IntKind.i64).pair ((Ty.int IntKind.i64).pair (Ty.bool.pair (((Ty.int IntKind.i64).pair (Ty.int IntKind.u8).slice).slice.pair (Ty.int IntKind.u8).slice)))))))))).slice)) y0 false false), (1, .fz ((Ty.int IntKind.i64).pair ((Ty.int IntKind.i64).pair ((Ty.int IntKind.i64).pair ((Ty.int IntKind.i64).pair ((Ty.int IntKind.i64).pair ((Ty.int IntKind.i64).pair ((Ty.int IntKind.i64).pair ((Ty.int IntKind.i64).pair ((Ty.int IntKind.i64).pair ((Ty.int IntKind.i64).pair (Ty.bool.pair (((Ty.int IntKind.i64).pair (Ty.int IntKind.u8).slice).slice.pair (Ty.int IntKind.u8).slice)))))))))).slice)) y1 false false), (5, .int .i64 y2)] [] [])
theorem ref17_SameAll_eq (x0 : List (Int × Int × (List (Int × Int × Int × Int × Int × Int × Int × Int × Bool × (List (Int × (List Int))) × (List Int))))) (x1 : List (Int × Int × (List (Int × Int × Int × Int × Int × Int × Int × Int × Bool × (List (Int × (List Int))) × (List Int))))) : ref17_SameAll x0 x1 =
  bif ilen x0 != ilen x1
  then some false
  else ref17_SameAll_l0 (x0) (x1) (0) := (ref17_SameAll_raw x0 x1).trans (by kernel_rfl)
theorem ref17_SameAll_l0_eq (y0 : List ((Int) × ((Int) × (List ((Int) × ((Int) × ((Int) × ((Int) × ((Int) × ((Int) × ((Int) × ((Int) × ((Bool) × ((List ((Int) × (List (Int)))) × (List (Int)))))))))))))))) (y1 : List ((Int) × ((Int) × (List ((Int) × ((Int) × ((Int) × ((Int) × ((Int) × ((Int) × ((Int) × ((Int) × ((Bool) × ((List ((Int) × (List (Int)))) × (List (Int)))))))))))))))) (y2 : Int) : ref17_SameAll_l0 y0 y1 y2 =
  bif decide (y2 < ilen y0)
  then bif decide (0 ≤ y2)
    then (y0[y2.toNat]?).bind fun val4 =>
      bif decide (0 ≤ y2)
        then (y1[y2.toNat]?).bind fun val8 =>
          (ref17_Same val4.fst val4.snd.fst val4.snd.snd val8.fst val8.snd.fst val8.snd.snd).bind fun val10 =>
            bif !val10
              then some false
              else ref17_SameAll_l0 (y0) (y1) (IntKind.i64.wrap (y2 + 1))
        else none
    else none
  else some true := (loopAt_step _ _ _ _ _ _ _).trans (by kernel_rfl)
noncomputable def ref17_SameAll_sig : Sig := { pm := [(false, [(false, .slice (.pair (.int .i64) (.pair (.int .i64) (.slice (.pair (.int .i64) (.pair (.int .i64) (.pair (.int .i64) (.pair (.int .i64) (.pair (.int .i64) (.pair (.int .i64) (.pair (.int .i64) (.pair (.int .i64) (.pair (.bool) (.pair (.slice (.pair (.int .i64) (.slice (.int .u8)))) (.slice (.int .u8))))))))))))))))]), (false, [(false, .slice (.pair (.int .i64) (.pair (.int .i64) (.slice (.pair (.int .i64) (.pair (.int .i64) (.pair (.int .i64) (.pair (.int .i64) (.pair (.int .i64) (.pair (.int .i64) (.pair (.int .i64) (.pair (.int .i64) (.pair (.bool) (.pair (.slice (.pair (.int .i64) (.slice (.int .u8)))) (.slice (.int .u8))))))))))))))))])], rm := [(false, [(false, .bool)])], f := fun | [⟨.slice (.pair (.int .i64) (.pair (.int .i64) (.slice (.pair (.int .i64) (.pair (.int .i64) (.pair (.int .i64) (.pair (.int .i64) (.pair (.int .i64) (.pair (.int .i64) (.pair (.int .i64) (.pair (.int .i64) (.pair (.bool) (.pair (.slice (.pair (.int .i64) (.slice (.int .u8)))) (.slice (.int .u8))))))))))))))), x0⟩, ⟨.slice (.pair (.int .i64) (.pair (.int .i64) (.slice (.pair (.int .i64) (.pair (.int .i64) (.pair (.int .i64) (.pair (.int .i64) (.pair (.int .i64) (.pair (.int .i64) (.pair (.int .i64) (.pair (.int .i64) (.pair (.bool) (.pair (.slice (.pair (.int .i64) (.slice (.int .u8)))) (.slice (.int .u8))))))))))))))), x1⟩] => .yes _ (ref17_SameAll x0 x1) ref17_SameAll_mk | _ => .no }
theorem ref17_SameAll_ok : SigOk Try.prog 19 ref17_SameAll_sig := by
  refine contract_of (C := ref17_SameAll_C) (d := 3) ⟨S28_ok, P22_ok⟩ (callable_ex (by kernel_rfl)) ?_
  intro dvs
  unfold ref17_SameAll_sig
  dsimp only
  split
  · refine .inr ⟨_, ref17_SameAll_un, ref17_SameAll_mk, congrArg (fun o => Cl.yes _ o _) (ref17_SameAll_raw _ _), ?_⟩
    intro ds x h
    unfold ref17_SameAll_un at h
    split at h
    · cases h; rfl
    · cases h
  · exact .inl rfl
noncomputable def S29 : List (Nat × Sig) := (19, ref17_SameAll_sig) :: S28
theorem S29_ok : ListOk Try.prog S29 := ListOk.cons S28_ok ref17_SameAll_ok
noncomputable def ref17_Weight_C : Cfg := { P := Try.prog, sig := lookSig S29, hb := fun f b =>  bif Nat.beq f 21 && Nat.beq b 0 then some { tmps := [0, 1, 5, 6], obs := [], nils := [], kl := [] } else bif Nat.beq f 21 && Nat.beq b 2 then some { tmps := [0, 1, 5, 6, 7], obs := [], nils := [], kl := [] } else none, hr := fun _ _ => none, ps := lookSig P22 }
noncomputable def ref17_Weight_un : List DV → Option (Int) := fun | [⟨.int .i64, r0⟩] => some r0 | _ => none
noncomputable def ref17_Weight_mk : Int → List DV := fun r0 => [⟨.int .i64, r0⟩]
theorem ref17_Weight_ex : ∃ f : (List (Int × Int × Int × Int × Int × Int × Int × Int × Bool × (List (Int × (List Int))) × (List Int))) → (Int) → Option (Int), f = fun (x0 : List (Int × Int × Int × Int × Int × Int × Int × Int × Bool × (List (Int × (List Int))) × (List Int))) (x1 : Int) => funRun ref17_Weight_C 3 21 [(false, [(false, .slice (.pair (.int .i64) (.pair (.int .i64) (.pair (.int .i64) (.pair (.int .i64) (.pair (.int .i64) (.pair (.int .i64) (.pair (.int .i64) (.pair (.int .i64) (.pair (.bool) (.pair (.slice (.pair (.int .i64) (.slice (.int .u8)))) (.slice (.int .u8)))))))))))))]), (false, [(false, .int .i64)])] [(false, [(false, .int .i64)])] ref17_Weight_un [⟨.slice (.pair (.int .i64) (.pair (.int .i64) (.pair (.int .i64) (.pair (.int .i64) (.pair (.int .i64) (.pair (.int .i64) (.pair (.int .i64) (.pair (.int .i64) (.pair (.bool) (.pair (.slice (.pair (.int .i64) (.slice (.int .u8)))) (.slice (.int .u8)))))))))))), x0⟩, ⟨.int .i64, x1⟩] := ⟨_, rfl⟩
noncomputable def ref17_Weight : (List (Int × Int × Int × Int × Int × Int × Int × Int × Bool × (List (Int × (List Int))) × (List Int))) → (Int) → Option (Int) := ref17_Weight_ex.choose
theorem ref17_Weight_raw (x0 : List (Int × Int × Int × Int × Int × Int × Int × Int × Bool × (List (Int × (List Int))) × (List Int))) (x1 : Int) : ref17_Weight x0 x1 = funRun ref17_Weight_C 3 21 [(false, [(false, .slice (.pair (.int .i64) (.pair (.int .i64) (.pair (.int .i64) (.pair (.int .i64) (.pair (.int .i64) (.pair (.int .i64) (.pair (.int .i64) (.pair (.int .i64) (.pair (.bool) (.pair (.slice (.pair (.int .i64) (.slice (.int .u8)))) (.slice (.int .u8)))))))))))))]), (false, [(false, .int .i64)])] [(false, [(false, .int .i64)])] ref17_Weight_un [⟨.slice (.pair (.int .i64) (.pair (.int .i64) (.pair (.int .i64) (.pair (.int .i64) (.pair (.int .i64) (.pair (.int .i64) (.pair (.int .i64) (.pair (.int .i64) (.pair (.bool) (.pair (.slice (.pair (.int .i64) (.slice (.int .u8)))) (.slice (.int .u8)))))))))))), x0⟩, ⟨.int .i64, x1⟩] := congrFun (congrFun (ref17_Weight_ex.choose_spec) x0) x1
noncomputable def ref17_Weight_l0 (y0 : List ((Int) × ((Int) × ((Int) × ((Int) × ((Int) × ((Int) × ((Int) × ((Int) × ((Bool) × ((List ((Int) × (List (Int)))) × (List (Int))))))))))))) (y1 : Int) (y2 : Int) (y3 : Int) : Option (Int) := loopAt ref17_Weight_C 3 21 [(false, [(false, .int .i64)])] ref17_Weight_un [true, true, false, true, false] (St.ofLists [(0, .fz ((Ty.int IntKind.i64).pair ((Ty.int IntKind.i64).pair ((Ty.int IntKind.i64).pair ((Ty.int IntKind.i64).pair ((Ty.int IntKind.i64).pair ((Ty.int IntKind.i64).pair ((Ty.int IntKind.i64).pair ((Ty.int IntKind.i64).pair (Ty.bool.pair (((Ty.int IntKind.i64).pair (Ty.int IntKind.u8).slice).slice.pair (Ty.int IntKind.u8).slice)))))))))) y0 false false), (1, .int .i64 y1), (5, .int .i64 y2), (6, .int .i64 y3)] [] [])
noncomputable def ref17_Weight_l2 (y0 : List ((Int) × ((Int) × ((Int) × ((Int) × ((Int) × ((Int) × ((Int) × ((Int) × ((Bool) × ((List ((Int) × (List (Int)))) × (List (Int))))))))))))) (y1 : Int) (y2 : Int) (y3 : Int) (y4 : Int) : Option (Int) := loopAt ref17_Weight_C 3 21 [(false, [(false, .int .i64)])] ref17_Weight_un [true, true, false, true, false, false, true, false, false, true, true, false] (St.ofLists [(0, .fz ((Ty.int IntKind.i64).pair ((Ty.int IntKind.i64).pair ((Ty.int IntKind.i64).pair ((Ty.int IntKind.i64).pair ((Ty.int IntKind.i64).pair ((Ty.int IntKind.i64).pair ((Ty.int IntKind.i64).pair ((Ty.int IntKind.i64).pair (Ty.bool.pair (((Ty.int IntKind.i64).pair (Ty.int IntKind.u8).slice).slice.pair (Ty.int IntKind.u8).slice)))))))))) y0 false false), (1, .int .i64 y1), (5, .int .i64 y2), (6, .int .i64 y3), (7, .int .i64 y4)] [] [])
theorem ref17_Weight_eq (x0 : List (Int × Int × Int × Int × Int × Int × Int × Int × Bool × (List (Int × (List Int))) × (List Int))) (x1 : Int) : ref17_Weight x0 x1 =
  ref17_Weight_l0 (x0) (x1) (0) (0) := (ref17_Weight_raw x0 x1).trans (by kernel_rfl)
theorem ref17_Weight_l0_eq (y0 : List ((Int) × ((Int) × ((Int) × ((Int) × ((Int) × ((Int) × ((Int) × ((Int) × ((Bool) × ((List ((Int) × (List (Int)))) × (List (Int))))))))))))) (y1 : Int) (y2 : Int) (y3 : Int) : ref17_Weight_l0 y0 y1 y2 y3 =
  bif decide (y3 < ilen y0)
  then bif decide (y2 ≤ y1)
    then bif decide (0 ≤ y3)
      then (y0[y3.toNat]?).bind fun val6 =>
        ref17_Weight_l2 (y0) (y1) (IntKind.i64.wrap (IntKind.i64.wrap (y2 + 1) + IntKind.i64.wrap ((ilen val6.snd.snd.snd.snd.snd.snd.snd.snd.snd.snd).tdiv 20))) (y3) (0)
      else none
    else some (y2)
  else some (y2) := (loopAt_step _ _ _ _ _ _ _).trans (by kernel_rfl)
theorem ref17_Weight_l2_eq (y0 : List ((Int) × ((Int) × ((Int) × ((Int) × ((Int) × ((Int) × ((Int) × ((Int) × ((Bool) × ((List ((Int) × (List (Int)))) × (List (Int))))))))))))) (y1 : Int) (y2 : Int) (y3 : Int) (y4 : Int) : ref17_Weight_l2 y0 y1 y2 y3 y4 =
  bif decide (0 ≤ y3)
  then (y0[y3.toNat]?).bind fun val2 =>
    bif decide (y4 < ilen val2.snd.snd.snd.snd.snd.snd.snd.snd.snd.fst)
      then bif decide (y2 ≤ y1)
        then bif decide (0 ≤ y3)
          then (y0[y3.toNat]?).bind fun val10 =>
            bif decide (0 ≤ y4)
              then (val10.snd.snd.snd.snd.snd.snd.snd.snd.snd.fst[y4.toNat]?).bind fun val14 =>
                ref17_Weight_l2 (y0) (y1) (IntKind.i64.wrap (IntKind.i64.wrap (y2 + 1) + IntKind.i64.wrap ((ilen val14.snd).tdiv 20))) (y3) (IntKind.i64.wrap (y4 + 1))
              else none
          else none
        else ref17_Weight_l0 (y0) (y1) (y2) (IntKind.i64.wrap (y3 + 1))
      else ref17_Weight_l0 (y0) (y1) (y2) (IntKind.i64.wrap (y3 + 1))
  else none := (loopAt_step _ _ _ _ _ _ _).trans (by kernel_rfl)
noncomputable def ref17_Weight_sig : Sig := { pm := [(false, [(false, .slice (.pair (.int .i64) (.pair (.int .i64) (.pair (.int .i64) (.pair (.int .i64) (.pair (.int .i64) (.pair (.int .i64) (.pair (.int .i64) (.pair (.int .i64) (.pair (.bool) (.pair (.slice (.pair (.int .i64) (.slice (.int .u8)))) (.slice (.int .u8)))))))))))))]), (false, [(false, .int .i64)])], rm := [(false, [(false, .int .i64)])], f := fun | [⟨.slice (.pair (.int .i64) (.pair (.int .i64) (.pair (.int .i64) (.pair (.int .i64) (.pair (.int .i64) (.pair (.int .i64) (.pair (.int .i64) (.pair (.int .i64) (.pair (.bool) (.pair (.slice (.pair (.int .i64) (.slice (.int .u8)))) (.slice (.int .u8)))))))))))), x0⟩, ⟨.int .i64, x1⟩] => .yes _ (ref17_Weight x0 x1) ref17_Weight_mk | _ => .no }
theorem ref17_Weight_ok : SigOk Try.prog 21 ref17_Weight_sig := by
  refine contract_of (C := ref17_Weight_C) (d := 3) ⟨S29_ok, P22_ok⟩ (callable_ex (by kernel_rfl)) ?_
  intro dvs
  unfold ref17_Weight_sig
  dsimp only
  split
  · refine .inr ⟨_, ref17_Weight_un, ref17_Weight_mk, congrArg (fun o => Cl.yes _ o _) (ref17_Weight_raw _ _), ?_⟩
    intro ds x h
    unfold ref17_Weight_un at h
    split at h
    · cases h; rfl
    · cases h
  · exact .inl rfl
noncomputable def S30 : List (Nat × Sig) := (21, ref17_Weight_sig) :: S29
theorem S30_ok : ListOk Try.prog S30 := ListOk.cons S29_ok ref17_Weight_ok
noncomputable def ref17_in_C : Cfg := { P := Try.prog, sig := lookSig S30, hb := fun _ _ => none, hr := fun _ _ => none, ps := lookSig P22 }
noncomputable def ref17_in_un : List DV → Option (Bool) := fun | [⟨.bool, r0⟩] => some r0 | _ => none
noncomputable def ref17_in_mk : Bool → List DV := fun r0 => [⟨.bool, r0⟩]
theorem ref17_in_ex : ∃ f : (Int) → (Int) → (Int) → Option (Bool), f = fun (x0 : Int) (x1 : Int) (x2 : Int) => funRun ref17_in_C 3 30 [(false, [(false, .int .i64)]), (false, [(false, .int .i64)]), (false, [(false, .int .i64)])] [(false, [(false, .bool)])] ref17_in_un [⟨.int .i64, x0⟩, ⟨.int .i64, x1⟩, ⟨.int .i64, x2⟩] := ⟨_, rfl⟩
noncomputable def ref17_in : (Int) → (Int) → (Int) → Option (Bool) := ref17_in_ex.choose
theorem ref17_in_raw (x0 : Int) (x1 : Int) (x2 : Int) : ref17_in x0 x1 x2 = funRun ref17_in_C 3 30 [(false, [(false, .int .i64)]), (false, [(false, .int .i64)]), (false, [(false, .int .i64)])] [(false, [(false, .bool)])] ref17_in_un [⟨.int .i64, x0⟩, ⟨.int .i64, x1⟩, ⟨.int .i64, x2⟩] := congrFun (congrFun (congrFun (ref17_in_ex.choose_spec) x0) x1) x2
theorem ref17_in_eq (x0 : Int) (x1 : Int) (x2 : Int) : ref17_in x0 x1 x2 =
  bif decide (x0 ≥ x1)
  then some (decide (x0 ≤ x2))
  else some false := (ref17_in_raw x0 x1 x2).trans (by kernel_rfl)
noncomputable def ref17_in_sig : Sig := { pm := [(false, [(false, .int .i64)]), (false, [(false, .int .i64)]), (false, [(false, .int .i64)])], rm := [(false, [(false, .bool)])], f := fun | [⟨.int .i64, x0⟩, ⟨.int .i64, x1⟩, ⟨.int .i64, x2⟩] => .yes _ (ref17_in x0 x1 x2) ref17_in_mk | _ => .no }
theorem ref17_in_ok : SigOk Try.prog 30 ref17_in_sig := by
  refine contract_of (C := ref17_in_C) (d := 3) ⟨S30_ok, P22_ok⟩ (callable_ex (by kernel_rfl)) ?_
  intro dvs
  unfold ref17_in_sig
  dsimp only
  split
  · refine .inr ⟨_, ref17_in_un, ref17_in_mk, congrArg (fun o => Cl.yes _ o _) (ref17_in_raw _ _ _), ?_⟩
    intro ds x h
    unfold ref17_in_un at h
    split at h
    · cases h; rfl
    · cases h
  · exact .inl rfl
noncomputable def S31 : List (Nat × Sig) := (30, ref17_in_sig) :: S30
theorem S31_ok : ListOk Try.prog S31 := ListOk.cons S30_ok ref17_in_ok
noncomputable def ref17_Msg_C : Cfg := { P := Try.prog, sig := lookSig S31, hb := fun f b =>  bif Nat.beq f 31 && Nat.beq b 0 then some { tmps := [1, 3, 4], obs := [108], nils := [], kl := [108] } else none, hr := fun _ _ => none, ps := lookSig P22 }
noncomputable def ref17_Msg_un : List DV → Option (Bool) := fun | [⟨.bool, r0⟩] => some r0 | _ => none
noncomputable def ref17_Msg_mk : Bool → List DV := fun r0 => [⟨.bool, r0⟩]
theorem ref17_Msg_ex : ∃ f : (Int) → (Int) → (Int) → (Int) → (Int) → (Int) → (Int) → (Int) → (Bool) → (List (Int × (List Int))) → (List Int) → Option (Bool), f = fun (x0 : Int) (x1 : Int) (x2 : Int) (x3 : Int) (x4 : Int) (x5 : Int) (x6 : Int) (x7 : Int) (x8 : Bool) (x9 : List (Int × (List Int))) (x10 : List Int) => funRun ref17_Msg_C 3 31 [(true, [(false, .int .i64), (false, .int .i64), (false, .int .i64), (false, .int .i64), (false, .int .i64), (false, .int .i64), (false, .int .i64), (false, .int .i64), (false, .bool), (false, .slice (.pair (.int .i64) (.slice (.int .u8)))), (false, .slice (.int .u8))])] [(false, [(false, .bool)])] ref17_Msg_un [⟨.int .i64, x0⟩, ⟨.int .i64, x1⟩, ⟨.int .i64, x2⟩, ⟨.int .i64, x3⟩, ⟨.int .i64, x4⟩, ⟨.int .i64, x5⟩, ⟨.int .i64, x6⟩, ⟨.int .i64, x7⟩, ⟨.bool, x8⟩, ⟨.slice (.pair (.int .i64) (.slice (.int .u8))), x9⟩, ⟨.slice (.int .u8), x10⟩] := ⟨_, rfl⟩
noncomputable def ref17_Msg : (Int) → (Int) → (Int) → (Int) → (Int) → (Int) → (Int) → (Int) → (Bool) → (List (Int × (List Int))) → (List Int) → Option (Bool) := ref17_Msg_ex.choose
theorem ref17_Msg_raw (x0 : Int) (x1 : Int) (x2 : Int) (x3 : Int) (x4 : Int) (x5 : Int) (x6 : Int) (x7 : Int) (x8 : Bool) (x9 : List (Int × (List Int))) (x10 : List Int) : ref17_Msg x0 x1 x2 x3 x4 x5 x6 x7 x8 x9 x10 = funRun ref17_Msg_C 3 31 [(true, [(false, .int .i64), (false, .int .i64), (false, .int .i64), (false, .int .i64), (false, .int .i64), (false, .int .i64), (false, .int .i64), (false, .int .i64), (false, .bool), (false, .slice (.pair (.int .i64) (.slice (.int .u8)))), (false, .slice (.int .u8))])] [(false, [(false, .bool)])] ref17_Msg_un [⟨.int .i64, x0⟩, ⟨.int .i64, x1⟩, ⟨.int .i64, x2⟩, ⟨.int .i64, x3⟩, ⟨.int .i64, x4⟩, ⟨.int .i64, x5⟩, ⟨.int .i64, x6⟩, ⟨.int .i64, x7⟩, ⟨.bool, x8⟩, ⟨.slice (.pair (.int .i64) (.slice (.int .u8))), x9⟩, ⟨.slice (.int .u8), x10⟩] := congrFun (congrFun (congrFun (congrFun (congrFun (congrFun (congrFun (congrFun (congrFun (congrFun (congrFun (ref17_Msg_ex.choose_spec) x0) x1) x2) x3) x4) x5) x6) x7) x8) x9) x10
noncomputable def ref17_Msg_l0 (y0 : Bool) (y1 : Int) (y2 : Int) (y3 : Int) (y4 : Int) (y5 : Int) (y6 : Int) (y7 : Int) (y8 : Int) (y9 : Int) (y10 : Bool) (y11 : List ((Int) × (List (Int)))) (y12 : List (Int)) : Option (Bool) := loopAt ref17_Msg_C 3 31 [(false, [(false, .bool)])] ref17_Msg_un [true, true, true, false, true, false] (St.ofLists [(1, .ptr 108 0), (3, .bool y0), (4, .int .i64 y1)] [(108, some (.cells [.int .i64 y2, .int .i64 y3, .int .i64 y4, .int .i64 y5, .int .i64 y6, .int .i64 y7, .int .i64 y8, .int .i64 y9, .bool y10, .fz ((Ty.int IntKind.i64).pair (Ty.int IntKind.u8).slice) y11 false false, .fz (Ty.int IntKind.u8) y12 false false]))] [108])
theorem ref17_Msg_eq (x0 : Int) (x1 : Int) (x2 : Int) (x3 : Int) (x4 : Int) (x5 : Int) (x6 : Int) (x7 : Int) (x8 : Bool) (x9 : List (Int × (List Int))) (x10 : List Int) : ref17_Msg x0 x1 x2 x3 x4 x5 x6 x7 x8 x9 x10 =
  (ref17_in x0 1 7).bind fun val0 =>
  bif val0
    then (ref17_in x1 0 63).bind fun val4 =>
      bif val4
        then (ref17_in x4 0 1099511627776).bind fun val8 =>
          bif val8
            then (ref17_in x5 0 1099511627776).bind fun val12 =>
              bif val12
                then (ref17_in x6 0 1099511627776).bind fun val16 =>
                  bif val16
                    then (ref17_in x7 0 1099511627776).bind fun val20 =>
                      bif val20
                        then bif decide (ilen x9 ≤ 8)
                          then ref17_Msg_l0 (decide (ilen x10 ≤ 65536)) (0) (x0) (x1) (x2) (x3) (x4) (x5) (x6) (x7) (x8) (x9) (x10)
                          else ref17_Msg_l0 (false) (0) (x0) (x1) (x2) (x3) (x4) (x5) (x6) (x7) (x8) (x9) (x10)
                        else ref17_Msg_l0 (false) (0) (x0) (x1) (x2) (x3) (x4) (x5) (x6) (x7) (x8) (x9) (x10)
                    else ref17_Msg_l0 (false) (0) (x0) (x1) (x2) (x3) (x4) (x5) (x6) (x7) (x8) (x9) (x10)
                else ref17_Msg_l0 (false) (0) (x0) (x1) (x2) (x3) (x4) (x5) (x6) (x7) (x8) (x9) (x10)
            else ref17_Msg_l0 (false) (0) (x0) (x1) (x2) (x3) (x4) (x5) (x6) (x7) (x8) (x9) (x10)
        else ref17_Msg_l0 (false) (0) (x0) (x1) (x2) (x3) (x4) (x5) (x6) (x7) (x8) (x9) (x10)
    else ref17_Msg_l0 (false) (0) (x0) (x1) (x2) (x3) (x4) (x5) (x6) (x7) (x8) (x9) (x10) := (ref17_Msg_raw x0 x1 x2 x3 x4 x5 x6 x7 x8 x9 x10).trans (by kernel_rfl)
theorem ref17_Msg_l0_eq (y0 : Bool) (y1 : Int) (y2 : Int) (y3 : Int) (y4 : Int) (y5 : Int) (y6 : Int) (y7 : Int) (y8 : Int) (y9 : Int) (y10 : Bool) (y11 : List ((Int) × (List (Int)))) (y12 : List (Int)) : ref17_Msg_l0 y0 y1 y2 y3 y4 y5 y6 y7 y8 y9 y10 y11 y12 =
  bif decide (y1 < ilen y11)
  then bif y0
    then bif decide (0 ≤ y1)
      then (y11[y1.toNat]?).bind fun val6 =>
        (ref17_in val6.fst 1 1099511627776).bind fun val8 =>
          bif val8
            then bif decide (0 ≤ y1)
              then (y11[y1.toNat]?).bind fun val14 =>
                ref17_Msg_l0 (decide (ilen val14.snd ≤ 65536)) (IntKind.i64.wrap (y1 + 1)) (y2) (y3) (y4) (y5) (y6) (y7) (y8) (y9) (y10) (y11) (y12)
              else none
            else ref17_Msg_l0 (false) (IntKind.i64.wrap (y1 + 1)) (y2) (y3) (y4) (y5) (y6) (y7) (y8) (y9) (y10) (y11) (y12)
      else none
    else some (y0)
  else some (y0) := (loopAt_step _ _ _ _ _ _ _).trans (by kernel_rfl)
noncomputable def ref17_Msg_sig : Sig := { pm := [(true, [(false, .int .i64), (false, .int .i64), (false, .int .i64), (false, .int .i64), (false, .int .i64), (false, .int .i64), (false, .int .i64), (false, .int .i64), (false, .bool), (false, .slice (.pair (.int .i64) (.slice (.int .u8)))), (false, .slice (.int .u8))])], rm := [(false, [(false, .bool)])], f := fun | [⟨.int .i64, x0⟩, ⟨.int .i64, x1⟩, ⟨.int .i64, x2⟩, ⟨.int .i64, x3⟩, ⟨.int .i64, x4⟩, ⟨.int .i64, x5⟩, ⟨.int .i64, x6⟩, ⟨.int .i64, x7⟩, ⟨.bool, x8⟩, ⟨.slice (.pair (.int .i64) (.slice (.int .u8))), x9⟩, ⟨.slice (.int .u8), x10⟩] => .yes _ (ref17_Msg x0 x1 x2 x3 x4 x5 x6 x7 x8 x9 x10) ref17_Msg_mk | _ => .no }
theorem ref17_Msg_ok : SigOk Try.prog 31 ref17_Msg_sig := by
  refine contract_of (C := ref17_Msg_C) (d := 3) ⟨S31_ok, P22_ok⟩ (callable_ex (by kernel_rfl)) ?_
  intro dvs
  unfold ref17_Msg_sig
  dsimp only
  split
  · refine .inr ⟨_, ref17_Msg_un, ref17_Msg_mk, congrArg (fun o => Cl.yes _ o _) (ref17_Msg_raw _ _ _ _ _ _ _ _ _ _ _), ?_⟩
    intro ds x h
    unfold ref17_Msg_un at h
    split at h
    · cases h; rfl
    · cases h
  · exact .inl rfl
noncomputable def S32 : List (Nat × Sig) := (31, ref17_Msg_sig) :: S31
theorem S32_ok : ListOk Try.prog S32 := ListOk.cons S31_ok ref17_Msg_ok
noncomputable def ref17_Check_C : Cfg := { P := Try.prog, sig := lookSig S32, hb := fun f b =>  bif Nat.beq f 14 && Nat.beq b 0 then some { tmps := [1, 3], obs := [108], nils := [], kl := [108] } else none, hr := fun _ _ => none, ps := lookSig P22 }
noncomputable def ref17_Check_un : List DV → Option (Int) := fun | [⟨.int .i64, r0⟩] => some r0 | _ => none
noncomputable def ref17_Check_mk : Int → List DV := fun r0 => [⟨.int .i64, r0⟩]
theorem ref17_Check_ex : ∃ f : (Int) → (Int) → (List (Int × Int × Int × Int × Int × Int × Int × Int × Bool × (List (Int × (List Int))) × (List Int))) → Option (Int), f = fun (x0 : Int) (x1 : Int) (x2 : List (Int × Int × Int × Int × Int × Int × Int × Int × Bool × (List (Int × (List Int))) × (List Int))) => funRun ref17_Check_C 3 14 [(true, [(false, .int .i64), (false, .int .i64), (false, .slice (.pair (.int .i64) (.pair (.int .i64) (.pair (.int .i64) (.pair (.int .i64) (.pair (.int .i64) (.pair (.int .i64) (.pair (.int .i64) (.pair (.int .i64) (.pair (.bool) (.pair (.slice (.pair (.int .i64) (.slice (.int .u8)))) (.slice (.int .u8)))))))))))))])] [(false, [(false, .int .i64)])] ref17_Check_un [⟨.int .i64, x0⟩, ⟨.int .i64, x1⟩, ⟨.slice (.pair (.int .i64) (.pair (.int .i64) (.pair (.int .i64) (.pair (.int .i64) (.pair (.int .i64) (.pair (.int .i64) (.pair (.int .i64) (.pair (.int .i64) (.pair (.bool) (.pair (.slice (.pair (.int .i64) (.slice (.int .u8)))) (.slice (.int .u8)))))))))))), x2⟩] := ⟨_, rfl⟩
noncomputable def ref17_Check : (Int) → (Int) → (List (Int × Int × Int × Int × Int × Int × Int × Int × Bool × (List (Int × (List Int))) × (List Int))) → Option (Int) := ref17_Check_ex.choose
theorem ref17_Check_raw (x0 : Int) (x1 : Int) (x2 : List (Int × Int × Int × Int × Int × Int × Int × Int × Bool × (List (Int × (List Int))) × (List Int))) : ref17_Check x0 x1 x2 = funRun ref17_Check_C 3 14 [(true, [(false, .int .i64), (false, .int .i64), (false, .slice (.pair (.int .i64) (.pair (.int .i64) (.pair (.int .i64) (.pair (.int .i64) (.pair (.int .i64) (.pair (.int .i64) (.pair (.int .i64) (.pair (.int .i64) (.pair (.bool) (.pair (.slice (.pair (.int .i64) (.slice (.int .u8)))) (.slice (.int .u8)))))))))))))])] [(false, [(false, .int .i64)])] ref17_Check_un [⟨.int .i64, x0⟩, ⟨.int .i64, x1⟩, ⟨.slice (.pair (.int .i64) (.pair (.int .i64) (.pair (.int .i64) (.pair (.int .i64) (.pair (.int .i64) (.pair (.int .i64) (.pair (.int .i64) (.pair (.int .i64) (.pair (.bool) (.pair (.slice (.pair (.int .i64) (.slice (.int .u8)))) (.slice (.int .u8)))))))))))), x2⟩] := congrFun (congrFun (congrFun (ref17_Check_ex.choose_spec) x0) x1) x2
noncomputable def ref17_Check_l0 (y0 : Int) (y1 : Int) (y2 : Int) (y3 : List ((Int) × ((Int) × ((Int) × ((Int) × ((Int) × ((Int) × ((Int) × ((Int) × ((Bool) × ((List ((Int) × (List (Int)))) × (List (Int))))))))))))) : Option (Int) := loopAt ref17_Check_C 3 14 [(false, [(false, .int .i64)])] ref17_Check_un [true, true, true, false, true, false] (St.ofLists [(1, .ptr 108 0), (3, .int .i64 y0)] [(108, some (.cells [.int .i64 y1, .int .i64 y2, .fz ((Ty.int IntKind.i64).pair ((Ty.int IntKind.i64).pair ((Ty.int IntKind.i64).pair ((Ty.int IntKind.i64).pair ((Ty.int IntKind.i64).pair ((Ty.int IntKind.i64).pair ((Ty.int IntKind.i64).pair ((Ty.int IntKind.i64).pair (Ty.bool.pair (((Ty.int IntKind.i64).pair (Ty.int IntKind.u8).slice).slice.pair (Ty.int IntKind.u8).slice)))))))))) y3 false false]))] [108])
theorem ref17_Check_eq (x0 : Int) (x1 : Int) (x2 : List (Int × Int × Int × Int × Int × Int × Int × Int × Bool × (List (Int × (List Int))) × (List Int))) : ref17_Check x0 x1 x2 =
  (ref17_in x0 1 7).bind fun val0 =>
  bif !val0
    then some (1)
    else (ref17_in x1 1 7).bind fun val4 =>
      bif !val4
        then some (1)
        else bif x0 == x1
          then some (1)
          else bif decide (ilen x2 > 256)
            then some (6)
            else ref17_Check_l0 (0) (x0) (x1) (x2) := (ref17_Check_raw x0 x1 x2).trans (by kernel_rfl)
theorem ref17_Check_l0_eq (y0 : Int) (y1 : Int) (y2 : Int) (y3 : List ((Int) × ((Int) × ((Int) × ((Int) × ((Int) × ((Int) × ((Int) × ((Int) × ((Bool) × ((List ((Int) × (List (Int)))) × (List (Int))))))))))))) : ref17_Check_l0 y0 y1 y2 y3 =
  bif decide (y0 < ilen y3)
  then bif decide (0 ≤ y0)
    then (y3[y0.toNat]?).bind fun val4 =>
      bif val4.snd.snd.fst != y1
        then some (1)
        else bif decide (0 ≤ y0)
          then (y3[y0.toNat]?).bind fun val10 =>
            bif val10.snd.snd.snd.fst != y2
              then some (1)
              else bif decide (0 ≤ y0)
                then (y3[y0.toNat]?).bind fun val16 =>
                  (ref17_Msg val16.fst val16.snd.fst val16.snd.snd.fst val16.snd.snd.snd.fst val16.snd.snd.snd.snd.fst val16.snd.snd.snd.snd.snd.fst val16.snd.snd.snd.snd.snd.snd.fst val16.snd.snd.snd.snd.snd.snd.snd.fst val16.snd.snd.snd.snd.snd.snd.snd.snd.fst val16.snd.snd.snd.snd.snd.snd.snd.snd.snd.fst val16.snd.snd.snd.snd.snd.snd.snd.snd.snd.snd).bind fun val18 =>
                    bif !val18
                      then some (1)
                      else ref17_Check_l0 (IntKind.i64.wrap (y0 + 1)) (y1) (y2) (y3)
                else none
          else none
    else none
  else some (0) := (loopAt_step _ _ _ _ _ _ _).trans (by kernel_rfl)
noncomputable def ref17_Check_sig : Sig := { pm := [(true, [(false, .int .i64), (false, .int .i64), (false, .slice (.pair (.int .i64) (.pair (.int .i64) (.pair (.int .i64) (.pair (.int .i64) (.pair (.int .i64) (.pair (.int .i64) (.pair (.int .i64) (.pair (.int .i64) (.pair (.bool) (.pair (.slice (.pair (.int .i64) (.slice (.int .u8)))) (.slice (.int .u8)))))))))))))])], rm := [(false, [(false, .int .i64)])], f := fun | [⟨.int .i64, x0⟩, ⟨.int .i64, x1⟩, ⟨.slice (.pair (.int .i64) (.pair (.int .i64) (.pair (.int .i64) (.pair (.int .i64) (.pair (.int .i64) (.pair (.int .i64) (.pair (.int .i64) (.pair (.int .i64) (.pair (.bool) (.pair (.slice (.pair (.int .i64) (.slice (.int .u8)))) (.slice (.int .u8)))))))))))), x2⟩] => .yes _ (ref17_Check x0 x1 x2) ref17_Check_mk | _ => .no }
theorem ref17_Check_ok : SigOk Try.prog 14 ref17_Check_sig := by
  refine contract_of (C := ref17_Check_C) (d := 3) ⟨S32_ok, P22_ok⟩ (callable_ex (by kernel_rfl)) ?_
  intro dvs
  unfold ref17_Check_sig
  dsimp only
  split
  · refine .inr ⟨_, ref17_Check_un, ref17_Check_mk, congrArg (fun o => Cl.yes _ o _) (ref17_Check_raw _ _ _), ?_⟩
    intro ds x h
    unfold ref17_Check_un at h
    split at h
    · cases h; rfl
    · cases h
  · exact .inl rfl
noncomputable def S33 : List (Nat × Sig) := (14, ref17_Check_sig) :: S32
theorem S33_ok : ListOk Try.prog S33 := ListOk.cons S32_ok ref17_Check_ok
noncomputable def ref02_Uint_C : Cfg := { P := Try.prog, sig := lookSig S33, hb := fun f b =>  bif Nat.beq f 40 && Nat.beq b 0 then some { tmps := [3, 4], obs := [60], nils := [(3, 60, (.int .u8))], kl := [212, 204, 60] } else none, hr := fun _ _ => none, ps := lookSig P22 }
noncomputable def ref02_Uint_un : List DV → Option ((List Int)) := fun | [⟨.slice (.int .u8), r0⟩] => some r0 | _ => none
noncomputable def ref02_Uint_mk : (List Int) → List DV := fun r0 => [⟨.slice (.int .u8), r0⟩]
theorem ref02_Uint_ex : ∃ f : (Int) → Option ((List Int)), f = fun (x0 : Int) => funRun ref02_Uint_C 3 40 [(false, [(false, .int .u64)])] [(false, [(true, .slice (.int .u8))])] ref02_Uint_un [⟨.int .u64, x0⟩] := ⟨_, rfl⟩
noncomputable def ref02_Uint : (Int) → Option ((List Int)) := ref02_Uint_ex.choose
theorem ref02_Uint_raw (x0 : Int) : ref02_Uint x0 = funRun ref02_Uint_C 3 40 [(false, [(false, .int .u64)])] [(false, [(true, .slice (.int .u8))])] ref02_Uint_un [⟨.int .u64, x0⟩] := congrFun (ref02_Uint_ex.choose_spec) x0
noncomputable def ref02_Uint_l0 (y0 : Int) (y1 : List (Int)) : Option ((List Int)) := loopAt ref02_Uint_C 3 40 [(false, [(true, .slice (.int .u8))])] ref02_Uint_un [true, true, true, false, false] (St.ofLists [(3, .ow 60), (4, .int .u64 y0)] [(60, some (.row (Ty.int IntKind.u8) y1 0 false))] [212, 204, 60])
theorem ref02_Uint_eq (x0 : Int) : ref02_Uint x0 =
  ref02_Uint_l0 (x0) ([]) := (ref02_Uint_raw x0).trans (by kernel_rfl)
theorem ref02_Uint_l0_eq (y0 : Int) (y1 : List (Int)) : ref02_Uint_l0 y0 y1 =
  bif decide (y0 > 127)
  then bif decide ((ilen y1 + ilen [IntKind.u8.wrap (IntKind.u64.wrap (128 + y0.tmod 128))]) * 1 ≤ room)
    then ref02_Uint_l0 (IntKind.u64.wrap (y0.tdiv 128)) (y1 ++ [IntKind.u8.wrap (IntKind.u64.wrap (128 + y0.tmod 128))])
    else none
  else bif decide ((ilen y1 + ilen [IntKind.u8.wrap y0]) * 1 ≤ room)
    then some (y1 ++ [IntKind.u8.wrap y0])
    else none := (loopAt_step _ _ _ _ _ _ _).trans (by kernel_rfl)
noncomputable def ref02_Uint_sig : Sig := { pm := [(false, [(false, .int .u64)])], rm := [(false, [(true, .slice (.int .u8))])], f := fun | [⟨.int .u64, x0⟩] => .yes _ (ref02_Uint x0) ref02_Uint_mk | _ => .no }
theorem ref02_Uint_ok : SigOk Try.prog 40 ref02_Uint_sig := by
  refine contract_of (C := ref02_Uint_C) (d := 3) ⟨S33_ok, P22_ok⟩ (callable_ex (by kernel_rfl)) ?_
  intro dvs
  unfold ref02_Uint_sig
  dsimp only
  split
  · refine .inr ⟨_, ref02_Uint_un, ref02_Uint_mk, congrArg (fun o => Cl.yes _ o _) (ref02_Uint_raw _), ?_⟩
    intro ds x h
    unfold ref02_Uint_un at h
    split at h
    · cases h; rfl
    · cases h
  · exact .inl rfl
noncomputable def S34 : List (Nat × Sig) := (40, ref02_Uint_sig) :: S33
theorem S34_ok : ListOk Try.prog S34 := ListOk.cons S33_ok ref02_Uint_ok
noncomputable def ref17_nums_C : Cfg := { P := Try.prog, sig := lookSig S34, hb := fun f b =>  bif Nat.beq f 26 && Nat.beq b 0 then some { tmps := [0, 3, 4], obs := [60], nils := [(3, 60, (.int .u8))], kl := [244, 236, 60] } else none, hr := fun _ _ => none, ps := lookSig P22 }
noncomputable def ref17_nums_un : List DV → Option ((List Int)) := fun | [⟨.slice (.int .u8), r0⟩] => some r0 | _ => none
noncomputable def ref17_nums_mk : (List Int) → List DV := fun r0 => [⟨.slice (.int .u8), r0⟩]
theorem ref17_nums_ex : ∃ f : (List Int) → Option ((List Int)), f = fun (x0 : List Int) => funRun ref17_nums_C 3 26 [(false, [(false, .slice (.int .i64))])] [(false, [(true, .slice (.int .u8))])] ref17_nums_un [⟨.slice (.int .i64), x0⟩] := ⟨_, rfl⟩
noncomputable def ref17_nums : (List Int) → Option ((List Int)) := ref17_nums_ex.choose
theorem ref17_nums_raw (x0 : List Int) : ref17_nums x0 = funRun ref17_nums_C 3 26 [(false, [(false, .slice (.int .i64))])] [(false, [(true, .slice (.int .u8))])] ref17_nums_un [⟨.slice (.int .i64), x0⟩] := congrFun (ref17_nums_ex.choose_spec) x0
noncomputable def ref17_nums_l0 (y0 : List (Int)) (y1 : Int) (y2 : List (Int)) : Option ((List Int)) := loopAt ref17_nums_C 3 26 [(false, [(true, .slice (.int .u8))])] ref17_nums_un [true, true, false, true, false] (St.ofLists [(0, .fz (Ty.int IntKind.i64) y0 false false), (3, .ow 60), (4, .int .i64 y1)] [(60, some (.row (Ty.int IntKind.u8) y2 0 false))] [244, 236, 60])
theorem ref17_nums_eq (x0 : List Int) : ref17_nums x0 =
  ref17_nums_l0 (x0) (0) ([]) := (ref17_nums_raw x0).trans (by kernel_rfl)
theorem ref17_nums_l0_eq (y0 : List (Int)) (y1 : Int) (y2 : List (Int)) : ref17_nums_l0 y0 y1 y2 =
  bif decide (y1 < ilen y0)
  then bif decide (0 ≤ y1)
    then (y0[y1.toNat]?).bind fun val4 =>
      (ref02_Uint (IntKind.u64.wrap val4)).bind fun val6 =>
        bif decide ((ilen y2 + ilen val6) * 1 ≤ room)
          then ref17_nums_l0 (y0) (IntKind.i64.wrap (y1 + 1)) (y2 ++ val6)
          else none
    else none
  else some (y2) := (loopAt_step _ _ _ _ _ _ _).trans (by kernel_rfl)
noncomputable def ref17_nums_sig : Sig := { pm := [(false, [(false, .slice (.int .i64))])], rm := [(false, [(true, .slice (.int .u8))])], f := fun | [⟨.slice (.int .i64), x0⟩] => .yes _ (ref17_nums x0) ref17_nums_mk | _ => .no }
theorem ref17_nums_ok : SigOk Try.prog 26 ref17_nums_sig := by
  refine contract_of (C := ref17_nums_C) (d := 3) ⟨S34_ok, P22_ok⟩ (callable_ex (by kernel_rfl)) ?_
  intro dvs
  unfold ref17_nums_sig
  dsimp only
  split
  · refine .inr ⟨_, ref17_nums_un, ref17_nums_mk, congrArg (fun o => Cl.yes _ o _) (ref17_nums_raw _), ?_⟩
    intro ds x h
    unfold ref17_nums_un at h
    split at h
    · cases h; rfl
    · cases h
  · exact .inl rfl
noncomputable def S35 : List (Nat × Sig) := (26, ref17_nums_sig) :: S34
theorem S35_ok : ListOk Try.prog S35 := ListOk.cons S34_ok ref17_nums_ok
noncomputable def ref02_Bytes_C : Cfg := { P := Try.prog, sig := lookSig S35, hb := fun _ _ => none, hr := fun _ _ => none, ps := lookSig P22 }
noncomputable def ref02_Bytes_un : List DV → Option ((List Int)) := fun | [⟨.slice (.int .u8), r0⟩] => some r0 | _ => none
noncomputable def ref02_Bytes_mk : (List Int) → List DV := fun r0 => [⟨.slice (.int .u8), r0⟩]
theorem ref02_Bytes_ex : ∃ f : (List Int) → Option ((List Int)), f = fun (x0 : List Int) => funRun ref02_Bytes_C 3 41 [(false, [(false, .slice (.int .u8))])] [(false, [(true, .slice (.int .u8))])] ref02_Bytes_un [⟨.slice (.int .u8), x0⟩] := ⟨_, rfl⟩
noncomputable def ref02_Bytes : (List Int) → Option ((List Int)) := ref02_Bytes_ex.choose
theorem ref02_Bytes_raw (x0 : List Int) : ref02_Bytes x0 = funRun ref02_Bytes_C 3 41 [(false, [(false, .slice (.int .u8))])] [(false, [(true, .slice (.int .u8))])] ref02_Bytes_un [⟨.slice (.int .u8), x0⟩] := congrFun (ref02_Bytes_ex.choose_spec) x0
theorem ref02_Bytes_eq (x0 : List Int) : ref02_Bytes x0 =
  (ref02_Uint (IntKind.u64.wrap (ilen x0))).bind fun val0 =>
  bif decide ((ilen val0 + ilen x0) * 1 ≤ room)
    then some (val0 ++ x0)
    else none := (ref02_Bytes_raw x0).trans (by kernel_rfl)
noncomputable def ref02_Bytes_sig : Sig := { pm := [(false, [(false, .slice (.int .u8))])], rm := [(false, [(true, .slice (.int .u8))])], f := fun | [⟨.slice (.int .u8), x0⟩] => .yes _ (ref02_Bytes x0) ref02_Bytes_mk | _ => .no }
theorem ref02_Bytes_ok : SigOk Try.prog 41 ref02_Bytes_sig := by
  refine contract_of (C := ref02_Bytes_C) (d := 3) ⟨S35_ok, P22_ok⟩ (callable_ex (by kernel_rfl)) ?_
  intro dvs
  unfold ref02_Bytes_sig
  dsimp only
  split
  · refine .inr ⟨_, ref02_Bytes_un, ref02_Bytes_mk, congrArg (fun o => Cl.yes _ o _) (ref02_Bytes_raw _), ?_⟩
    intro ds x h
    unfold ref02_Bytes_un at h
    split at h
    · cases h; rfl
    · cases h
  · exact .inl rfl
noncomputable def S36 : List (Nat × Sig) := (41, ref02_Bytes_sig) :: S35
theorem S36_ok : ListOk Try.prog S36 := ListOk.cons S35_ok ref02_Bytes_ok
noncomputable def ref17_one_C : Cfg := { P := Try.prog, sig := lookSig S36, hb := fun f b =>  bif Nat.beq f 27 && Nat.beq b 0 then some { tmps := [1, 4, 5], obs := [108, 300], nils := [], kl := [300, 292, 108, 500, 428, 420] } else none, hr := fun _ _ => none, ps := lookSig P22 }
noncomputable def ref17_one_un : List DV → Option ((List Int)) := fun | [⟨.slice (.int .u8), r0⟩] => some r0 | _ => none
noncomputable def ref17_one_mk : (List Int) → List DV := fun r0 => [⟨.slice (.int .u8), r0⟩]
theorem ref17_one_ex : ∃ f : (Int) → (Int) → (Int) → (Int) → (Int) → (Int) → (Int) → (Int) → (Bool) → (List (Int × (List Int))) → (List Int) → Option ((List Int)), f = fun (x0 : Int) (x1 : Int) (x2 : Int) (x3 : Int) (x4 : Int) (x5 : Int) (x6 : Int) (x7 : Int) (x8 : Bool) (x9 : List (Int × (List Int))) (x10 : List Int) => funRun ref17_one_C 3 27 [(true, [(false, .int .i64), (false, .int .i64), (false, .int .i64), (false, .int .i64), (false, .int .i64), (false, .int .i64), (false, .int .i64), (false, .int .i64), (false, .bool), (false, .slice (.pair (.int .i64) (.slice (.int .u8)))), (false, .slice (.int .u8))])] [(false, [(true, .slice (.int .u8))])] ref17_one_un [⟨.int .i64, x0⟩, ⟨.int .i64, x1⟩, ⟨.int .i64, x2⟩, ⟨.int .i64, x3⟩, ⟨.int .i64, x4⟩, ⟨.int .i64, x5⟩, ⟨.int .i64, x6⟩, ⟨.int .i64, x7⟩, ⟨.bool, x8⟩, ⟨.slice (.pair (.int .i64) (.slice (.int .u8))), x9⟩, ⟨.slice (.int .u8), x10⟩] := ⟨_, rfl⟩
noncomputable def ref17_one : (Int) → (Int) → (Int) → (Int) → (Int) → (Int) → (Int) → (Int) → (Bool) → (List (Int × (List Int))) → (List Int) → Option ((List Int)) := ref17_one_ex.choose
theorem ref17_one_raw (x0 : Int) (x1 : Int) (x2 : Int) (x3 : Int) (x4 : Int) (x5 : Int) (x6 : Int) (x7 : Int) (x8 : Bool) (x9 : List (Int × (List Int))) (x10 : List Int) : ref17_one x0 x1 x2 x3 x4 x5 x6 x7 x8 x9 x10 = funRun ref17_one_C 3 27 [(true, [(false, .int .i64), (false, .int .i64), (false, .int .i64), (false, .int .i64), (false, .int .i64), (false, .int .i64), (false, .int .i64), (false, .int .i64), (false, .bool), (false, .slice (.pair (.int .i64) (.slice (.int .u8)))), (false, .slice (.int .u8))])] [(false, [(true, .slice (.int .u8))])] ref17_one_un [⟨.int .i64, x0⟩, ⟨.int .i64, x1⟩, ⟨.int .i64, x2⟩, ⟨.int .i64, x3⟩, ⟨.int .i64, x4⟩, ⟨.int .i64, x5⟩, ⟨.int .i64, x6⟩, ⟨.int .i64, x7⟩, ⟨.bool, x8⟩, ⟨.slice (.pair (.int .i64) (.slice (.int .u8))), x9⟩, ⟨.slice (.int .u8), x10⟩] := congrFun (congrFun (congrFun (congrFun (congrFun (congrFun (congrFun (congrFun (congrFun (congrFun (congrFun (ref17_one_ex.choose_spec) x0) x1) x2) x3) x4) x5) x6) x7) x8) x9) x10
noncomputable def ref17_one_l0 (y0 : Int) (y1 : Int) (y2 : Int) (y3 : Int) (y4 : Int) (y5 : Int) (y6 : Int) (y7 : Int) (y8 : Int) (y9 : Bool) (y10 : List ((Int) × (List (Int)))) (y11 : List (Int)) (y12 : List (Int)) : Option ((List Int)) := loopAt ref17_one_C 3 27 [(false, [(true, .slice (.int .u8))])] ref17_one_un [true, true, true, true, false, true, false] (St.ofLists [(1, .ptr 108 0), (4, .ow 300), (5, .int .i64 y0)] [(108, some (.cells [.int .i64 y1, .int .i64 y2, .int .i64 y3, .int .i64 y4, .int .i64 y5, .int .i64 y6, .int .i64 y7, .int .i64 y8, .bool y9, .fz ((Ty.int IntKind.i64).pair (Ty.int IntKind.u8).slice) y10 false false, .fz (Ty.int IntKind.u8) y11 false false])), (300, some (.row (Ty.int IntKind.u8) y12 0 false))] [300, 292, 108, 500, 428, 420])
theorem ref17_one_eq (x0 : Int) (x1 : Int) (x2 : Int) (x3 : Int) (x4 : Int) (x5 : Int) (x6 : Int) (x7 : Int) (x8 : Bool) (x9 : List (Int × (List Int))) (x10 : List Int) : ref17_one x0 x1 x2 x3 x4 x5 x6 x7 x8 x9 x10 =
  bif x8
  then (ref17_nums [x0, x1, x4, x5, x6, x7, 1, ilen x9]).bind fun val2 =>
    ref17_one_l0 (0) (x0) (x1) (x2) (x3) (x4) (x5) (x6) (x7) (x8) (x9) (x10) (val2)
  else (ref17_nums [x0, x1, x4, x5, x6, x7, 0, ilen x9]).bind fun val2 =>
    ref17_one_l0 (0) (x0) (x1) (x2) (x3) (x4) (x5) (x6) (x7) (x8) (x9) (x10) (val2) := (ref17_one_raw x0 x1 x2 x3 x4 x5 x6 x7 x8 x9 x10).trans (by kernel_rfl)
theorem ref17_one_l0_eq (y0 : Int) (y1 : Int) (y2 : Int) (y3 : Int) (y4 : Int) (y5 : Int) (y6 : Int) (y7 : Int) (y8 : Int) (y9 : Bool) (y10 : List ((Int) × (List (Int)))) (y11 : List (Int)) (y12 : List (Int)) : ref17_one_l0 y0 y1 y2 y3 y4 y5 y6 y7 y8 y9 y10 y11 y12 =
  bif decide (y0 < ilen y10)
  then bif decide (0 ≤ y0)
    then (y10[y0.toNat]?).bind fun val4 =>
      (ref17_nums [val4.fst]).bind fun val6 =>
        bif decide ((ilen y12 + ilen val6) * 1 ≤ room)
          then bif decide (0 ≤ y0)
            then (y10[y0.toNat]?).bind fun val12 =>
              (ref02_Bytes val12.snd).bind fun val14 =>
                bif decide ((ilen (y12 ++ val6) + ilen val14) * 1 ≤ room)
                  then ref17_one_l0 (IntKind.i64.wrap (y0 + 1)) (y1) (y2) (y3) (y4) (y5) (y6) (y7) (y8) (y9) (y10) (y11) (y12 ++ val6 ++ val14)
                  else none
            else none
          else none
    else none
  else (ref02_Bytes y11).bind fun val2 =>
    bif decide ((ilen y12 + ilen val2) * 1 ≤ room)
      then some (y12 ++ val2)
      else none := (loopAt_step _ _ _ _ _ _ _).trans (by kernel_rfl)
noncomputable def ref17_one_sig : Sig := { pm := [(true, [(false, .int .i64), (false, .int .i64), (false, .int .i64), (false, .int .i64), (false, .int .i64), (false, .int .i64), (false, .int .i64), (false, .int .i64), (false, .bool), (false, .slice (.pair (.int .i64) (.slice (.int .u8)))), (false, .slice (.int .u8))])], rm := [(false, [(true, .slice (.int .u8))])], f := fun | [⟨.int .i64, x0⟩, ⟨.int .i64, x1⟩, ⟨.int .i64, x2⟩, ⟨.int .i64, x3⟩, ⟨.int .i64, x4⟩, ⟨.int .i64, x5⟩, ⟨.int .i64, x6⟩, ⟨.int .i64, x7⟩, ⟨.bool, x8⟩, ⟨.slice (.pair (.int .i64) (.slice (.int .u8))), x9⟩, ⟨.slice (.int .u8), x10⟩] => .yes _ (ref17_one x0 x1 x2 x3 x4 x5 x6 x7 x8 x9 x10) ref17_one_mk | _ => .no }
theorem ref17_one_ok : SigOk Try.prog 27 ref17_one_sig := by
  refine contract_of (C := ref17_one_C) (d := 3) ⟨S36_ok, P22_ok⟩ (callable_ex (by kernel_rfl)) ?_
  intro dvs
  unfold ref17_one_sig
  dsimp only
  split
  · refine .inr ⟨_, ref17_one_un, ref17_one_mk, congrArg (fun o => Cl.yes _ o _) (ref17_one_raw _ _ _ _ _ _ _ _ _ _ _), ?_⟩
    intro ds x h
    unfold ref17_one_un at h
    split at h
    · cases h; rfl
    · cases h
  · exact .inl rfl
noncomputable def S37 : List (Nat × Sig) := (27, ref17_one_sig) :: S36
theorem S37_ok : ListOk Try.prog S37 := ListOk.cons S36_ok ref17_one_ok
noncomputable def ref01_bits_C : Cfg := { P := Try.prog, sig := lookSig S37, hb := fun f b =>  bif Nat.beq f 48 && Nat.beq b 0 then some { tmps := [0, 3, 4], obs := [61], nils := [(3, 61, (.int .u8))], kl := [300, 292, 61, 60, 60] } else bif Nat.beq f 48 && Nat.beq b 2 then some { tmps := [0, 3, 4, 5], obs := [60], nils := [(3, 60, (.int .u8))], kl := [300, 292, 60, 61] } else none, hr := fun _ _ => none, ps := lookSig P22 }
noncomputable def ref01_bits_un : List DV → Option ((List Int)) := fun | [⟨.slice (.int .u8), r0⟩] => some r0 | _ => none
noncomputable def ref01_bits_mk : (List Int) → List DV := fun r0 => [⟨.slice (.int .u8), r0⟩]
theorem ref01_bits_ex : ∃ f : (List Int) → Option ((List Int)), f = fun (x0 : List Int) => funRun ref01_bits_C 3 48 [(false, [(false, .slice (.int .u8))])] [(false, [(true, .slice (.int .u8))])] ref01_bits_un [⟨.slice (.int .u8), x0⟩] := ⟨_, rfl⟩
noncomputable def ref01_bits : (List Int) → Option ((List Int)) := ref01_bits_ex.choose
theorem ref01_bits_raw (x0 : List Int) : ref01_bits x0 = funRun ref01_bits_C 3 48 [(false, [(false, .slice (.int .u8))])] [(false, [(true, .slice (.int .u8))])] ref01_bits_un [⟨.slice (.int .u8), x0⟩] := congrFun (ref01_bits_ex.choose_spec) x0
noncomputable def ref01_bits_l0 (y0 : List (Int)) (y1 : Int) (y2 : List (Int)) : Option ((List Int)) := loopAt ref01_bits_C 3 48 [(false, [(true, .slice (.int .u8))])] ref01_bits_un [true, true, false, true, false] (St.ofLists [(0, .fz (Ty.int IntKind.u8) y0 false false), (3, .ow 61), (4, .int .i64 y1)] [(61, some (.row (Ty.int IntKind.u8) y2 0 false))] [300, 292, 61, 60, 60])
noncomputable def ref01_bits_l2 (y0 : List (Int)) (y1 : Int) (y2 : Int) (y3 : List (Int)) : Option ((List Int)) := loopAt ref01_bits_C 3 48 [(false, [(true, .slice (.int .u8))])] ref01_bits_un [true, true, false, true, false, false, true, false, false, true, false] (St.ofLists [(0, .fz (Ty.int IntKind.u8) y0 false false), (3, .ow 60), (4, .int .i64 y1), (5, .int .i64 y2)] [(60, some (.row (Ty.int IntKind.u8) y3 0 false))] [300, 292, 60, 61])
theorem ref01_bits_eq (x0 : List Int) : ref01_bits x0 =
  ref01_bits_l0 (x0) (0) ([]) := (ref01_bits_raw x0).trans (by kernel_rfl)
theorem ref01_bits_l0_eq (y0 : List (Int)) (y1 : Int) (y2 : List (Int)) : ref01_bits_l0 y0 y1 y2 =
  bif decide (y1 < ilen y0)
  then ref01_bits_l2 (y0) (y1) (0) (y2)
  else some (y2) := (loopAt_step _ _ _ _ _ _ _).trans (by kernel_rfl)
theorem ref01_bits_l2_eq (y0 : List (Int)) (y1 : Int) (y2 : Int) (y3 : List (Int)) : ref01_bits_l2 y0 y1 y2 y3 =
  bif decide (y2 < 8)
  then bif decide (0 ≤ y1)
    then (y0[y1.toNat]?).bind fun val4 =>
      bif decide (y2 < 0)
        then none
        else bif decide ((ilen y3 + ilen [IntKind.u8.wrap ↑(BitVec.ofInt IntKind.u8.bits (Int.fdiv val4 (2 ^ min y2.toNat IntKind.u8.bits)) &&& BitVec.ofInt IntKind.u8.bits 1).toNat]) * 1 ≤ room)
          then ref01_bits_l2 (y0) (y1) (IntKind.i64.wrap (y2 + 1)) (y3 ++ [IntKind.u8.wrap ↑(BitVec.ofInt IntKind.u8.bits (Int.fdiv val4 (2 ^ min y2.toNat IntKind.u8.bits)) &&& BitVec.ofInt IntKind.u8.bits 1).toNat])
          else none
    else none
  else ref01_bits_l0 (y0) (IntKind.i64.wrap (y1 + 1)) (y3) := (loopAt_step _ _ _ _ _ _ _).trans (by kernel_rfl)
noncomputable def ref01_bits_sig : Sig := { pm := [(false, [(false, .slice (.int .u8))])], rm := [(false, [(true, .slice (.int .u8))])], f := fun | [⟨.slice (.int .u8), x0⟩] => .yes _ (ref01_bits x0) ref01_bits_mk | _ => .no }
theorem ref01_bits_ok : SigOk Try.prog 48 ref01_bits_sig := by
  refine contract_of (C := ref01_bits_C) (d := 3) ⟨S37_ok, P22_ok⟩ (callable_ex (by kernel_rfl)) ?_
  intro dvs
  unfold ref01_bits_sig
  dsimp only
  split
  · refine .inr ⟨_, ref01_bits_un, ref01_bits_mk, congrArg (fun o => Cl.yes _ o _) (ref01_bits_raw _), ?_⟩
    intro ds x h
    unfold ref01_bits_un at h
    split at h
    · cases h; rfl
    · cases h
  · exact .inl rfl
noncomputable def S38 : List (Nat × Sig) := (48, ref01_bits_sig) :: S37
theorem S38_ok : ListOk Try.prog S38 := ListOk.cons S37_ok ref01_bits_ok
noncomputable def ref01_Sum_C : Cfg := { P := Try.prog, sig := lookSig S38, hb := fun f b =>  bif Nat.beq f 37 && Nat.beq b 0 then some { tmps := [3, 4], obs := [196], nils := [], kl := [196, 244] } else bif Nat.beq f 37 && Nat.beq b 2 then some { tmps := [3, 5], obs := [196], nils := [], kl := [196, 244] } else bif Nat.beq f 37 && Nat.beq b 4 then some { tmps := [3, 6, 7], obs := [196], nils := [], kl := [196, 244] } else bif Nat.beq f 37 && Nat.beq b 6 then some { tmps := [3, 6, 7, 8], obs := [196], nils := [], kl := [196, 244] } else bif Nat.beq f 37 && Nat.beq b 8 then some { tmps := [3, 9, 10], obs := [196], nils := [], kl := [196, 244] } else none, hr := fun _ _ => none, ps := lookSig P22 }
noncomputable def ref01_Sum_un : List DV → Option (Int) := fun | [⟨.int .u32, r0⟩] => some r0 | _ => none
noncomputable def ref01_Sum_mk : Int → List DV := fun r0 => [⟨.int .u32, r0⟩]
theorem ref01_Sum_ex : ∃ f : (List Int) → Option (Int), f = fun (x0 : List Int) => funRun ref01_Sum_C 3 37 [(false, [(false, .slice (.int .u8))])] [(false, [(false, .int .u32)])] ref01_Sum_un [⟨.slice (.int .u8), x0⟩] := ⟨_, rfl⟩
noncomputable def ref01_Sum : (List Int) → Option (Int) := ref01_Sum_ex.choose
theorem ref01_Sum_raw (x0 : List Int) : ref01_Sum x0 = funRun ref01_Sum_C 3 37 [(false, [(false, .slice (.int .u8))])] [(false, [(false, .int .u32)])] ref01_Sum_un [⟨.slice (.int .u8), x0⟩] := congrFun (ref01_Sum_ex.choose_spec) x0
noncomputable def ref01_Sum_l0 (y0 : Int) (y1 : List (Int)) : Option (Int) := loopAt ref01_Sum_C 3 37 [(false, [(false, .int .u32)])] ref01_Sum_un [true, true, false, true, false] (St.ofLists [(3, .ow 196), (4, .int .i64 y0)] [(196, some (.row (Ty.int IntKind.u8) y1 0 false))] [196, 244])
noncomputable def ref01_Sum_l2 (y0 : Int) (y1 : List (Int)) : Option (Int) := loopAt ref01_Sum_C 3 37 [(false, [(false, .int .u32)])] ref01_Sum_un [true, true, true, false, true, false] (St.ofLists [(3, .ow 196), (5, .int .i64 y0)] [(196, some (.row (Ty.int IntKind.u8) y1 0 false))] [196, 244])
noncomputable def ref01_Sum_l4 (y0 : Int) (y1 : Int) (y2 : List (Int)) : Option (Int) := loopAt ref01_Sum_C 3 37 [(false, [(false, .int .u32)])] ref01_Sum_un [true, true, true, true, true, false, true, false] (St.ofLists [(3, .ow 196), (6, .int .u64 y0), (7, .int .i64 y1)] [(196, some (.row (Ty.int IntKind.u8) y2 0 false))] [196, 244])
noncomputable def ref01_Sum_l6 (y0 : Int) (y1 : Int) (y2 : Int) (y3 : List (Int)) : Option (Int) := loopAt ref01_Sum_C 3 37 [(false, [(false, .int .u32)])] ref01_Sum_un [true, true, true, true, true, false, true, false, false, true, false, false, true, true, false] (St.ofLists [(3, .ow 196), (6, .int .u64 y0), (7, .int .i64 y1), (8, .int .i64 y2)] [(196, some (.row (Ty.int IntKind.u8) y3 0 false))] [196, 244])
noncomputable def ref01_Sum_l8 (y0 : Int) (y1 : Int) (y2 : List (Int)) : Option (Int) := loopAt ref01_Sum_C 3 37 [(false, [(false, .int .u32)])] ref01_Sum_un [true, true, true, true, true, true, true, false, true, false] (St.ofLists [(3, .ow 196), (9, .int .u32 y0), (10, .int .i64 y1)] [(196, some (.row (Ty.int IntKind.u8) y2 0 false))] [196, 244])
theorem ref01_Sum_eq (x0 : List Int) : ref01_Sum x0 =
  (ref01_bits x0).bind fun val0 =>
  ref01_Sum_l0 (0) (val0) := (ref01_Sum_raw x0).trans (by kernel_rfl)
theorem ref01_Sum_l0_eq (y0 : Int) (y1 : List (Int)) : ref01_Sum_l0 y0 y1 =
  bif decide (y0 < 32)
  then bif decide ((ilen y1 + ilen [0]) * 1 ≤ room)
    then ref01_Sum_l0 (IntKind.i64.wrap (y0 + 1)) (y1 ++ [0])
    else none
  else ref01_Sum_l2 (0) (y1) := (loopAt_step _ _ _ _ _ _ _).trans (by kernel_rfl)
theorem ref01_Sum_l2_eq (y0 : Int) (y1 : List (Int)) : ref01_Sum_l2 y0 y1 =
  bif decide (y0 < 32)
  then bif decide (0 ≤ y0)
    then bif decide (y0 < ilen y1)
      then (y1[y0.toNat]?).bind fun val6 =>
        bif decide (0 ≤ y0)
          then bif decide (y0 < ilen y1)
            then (y1[y0.toNat]?).bind fun val12 =>
              ref01_Sum_l2 (IntKind.i64.wrap (y0 + 1)) (y1.set y0.toNat (IntKind.u8.wrap (1 - val6)))
            else none
          else none
      else none
    else none
  else ref01_Sum_l4 (4374732215) (0) (y1) := (loopAt_step _ _ _ _ _ _ _).trans (by kernel_rfl)
theorem ref01_Sum_l4_eq (y0 : Int) (y1 : Int) (y2 : List (Int)) : ref01_Sum_l4 y0 y1 y2 =
  bif decide (IntKind.i64.wrap (y1 + 32) < ilen y2)
  then bif decide (0 ≤ y1)
    then bif decide (y1 < ilen y2)
      then (y2[y1.toNat]?).bind fun val6 =>
        bif val6 == 0
          then ref01_Sum_l4 (y0) (IntKind.i64.wrap (y1 + 1)) (y2)
          else ref01_Sum_l6 (y0) (y1) (0) (y2)
      else none
    else none
  else ref01_Sum_l8 (0) (0) (y2) := (loopAt_step _ _ _ _ _ _ _).trans (by kernel_rfl)
theorem ref01_Sum_l6_eq (y0 : Int) (y1 : Int) (y2 : Int) (y3 : List (Int)) : ref01_Sum_l6 y0 y1 y2 y3 =
  bif decide (y2 ≤ 32)
  then bif decide (0 ≤ IntKind.i64.wrap (y1 + y2))
    then bif decide (IntKind.i64.wrap (y1 + y2) < ilen y3)
      then (y3[(IntKind.i64.wrap (y1 + y2)).toNat]?).bind fun val6 =>
        bif decide (IntKind.i64.wrap (32 - y2) < 0)
          then none
          else bif decide (0 ≤ IntKind.i64.wrap (y1 + y2))
            then bif decide (IntKind.i64.wrap (y1 + y2) < ilen y3)
              then (y3[(IntKind.i64.wrap (y1 + y2)).toNat]?).bind fun val14 =>
                ref01_Sum_l6 (y0) (y1) (IntKind.i64.wrap (y2 + 1)) (y3.set (IntKind.i64.wrap (y1 + y2)).toNat (IntKind.u8.wrap ↑(BitVec.ofInt IntKind.u8.bits val6 ^^^ BitVec.ofInt IntKind.u8.bits (IntKind.u8.wrap (IntKind.u64.wrap ↑(BitVec.ofInt IntKind.u64.bits (y0.fdiv (2 ^ min (IntKind.i64.wrap (32 - y2)).toNat IntKind.u64.bits)) &&& BitVec.ofInt IntKind.u64.bits 1).toNat))).toNat))
              else none
            else none
      else none
    else none
  else ref01_Sum_l4 (y0) (IntKind.i64.wrap (y1 + 1)) (y3) := (loopAt_step _ _ _ _ _ _ _).trans (by kernel_rfl)
theorem ref01_Sum_l8_eq (y0 : Int) (y1 : Int) (y2 : List (Int)) : ref01_Sum_l8 y0 y1 y2 =
  bif decide (y1 < 32)
  then bif decide (0 ≤ IntKind.i64.wrap (IntKind.i64.wrap (ilen y2 - 32) + y1))
    then bif decide (IntKind.i64.wrap (IntKind.i64.wrap (ilen y2 - 32) + y1) < ilen y2)
      then (y2[(IntKind.i64.wrap (IntKind.i64.wrap (ilen y2 - 32) + y1)).toNat]?).bind fun val6 =>
        bif val6 == 0
          then bif decide (y1 < 0)
            then none
            else ref01_Sum_l8 (IntKind.u32.wrap ↑(BitVec.ofInt IntKind.u32.bits y0 ||| BitVec.ofInt IntKind.u32.bits (IntKind.u32.wrap (1 * 2 ^ min y1.toNat IntKind.u32.bits))).toNat) (IntKind.i64.wrap (y1 + 1)) (y2)
          else ref01_Sum_l8 (y0) (IntKind.i64.wrap (y1 + 1)) (y2)
      else none
    else none
  else some (y0) := (loopAt_step _ _ _ _ _ _ _).trans (by kernel_rfl)
noncomputable def ref01_Sum_sig : Sig := { pm := [(false, [(false, .slice (.int .u8))])], rm := [(false, [(false, .int .u32)])], f := fun | [⟨.slice (.int .u8), x0⟩] => .yes _ (ref01_Sum x0) ref01_Sum_mk | _ => .no }
theorem ref01_Sum_ok : SigOk Try.prog 37 ref01_Sum_sig := by
  refine contract_of (C := ref01_Sum_C) (d := 3) ⟨S38_ok, P22_ok⟩ (callable_ex (by kernel_rfl)) ?_
  intro dvs
  unfold ref01_Sum_sig
  dsimp only
  split
  · refine .inr ⟨_, ref01_Sum_un, ref01_Sum_mk, congrArg (fun o => Cl.yes _ o _) (ref01_Sum_raw _), ?_⟩
    intro ds x h
    unfold ref01_Sum_un at h
    split at h
    · cases h; rfl
    · cases h
  · exact .inl rfl
noncomputable def S39 : List (Nat × Sig) := (37, ref01_Sum_sig) :: S38
theorem S39_ok : ListOk Try.prog S39 := ListOk.cons S38_ok ref01_Sum_ok
noncomputable def ref17_Seal_C : Cfg := { P := Try.prog, sig := lookSig S39, hb := fun _ _ => none, hr := fun _ _ => none, ps := lookSig P22 }
noncomputable def ref17_Seal_un : List DV → Option ((List Int)) := fun | [⟨.slice (.int .u8), r0⟩] => some r0 | _ => none
noncomputable def ref17_Seal_mk : (List Int) → List DV := fun r0 => [⟨.slice (.int .u8), r0⟩]
theorem ref17_Seal_ex : ∃ f : (List Int) → Option ((List Int)), f = fun (x0 : List Int) => funRun ref17_Seal_C 3 17 [(false, [(false, .slice (.int .u8))])] [(false, [(true, .slice (.int .u8))])] ref17_Seal_un [⟨.slice (.int .u8), x0⟩] := ⟨_, rfl⟩
noncomputable def ref17_Seal : (List Int) → Option ((List Int)) := ref17_Seal_ex.choose
theorem ref17_Seal_raw (x0 : List Int) : ref17_Seal x0 = funRun ref17_Seal_C 3 17 [(false, [(false, .slice (.int .u8))])] [(false, [(true, .slice (.int .u8))])] ref17_Seal_un [⟨.slice (.int .u8), x0⟩] := congrFun (ref17_Seal_ex.choose_spec) x0
theorem ref17_Seal_eq (x0 : List Int) : ref17_Seal x0 =
  (ref01_Sum x0).bind fun val0 =>
  bif decide ((0 + ilen x0) * 1 ≤ room)
    then bif decide ((ilen ([] ++ x0) + ilen [IntKind.u8.wrap (val0.tmod 256), IntKind.u8.wrap ((IntKind.u32.wrap (val0.tdiv 256)).tmod 256), IntKind.u8.wrap ((IntKind.u32.wrap (val0.tdiv 65536)).tmod 256), IntKind.u8.wrap (IntKind.u32.wrap (val0.tdiv 16777216))]) * 1 ≤ room)
      then some ([] ++ x0 ++ [IntKind.u8.wrap (val0.tmod 256), IntKind.u8.wrap ((IntKind.u32.wrap (val0.tdiv 256)).tmod 256), IntKind.u8.wrap ((IntKind.u32.wrap (val0.tdiv 65536)).tmod 256), IntKind.u8.wrap (IntKind.u32.wrap (val0.tdiv 16777216))])
      else none
    else none := (ref17_Seal_raw x0).trans (by kernel_rfl)
noncomputable def ref17_Seal_sig : Sig := { pm := [(false, [(false, .slice (.int .u8))])], rm := [(false, [(true, .slice (.int .u8))])], f := fun | [⟨.slice (.int .u8), x0⟩] => .yes _ (ref17_Seal x0) ref17_Seal_mk | _ => .no }
theorem ref17_Seal_ok : SigOk Try.prog 17 ref17_Seal_sig := by
  refine contract_of (C := ref17_Seal_C) (d := 3) ⟨S39_ok, P22_ok⟩ (callable_ex (by kernel_rfl)) ?_
  intro dvs
  unfold ref17_Seal_sig
  dsimp only
  split
  · refine .inr ⟨_, ref17_Seal_un, ref17_Seal_mk, congrArg (fun o => Cl.yes _ o _) (ref17_Seal_raw _), ?_⟩
    intro ds x h
    unfold ref17_Seal_un at h
    split at h
    · cases h; rfl
    · cases h
  · exact .inl rfl
noncomputable def S40 : List (Nat × Sig) := (17, ref17_Seal_sig) :: S39
theorem S40_ok : ListOk Try.prog S40 := ListOk.cons S39_ok ref17_Seal_ok
noncomputable def ref17_Put_C : Cfg := { P := Try.prog, sig := lookSig S40, hb := fun f b =>  bif Nat.beq f 11 && Nat.beq b 0 then some { tmps := [1, 5, 6], obs := [108, 260], nils := [], kl := [260, 252, 108, 372] } else none, hr := fun _ _ => none, ps := lookSig P22 }
noncomputable def ref17_Put_un : List DV → Option ((List Int) × Int) := fun | [⟨.slice (.int .u8), r0⟩, ⟨.int .i64, r1⟩] => some (r0, r1) | _ => none
noncomputable def ref17_Put_mk : ((List Int) × Int) → List DV := fun ⟨r0, r1⟩ => [⟨.slice (.int .u8), r0⟩, ⟨.int .i64, r1⟩]
theorem ref17_Put_ex : ∃ f : (Int) → (Int) → (List (Int × Int × Int × Int × Int × Int × Int × Int × Bool × (List (Int × (List Int))) × (List Int))) → Option ((List Int) × Int), f = fun (x0 : Int) (x1 : Int) (x2 : List (Int × Int × Int × Int × Int × Int × Int × Int × Bool × (List (Int × (List Int))) × (List Int))) => funRun ref17_Put_C 3 11 [(true, [(false, .int .i64), (false, .int .i64), (false, .slice (.pair (.int .i64) (.pair (.int .i64) (.pair (.int .i64) (.pair (.int .i64) (.pair (.int .i64) (.pair (.int .i64) (.pair (.int .i64) (.pair (.int .i64) (.pair (.bool) (.pair (.slice (.pair (.int .i64) (.slice (.int .u8)))) (.slice (.int .u8)))))))))))))])] [(false, [(true, .slice (.int .u8))]), (false, [(false, .int .i64)])] ref17_Put_un [⟨.int .i64, x0⟩, ⟨.int .i64, x1⟩, ⟨.slice (.pair (.int .i64) (.pair (.int .i64) (.pair (.int .i64) (.pair (.int .i64) (.pair (.int .i64) (.pair (.int .i64) (.pair (.int .i64) (.pair (.int .i64) (.pair (.bool) (.pair (.slice (.pair (.int .i64) (.slice (.int .u8)))) (.slice (.int .u8)))))))))))), x2⟩] := ⟨_, rfl⟩
noncomputable def ref17_Put : (Int) → (Int) → (List (Int × Int × Int × Int × Int × Int × Int × Int × Bool × (List (Int × (List Int))) × (List Int))) → Option ((List Int) × Int) := ref17_Put_ex.choose
theorem ref17_Put_raw (x0 : Int) (x1 : Int) (x2 : List (Int × Int × Int × Int × Int × Int × Int × Int × Bool × (List (Int × (List Int))) × (List Int))) : ref17_Put x0 x1 x2 = funRun ref17_Put_C 3 11 [(true, [(false, .int .i64), (false, .int .i64), (false, .slice (.pair (.int .i64) (.pair (.int .i64) (.pair (.int .i64) (.pair (.int .i64) (.pair (.int .i64) (.pair (.int .i64) (.pair (.int .i64) (.pair (.int .i64) (.pair (.bool) (.pair (.slice (.pair (.int .i64) (.slice (.int .u8)))) (.slice (.int .u8)))))))))))))])] [(false, [(true, .slice (.int .u8))]), (false, [(false, .int .i64)])] ref17_Put_un [⟨.int .i64, x0⟩, ⟨.int .i64, x1⟩, ⟨.slice (.pair (.int .i64) (.pair (.int .i64) (.pair (.int .i64) (.pair (.int .i64) (.pair (.int .i64) (.pair (.int .i64) (.pair (.int .i64) (.pair (.int .i64) (.pair (.bool) (.pair (.slice (.pair (.int .i64) (.slice (.int .u8)))) (.slice (.int .u8)))))))))))), x2⟩] := congrFun (congrFun (congrFun (ref17_Put_ex.choose_spec) x0) x1) x2
noncomputable def ref17_Put_l0 (y0 : Int) (y1 : Int) (y2 : Int) (y3 : List ((Int) × ((Int) × ((Int) × ((Int) × ((Int) × ((Int) × ((Int) × ((Int) × ((Bool) × ((List ((Int) × (List (Int)))) × (List (Int))))))))))))) (y4 : List (Int)) : Option ((List Int) × Int) := loopAt ref17_Put_C 3 11 [(false, [(true, .slice (.int .u8))]), (false, [(false, .int .i64)])] ref17_Put_un [true, true, true, false, true, false] (St.ofLists [(1, .ptr 108 0), (5, .ow 260), (6, .int .i64 y0)] [(108, some (.cells [.int .i64 y1, .int .i64 y2, .fz ((Ty.int IntKind.i64).pair ((Ty.int IntKind.i64).pair ((Ty.int IntKind.i64).pair ((Ty.int IntKind.i64).pair ((Ty.int IntKind.i64).pair ((Ty.int IntKind.i64).pair ((Ty.int IntKind.i64).pair ((Ty.int IntKind.i64).pair (Ty.bool.pair (((Ty.int IntKind.i64).pair (Ty.int IntKind.u8).slice).slice.pair (Ty.int IntKind.u8).slice)))))))))) y3 false false])), (260, some (.row (Ty.int IntKind.u8) y4 0 false))] [260, 252, 108, 372])
theorem ref17_Put_eq (x0 : Int) (x1 : Int) (x2 : List (Int × Int × Int × Int × Int × Int × Int × Int × Bool × (List (Int × (List Int))) × (List Int))) : ref17_Put x0 x1 x2 =
  (ref17_Check x0 x1 x2).bind fun val0 =>
  bif val0 != 0
    then some (([]), (val0))
    else (ref17_nums [x0, x1, ilen x2]).bind fun val4 =>
      ref17_Put_l0 (0) (x0) (x1) (x2) (val4) := (ref17_Put_raw x0 x1 x2).trans (by kernel_rfl)
theorem ref17_Put_l0_eq (y0 : Int) (y1 : Int) (y2 : Int) (y3 : List ((Int) × ((Int) × ((Int) × ((Int) × ((Int) × ((Int) × ((Int) × ((Int) × ((Bool) × ((List ((Int) × (List (Int)))) × (List (Int))))))))))))) (y4 : List (Int)) : ref17_Put_l0 y0 y1 y2 y3 y4 =
  bif decide (y0 < ilen y3)
  then bif decide (0 ≤ y0)
    then (y3[y0.toNat]?).bind fun val4 =>
      (ref17_one val4.fst val4.snd.fst val4.snd.snd.fst val4.snd.snd.snd.fst val4.snd.snd.snd.snd.fst val4.snd.snd.snd.snd.snd.fst val4.snd.snd.snd.snd.snd.snd.fst val4.snd.snd.snd.snd.snd.snd.snd.fst val4.snd.snd.snd.snd.snd.snd.snd.snd.fst val4.snd.snd.snd.snd.snd.snd.snd.snd.snd.fst val4.snd.snd.snd.snd.snd.snd.snd.snd.snd.snd).bind fun val6 =>
        bif decide ((ilen y4 + ilen val6) * 1 ≤ room)
          then ref17_Put_l0 (IntKind.i64.wrap (y0 + 1)) (y1) (y2) (y3) (y4 ++ val6)
          else none
    else none
  else (ref17_Seal y4).bind fun val2 =>
    some ((val2), (0)) := (loopAt_step _ _ _ _ _ _ _).trans (by kernel_rfl)
noncomputable def ref17_Put_sig : Sig := { pm := [(true, [(false, .int .i64), (false, .int .i64), (false, .slice (.pair (.int .i64) (.pair (.int .i64) (.pair (.int .i64) (.pair (.int .i64) (.pair (.int .i64) (.pair (.int .i64) (.pair (.int .i64) (.pair (.int .i64) (.pair (.bool) (.pair (.slice (.pair (.int .i64) (.slice (.int .u8)))) (.slice (.int .u8)))))))))))))])], rm := [(false, [(true, .slice (.int .u8))]), (false, [(false, .int .i64)])], f := fun | [⟨.int .i64, x0⟩, ⟨.int .i64, x1⟩, ⟨.slice (.pair (.int .i64) (.pair (.int .i64) (.pair (.int .i64) (.pair (.int .i64) (.pair (.int .i64) (.pair (.int .i64) (.pair (.int .i64) (.pair (.int .i64) (.pair (.bool) (.pair (.slice (.pair (.int .i64) (.slice (.int .u8)))) (.slice (.int .u8)))))))))))), x2⟩] => .yes _ (ref17_Put x0 x1 x2) ref17_Put_mk | _ => .no }
theorem ref17_Put_ok : SigOk Try.prog 11 ref17_Put_sig := by
  refine contract_of (C := ref17_Put_C) (d := 3) ⟨S40_ok, P22_ok⟩ (callable_ex (by kernel_rfl)) ?_
  intro dvs
  unfold ref17_Put_sig
  dsimp only
  split
  · refine .inr ⟨_, ref17_Put_un, ref17_Put_mk, congrArg (fun o => Cl.yes _ o _) (ref17_Put_raw _ _ _), ?_⟩
    intro ds x h
    unfold ref17_Put_un at h
    split at h
    · cases h; rfl
    · cases h
  · exact .inl rfl
noncomputable def S41 : List (Nat × Sig) := (11, ref17_Put_sig) :: S40
theorem S41_ok : ListOk Try.prog S41 := ListOk.cons S40_ok ref17_Put_ok
noncomputable def ref17_Together_C : Cfg := { P := Try.prog, sig := lookSig S41, hb := fun f b =>  bif Nat.beq f 20 && Nat.beq b 0 then some { tmps := [0, 1, 5, 6], obs := [61], nils := [(5, 61, (.pair (.int .i64) (.pair (.int .i64) (.slice (.pair (.int .i64) (.pair (.int .i64) (.pair (.int .i64) (.pair (.int .i64) (.pair (.int .i64) (.pair (.int .i64) (.pair (.int .i64) (.pair (.int .i64) (.pair (.bool) (.pair (.slice (.pair (.int .i64) (.slice (.int .u8)))) (.slice (.int .u8))))))))))))))))], kl := [532, 524, 452, 444, 61, 60, 62, 62] } else bif Nat.beq f 20 && Nat.beq b 2 then some { tmps := [0, 1, 5, 6, 7, 8], obs := [60, 62], nils := [(7, 60, (.pair (.int .i64) (.pair (.int .i64) (.pair (.int .i64) (.pair (.int .i64) (.pair (.int .i64) (.pair (.int .i64) (.pair (.int .i64) (.pair (.int .i64) (.pair (.bool) (.pair (.slice (.pair (.int .i64) (.slice (.int .u8)))) (.slice (.int .u8))))))))))))), (5, 62, (.pair (.int .i64) (.pair (.int .i64) (.slice (.pair (.int .i64) (.pair (.int .i64) (.pair (.int .i64) (.pair (.int .i64) (.pair (.int .i64) (.pair (.int .i64) (.pair (.int .i64) (.pair (.int .i64) (.pair (.bool) (.pair (.slice (.pair (.int .i64) (.slice (.int .u8)))) (.slice (.int .u8))))))))))))))))], kl := [452, 444, 60, 532, 524, 61, 62, 61] } else none, hr := fun _ _ => none, ps := lookSig P22 }
noncomputable def ref17_Together_un : List DV → Option ((List (Int × Int × (List (Int × Int × Int × Int × Int × Int × Int × Int × Bool × (List (Int × (List Int))) × (List Int)))))) := fun | [⟨.slice (.pair (.int .i64) (.pair (.int .i64) (.slice (.pair (.int .i64) (.pair (.int .i64) (.pair (.int .i64) (.pair (.int .i64) (.pair (.int .i64) (.pair (.int .i64) (.pair (.int .i64) (.pair (.int .i64) (.pair (.bool) (.pair (.slice (.pair (.int .i64) (.slice (.int .u8)))) (.slice (.int .u8))))))))))))))), r0⟩] => some r0 | _ => none
noncomputable def ref17_Together_mk : (List (Int × Int × (List (Int × Int × Int × Int × Int × Int × Int × Int × Bool × (List (Int × (List Int))) × (List Int))))) → List DV := fun r0 => [⟨.slice (.pair (.int .i64) (.pair (.int .i64) (.slice (.pair (.int .i64) (.pair (.int .i64) (.pair (.int .i64) (.pair (.int .i64) (.pair (.int .i64) (.pair (.int .i64) (.pair (.int .i64) (.pair (.int .i64) (.pair (.bool) (.pair (.slice (.pair (.int .i64) (.slice (.int .u8)))) (.slice (.int .u8))))))))))))))), r0⟩]
theorem ref17_Together_ex : ∃ f : (Int) → (List (Int × Int × Int × Int × Int × Int × Int × Int × Bool × (List (Int × (List Int))) × (List Int))) → Option ((List (Int × Int × (List (Int × Int × Int × Int × Int × Int × Int × Int × Bool × (List (Int × (List Int))) × (List Int)))))), f = fun (x0 : Int) (x1 : List (Int × Int × Int × Int × Int × Int × Int × Int × Bool × (List (Int × (List Int))) × (List Int))) => funRun ref17_Together_C 3 20 [(false, [(false, .int .i64)]), (false, [(false, .slice (.pair (.int .i64) (.pair (.int .i64) (.pair (.int .i64) (.pair (.int .i64) (.pair (.int .i64) (.pair (.int .i64) (.pair (.int .i64) (.pair (.int .i64) (.pair (.bool) (.pair (.slice (.pair (.int .i64) (.slice (.int .u8)))) (.slice (.int .u8)))))))))))))])] [(false, [(true, .slice (.pair (.int .i64) (.pair (.int .i64) (.slice (.pair (.int .i64) (.pair (.int .i64) (.pair (.int .i64) (.pair (.int .i64) (.pair (.int .i64) (.pair (.int .i64) (.pair (.int .i64) (.pair (.int .i64) (.pair (.bool) (.pair (.slice (.pair (.int .i64) (.slice (.int .u8)))) (.slice (.int .u8))))))))))))))))])] ref17_Together_un [⟨.int .i64, x0⟩, ⟨.slice (.pair (.int .i64) (.pair (.int .i64) (.pair (.int .i64) (.pair (.int .i64) (.pair (.int .i64) (.pair (.int .i64) (.pair (.int .i64) (.pair (.int .i64) (.pair (.bool) (.pair (.slice (.pair (.int .i64) (.slice (.int .u8)))) (.slice (.int .u8)))))))))))), x1⟩] := ⟨_, rfl⟩
noncomputable def ref17_Together : (Int) → (List (Int × Int × Int × Int × Int × Int × Int × Int × Bool × (List (Int × (List Int))) × (List Int))) → Option ((List (Int × Int × (List (Int × Int × Int × Int × Int × Int × Int × Int × Bool × (List (Int × (List Int))) × (List Int)))))) := ref17_Together_ex.choose
theorem ref17_Together_raw (x0 : Int) (x1 : List (Int × Int × Int × Int × Int × Int × Int × Int × Bool × (List (Int × (List Int))) × (List Int))) : ref17_Together x0 x1 = funRun ref17_Together_C 3 20 [(false, [(false, .int .i64)]), (false, [(false, .slice (.pair (.int .i64) (.pair (.int .i64) (.pair (.int .i64) (.pair (.int .i64) (.pair (.int .i64) (.pair (.int .i64) (.pair (.int .i64) (.pair (.int .i64) (.pair (.bool) (.pair (.slice (.pair (.int .i64) (.slice (.int .u8)))) (.slice (.int .u8)))))))))))))])] [(false, [(true, .slice (.pair (.int .i64) (.pair (.int .i64) (.slice (.pair (.int .i64) (.pair (.int .i64) (.pair (.int .i64) (.pair (.int .i64) (.pair (.int .i64) (.pair (.int .i64) (.pair (.int .i64) (.pair (.int .i64) (.pair (.bool) (.pair (.slice (.pair (.int .i64) (.slice (.int .u8)))) (.slice (.int .u8))))))))))))))))])] ref17_Together_un [⟨.int .i64, x0⟩, ⟨.slice (.pair (.int .i64) (.pair (.int .i64) (.pair (.int .i64) (.pair (.int .i64) (.pair (.int .i64) (.pair (.int .i64) (.pair (.int .i64) (.pair (.int .i64) (.pair (.bool) (.pair (.slice (.pair (.int .i64) (.slice (.int .u8)))) (.slice (.int .u8)))))))))))), x1⟩] := congrFun (congrFun (ref17_Together_ex.choose_spec) x0) x1
noncomputable def ref17_Together_l0 (y0 : Int) (y1 : List ((Int) × ((Int) × ((Int) × ((Int) × ((Int) × ((Int) × ((Int) × ((Int) × ((Bool) × ((List ((Int) × (List (Int)))) × (List (Int))))))))))))) (y2 : Int) (y3 : List ((Int) × ((Int) × (List ((Int) × ((Int) × ((Int) × ((Int) × ((Int) × ((Int) × ((Int) × ((Int) × ((Bool) × ((List ((Int) × (List (Int)))) × (List (Int)))))))))))))))) : Option ((List (Int × Int × (List (Int × Int × Int × Int × Int × Int × Int × Int × Bool × (List (Int × (List Int))) × (List Int)))))) := loopAt ref17_Together_C 3 20 [(false, [(true, .slice (.pair (.int .i64) (.pair (.int .i64) (.slice (.pair (.int .i64) (.pair (.int .i64) (.pair (.int .i64) (.pair (.int .i64) (.pair (.int .i64) (.pair (.int .i64) (.pair (.int .i64) (.pair (.int .i64) (.pair (.bool) (.pair (.slice (.pair (.int .i64) (.slice (.int .u8)))) (.slice (.int .u8))))))))))))))))])] ref17_Together_un [true, true, false, true, false] (St.ofLists [(0, .int .i64 y0), (1, .fz ((Ty.int IntKind.i64).pair ((Ty.int IntKind.i64).pair ((Ty.int IntKind.i64).pair ((Ty.int IntKind.i64).pair ((Ty.int IntKind.i64).pair ((Ty.int IntKind.i64).pair ((Ty.int IntKind.i64).pair ((Ty.int IntKind.i64).pair (Ty.bool.pair (((Ty.int IntKind.i64).pair (Ty.int IntKind.u8).slice).slice.pair (Ty.int IntKind.u8).slice)))))))))) y1 false false), (5, .ow 61), (6, .int .i64 y2)] [(61, some (.row ((Ty.int IntKind.i64).pair ((Ty.int IntKind.i64).pair ((Ty.int IntKind.i64).pair ((Ty.int IntKind.i64).pair ((Ty.int IntKind.i64).pair ((Ty.int IntKind.i64).pair ((Ty.int IntKind.i64).pair ((Ty.int IntKind.i64).pair ((Ty.int IntKind.i64).pair ((Ty.int IntKind.i64).pair (Ty.bool.pair (((Ty.int IntKind.i64).pair (Ty.int IntKind.u8).slice).slice.pair (Ty.int IntKind.u8).slice)))))))))).slice)) y3 0 false))] [532, 524, 452, 444, 61, 60, 62, 62])
noncomputable def ref17_Together_l2 (y0 : Int) (y1 : List ((Int) × ((Int) × ((Int) × ((Int) × ((Int) × ((Int) × ((Int) × ((Int) × ((Bool) × ((List ((Int) × (List (Int)))) × (List (Int))))))))))))) (y2 : Int) (y3 : Int) (y4 : List ((Int) × ((Int) × ((Int) × ((Int) × ((Int) × ((Int) × ((Int) × ((Int) × ((Bool) × ((List ((Int) × (List (Int)))) × (List (Int))))))))))))) (y5 : List ((Int) × ((Int) × (List ((Int) × ((Int) × ((Int) × ((Int) × ((Int) × ((Int) × ((Int) × ((Int) × ((Bool) × ((List ((Int) × (List (Int)))) × (List (Int)))))))))))))))) : Option ((List (Int × Int × (List (Int × Int × Int × Int × Int × Int × Int × Int × Bool × (List (Int × (List Int))) × (List Int)))))) := loopAt ref17_Together_C 3 20 [(false, [(true, .slice (.pair (.int .i64) (.pair (.int .i64) (.slice (.pair (.int .i64) (.pair (.int .i64) (.pair (.int .i64) (.pair (.int .i64) (.pair (.int .i64) (.pair (.int .i64) (.pair (.int .i64) (.pair (.int .i64) (.pair (.bool) (.pair (.slice (.pair (.int .i64) (.slice (.int .u8)))) (.slice (.int .u8))))))))))))))))])] ref17_Together_un [true, true, false, true, false, false, true, false, false, true, true, false, true, false] (St.ofLists [(0, .int .i64 y0), (1, .fz ((Ty.int IntKind.i64).pair ((Ty.int IntKind.i64).pair ((Ty.int IntKind.i64).pair ((Ty.int IntKind.i64).pair ((Ty.int IntKind.i64).pair ((Ty.int IntKind.i64).pair ((Ty.int IntKind.i64).pair ((Ty.int IntKind.i64).pair (Ty.bool.pair (((Ty.int IntKind.i64).pair (Ty.int IntKind.u8).slice).slice.pair (Ty.int IntKind.u8).slice)))))))))) y1 false false), (5, .ow 62), (6, .int .i64 y2), (7, .ow 60), (8, .int .i64 y3)] [(60, some (.row ((Ty.int IntKind.i64).pair ((Ty.int IntKind.i64).pair ((Ty.int IntKind.i64).pair ((Ty.int IntKind.i64).pair ((Ty.int IntKind.i64).pair ((Ty.int IntKind.i64).pair ((Ty.int IntKind.i64).pair ((Ty.int IntKind.i64).pair (Ty.bool.pair (((Ty.int IntKind.i64).pair (Ty.int IntKind.u8).slice).slice.pair (Ty.int IntKind.u8).slice)))))))))) y4 0 false)), (62, some (.row ((Ty.int IntKind.i64).pair ((Ty.int IntKind.i64).pair ((Ty.int IntKind.i64).pair ((Ty.int IntKind.i64).pair ((Ty.int IntKind.i64).pair ((Ty.int IntKind.i64).pair ((Ty.int IntKind.i64).pair ((Ty.int IntKind.i64).pair ((Ty.int IntKind.i64).pair ((Ty.int IntKind.i64).pair (Ty.bool.pair (((Ty.int IntKind.i64).pair (Ty.int IntKind.u8).slice).slice.pair (Ty.int IntKind.u8).slice)))))))))).slice)) y5 0 false))] [452, 444, 60, 532, 524, 61, 62, 61])
theorem ref17_Together_eq (x0 : Int) (x1 : List (Int × Int × Int × Int × Int × Int × Int × Int × Bool × (List (Int × (List Int))) × (List Int))) : ref17_Together x0 x1 =
  ref17_Together_l0 (x0) (x1) (1) ([]) := (ref17_Together_raw x0 x1).trans (by kernel_rfl)
theorem ref17_Together_l0_eq (y0 : Int) (y1 : List ((Int) × ((Int) × ((Int) × ((Int) × ((Int) × ((Int) × ((Int) × ((Int) × ((Bool) × ((List ((Int) × (List (Int)))) × (List (Int))))))))))))) (y2 : Int) (y3 : List ((Int) × ((Int) × (List ((Int) × ((Int) × ((Int) × ((Int) × ((Int) × ((Int) × ((Int) × ((Int) × ((Bool) × ((List ((Int) × (List (Int)))) × (List (Int)))))))))))))))) : ref17_Together_l0 y0 y1 y2 y3 =
  bif decide (y2 ≤ 7)
  then bif y2 == y0
    then ref17_Together_l0 (y0) (y1) (IntKind.i64.wrap (y2 + 1)) (y3)
    else ref17_Together_l2 (y0) (y1) (y2) (0) ([]) (y3)
  else some (y3) := (loopAt_step _ _ _ _ _ _ _).trans (by kernel_rfl)
theorem ref17_Together_l2_eq (y0 : Int) (y1 : List ((Int) × ((Int) × ((Int) × ((Int) × ((Int) × ((Int) × ((Int) × ((Int) × ((Bool) × ((List ((Int) × (List (Int)))) × (List (Int))))))))))))) (y2 : Int) (y3 : Int) (y4 : List ((Int) × ((Int) × ((Int) × ((Int) × ((Int) × ((Int) × ((Int) × ((Int) × ((Bool) × ((List ((Int) × (List (Int)))) × (List (Int))))))))))))) (y5 : List ((Int) × ((Int) × (List ((Int) × ((Int) × ((Int) × ((Int) × ((Int) × ((Int) × ((Int) × ((Int) × ((Bool) × ((List ((Int) × (List (Int)))) × (List (Int)))))))))))))))) : ref17_Together_l2 y0 y1 y2 y3 y4 y5 =
  bif decide (y3 < ilen y1)
  then bif decide (0 ≤ y3)
    then (y1[y3.toNat]?).bind fun val4 =>
      bif val4.snd.snd.fst == y0
        then bif decide (0 ≤ y3)
          then (y1[y3.toNat]?).bind fun val10 =>
            bif val10.snd.snd.snd.fst == y2
              then bif decide (0 ≤ y3)
                then (y1[y3.toNat]?).bind fun val16 =>
                  bif decide ((ilen y4 + ilen [val16]) * 120 ≤ room)
                    then ref17_Together_l2 (y0) (y1) (y2) (IntKind.i64.wrap (y3 + 1)) (y4 ++ [val16]) (y5)
                    else none
                else none
              else ref17_Together_l2 (y0) (y1) (y2) (IntKind.i64.wrap (y3 + 1)) (y4) (y5)
          else none
        else ref17_Together_l2 (y0) (y1) (y2) (IntKind.i64.wrap (y3 + 1)) (y4) (y5)
    else none
  else bif decide (ilen y4 > 0)
    then bif decide ((ilen y5 + ilen [(y0, y2, y4)]) * 40 ≤ room)
      then ref17_Together_l0 (y0) (y1) (IntKind.i64.wrap (y2 + 1)) (y5 ++ [(y0, y2, y4)])
      else none
    else ref17_Together_l0 (y0) (y1) (IntKind.i64.wrap (y2 + 1)) (y5) := (loopAt_step _ _ _ _ _ _ _).trans (by kernel_rfl)
noncomputable def ref17_Together_sig : Sig := { pm := [(false, [(false, .int .i64)]), (false, [(false, .slice (.pair (.int .i64) (.pair (.int .i64) (.pair (.int .i64) (.pair (.int .i64) (.pair (.int .i64) (.pair (.int .i64) (.pair (.int .i64) (.pair (.int .i64) (.pair (.bool) (.pair (.slice (.pair (.int .i64) (.slice (.int .u8)))) (.slice (.int .u8)))))))))))))])], rm := [(false, [(true, .slice (.pair (.int .i64) (.pair (.int .i64) (.slice (.pair (.int .i64) (.pair (.int .i64) (.pair (.int .i64) (.pair (.int .i64) (.pair (.int .i64) (.pair (.int .i64) (.pair (.int .i64) (.pair (.int .i64) (.pair (.bool) (.pair (.slice (.pair (.int .i64) (.slice (.int .u8)))) (.slice (.int .u8))))))))))))))))])], f := fun | [⟨.int .i64, x0⟩, ⟨.slice (.pair (.int .i64) (.pair (.int .i64) (.pair (.int .i64) (.pair (.int .i64) (.pair (.int .i64) (.pair (.int .i64) (.pair (.int .i64) (.pair (.int .i64) (.pair (.bool) (.pair (.slice (.pair (.int .i64) (.slice (.int .u8)))) (.slice (.int .u8)))))))))))), x1⟩] => .yes _ (ref17_Together x0 x1) ref17_Together_mk | _ => .no }
theorem ref17_Together_ok : SigOk Try.prog 20 ref17_Together_sig := by
  refine contract_of (C := ref17_Together_C) (d := 3) ⟨S41_ok, P22_ok⟩ (callable_ex (by kernel_rfl)) ?_
  intro dvs
  unfold ref17_Together_sig
  dsimp only
  split
  · refine .inr ⟨_, ref17_Together_un, ref17_Together_mk, congrArg (fun o => Cl.yes _ o _) (ref17_Together_raw _ _), ?_⟩
    intro ds x h
    unfold ref17_Together_un at h
    split at h
    · cases h; rfl
    · cases h
  · exact .inl rfl
noncomputable def S42 : List (Nat × Sig) := (20, ref17_Together_sig) :: S41
theorem S42_ok : ListOk Try.prog S42 := ListOk.cons S41_ok ref17_Together_ok
noncomputable def law17_light_C : Cfg := { P := Try.prog, sig := lookSig S42, hb := fun _ _ => none, hr := fun _ _ => none, ps := lookSig P22 }
noncomputable def law17_light_un : List DV → Option (Bool) := fun | [⟨.bool, r0⟩] => some r0 | _ => none
noncomputable def law17_light_mk : Bool → List DV := fun r0 => [⟨.bool, r0⟩]
theorem law17_light_ex : ∃ f : (List (Int × Int × Int × Int × Int × Int × Int × Int × Bool × (List (Int × (List Int))) × (List Int))) → Option (Bool), f = fun (x0 : List (Int × Int × Int × Int × Int × Int × Int × Int × Bool × (List (Int × (List Int))) × (List Int))) => funRun law17_light_C 3 8 [(false, [(false, .slice (.pair (.int .i64) (.pair (.int .i64) (.pair (.int .i64) (.pair (.int .i64) (.pair (.int .i64) (.pair (.int .i64) (.pair (.int .i64) (.pair (.int .i64) (.pair (.bool) (.pair (.slice (.pair (.int .i64) (.slice (.int .u8)))) (.slice (.int .u8)))))))))))))])] [(false, [(false, .bool)])] law17_light_un [⟨.slice (.pair (.int .i64) (.pair (.int .i64) (.pair (.int .i64) (.pair (.int .i64) (.pair (.int .i64) (.pair (.int .i64) (.pair (.int .i64) (.pair (.int .i64) (.pair (.bool) (.pair (.slice (.pair (.int .i64) (.slice (.int .u8)))) (.slice (.int .u8)))))))))))), x0⟩] := ⟨_, rfl⟩
noncomputable def law17_light : (List (Int × Int × Int × Int × Int × Int × Int × Int × Bool × (List (Int × (List Int))) × (List Int))) → Option (Bool) := law17_light_ex.choose
theorem law17_light_raw (x0 : List (Int × Int × Int × Int × Int × Int × Int × Int × Bool × (List (Int × (List Int))) × (List Int))) : law17_light x0 = funRun law17_light_C 3 8 [(false, [(false, .slice (.pair (.int .i64) (.pair (.int .i64) (.pair (.int .i64) (.pair (.int .i64) (.pair (.int .i64) (.pair (.int .i64) (.pair (.int .i64) (.pair (.int .i64) (.pair (.bool) (.pair (.slice (.pair (.int .i64) (.slice (.int .u8)))) (.slice (.int .u8)))))))))))))])] [(false, [(false, .bool)])] law17_light_un [⟨.slice (.pair (.int .i64) (.pair (.int .i64) (.pair (.int .i64) (.pair (.int .i64) (.pair (.int .i64) (.pair (.int .i64) (.pair (.int .i64) (.pair (.int .i64) (.pair (.bool) (.pair (.slice (.pair (.int .i64) (.slice (.int .u8)))) (.slice (.int .u8)))))))))))), x0⟩] := congrFun (law17_light_ex.choose_spec) x0
theorem law17_light_eq (x0 : List (Int × Int × Int × Int × Int × Int × Int × Int × Bool × (List (Int × (List Int))) × (List Int))) : law17_light x0 =
  (ref17_Weight x0 300).bind fun val0 =>
  some (decide (val0 ≤ 300)) := (law17_light_raw x0).trans (by kernel_rfl)
noncomputable def law17_light_sig : Sig := { pm := [(false, [(false, .slice (.pair (.int .i64) (.pair (.int .i64) (.pair (.int .i64) (.pair (.int .i64) (.pair (.int .i64) (.pair (.int .i64) (.pair (.int .i64) (.pair (.int .i64) (.pair (.bool) (.pair (.slice (.pair (.int .i64) (.slice (.int .u8)))) (.slice (.int .u8)))))))))))))])], rm := [(false, [(false, .bool)])], f := fun | [⟨.slice (.pair (.int .i64) (.pair (.int .i64) (.pair (.int .i64) (.pair (.int .i64) (.pair (.int .i64) (.pair (.int .i64) (.pair (.int .i64) (.pair (.int .i64) (.pair (.bool) (.pair (.slice (.pair (.int .i64) (.slice (.int .u8)))) (.slice (.int .u8)))))))))))), x0⟩] => .yes _ (law17_light x0) law17_light_mk | _ => .no }
theorem law17_light_ok : SigOk Try.prog 8 law17_light_sig := by
  refine contract_of (C := law17_light_C) (d := 3) ⟨S42_ok, P22_ok⟩ (callable_ex (by kernel_rfl)) ?_
  intro dvs
  unfold law17_light_sig
  dsimp only
  split
  · refine .inr ⟨_, law17_light_un, law17_light_mk, congrArg (fun o => Cl.yes _ o _) (law17_light_raw _), ?_⟩
    intro ds x h
    unfold law17_light_un at h
    split at h
    · cases h; rfl
    · cases h
  · exact .inl rfl
noncomputable def S43 : List (Nat × Sig) := (8, law17_light_sig) :: S42
theorem S43_ok : ListOk Try.prog S43 := ListOk.cons S42_ok law17_light_ok
noncomputable def law17_works_C : Cfg := { P := Try.prog, sig := lookSig S43, hb := fun _ _ => none, hr := fun _ _ => none, ps := lookSig P22 }
noncomputable def law17_works_un : List DV → Option (Bool) := fun | [⟨.bool, r0⟩] => some r0 | _ => none
noncomputable def law17_works_mk : Bool → List DV := fun r0 => [⟨.bool, r0⟩]
theorem law17_works_ex : ∃ f : Option (Bool), f = funRun law17_works_C 3 9 [] [(false, [(false, .bool)])] law17_works_un [] := ⟨_, rfl⟩
noncomputable def law17_works : Option (Bool) := law17_works_ex.choose
theorem law17_works_raw  : law17_works = funRun law17_works_C 3 9 [] [(false, [(false, .bool)])] law17_works_un [] := law17_works_ex.choose_spec
theorem law17_works_eq  : law17_works =
  (packet_Put 1 2 [(5, 3, 1, 2, 5, 9, 0, 0, true, [(5, [7])], [])]).bind fun val0 =>
  (packet_Read val0.1).bind fun val2 =>
    (packet_Read [1, 2, 3, 4, 5]).bind fun val4 =>
      (packet_Together 1 [(5, 3, 1, 2, 5, 9, 0, 0, true, [(5, [7])], []), (0, 0, 1, 3, 0, 0, 0, 0, false, [], []), (5, 3, 1, 2, 5, 9, 0, 0, true, [(5, [7])], [])]).bind fun val6 =>
        bif val0.2 == 0
          then bif val2.2.2.2 == 0
            then (ref17_Same 1 2 [(5, 3, 1, 2, 5, 9, 0, 0, true, [(5, [7])], [])] val2.1 val2.2.1 val2.2.2.1).bind fun val12 =>
              bif val12
                then bif val4.2.2.2 == 4
                  then bif ilen val6 == 2
                    then (val6[Int.toNat 0]?).bind fun val20 =>
                      bif ilen val20.snd.snd == 2
                        then (packet_Check 0 0 []).bind fun val24 =>
                          some (val24 == 1)
                        else some false
                    else some false
                  else some false
                else some false
            else some false
          else some false := (law17_works_raw).trans (by kernel_rfl)
noncomputable def law17_works_sig : Sig := { pm := [], rm := [(false, [(false, .bool)])], f := fun | [] => .yes _ (law17_works) law17_works_mk | _ => .no }
theorem law17_works_ok : SigOk Try.prog 9 law17_works_sig := by
  refine contract_of (C := law17_works_C) (d := 3) ⟨S43_ok, P22_ok⟩ (callable_ex (by kernel_rfl)) ?_
  intro dvs
  unfold law17_works_sig
  dsimp only
  split
  · refine .inr ⟨_, law17_works_un, law17_works_mk, congrArg (fun o => Cl.yes _ o _) (law17_works_raw), ?_⟩
    intro ds x h
    unfold law17_works_un at h
    split at h
    · cases h; rfl
    · cases h
  · exact .inl rfl
noncomputable def S44 : List (Nat × Sig) := (9, law17_works_sig) :: S43
theorem S44_ok : ListOk Try.prog S44 := ListOk.cons S43_ok law17_works_ok
noncomputable def law17_PacketPuts_C : Cfg := { P := Try.prog, sig := lookSig S44, hb := fun _ _ => none, hr := fun _ _ => none, ps := lookSig P22 }
noncomputable def law17_PacketPuts_un : List DV → Option (Bool) := fun | [⟨.bool, r0⟩] => some r0 | _ => none
noncomputable def law17_PacketPuts_mk : Bool → List DV := fun r0 => [⟨.bool, r0⟩]
theorem law17_PacketPuts_ex : ∃ f : (Int) → (Int) → (List (Int × Int × Int × Int × Int × Int × Int × Int × Bool × (List (Int × (List Int))) × (List Int))) → Option (Bool), f = fun (x0 : Int) (x1 : Int) (x2 : List (Int × Int × Int × Int × Int × Int × Int × Int × Bool × (List (Int × (List Int))) × (List Int))) => funRun law17_PacketPuts_C 3 3 [(true, [(false, .int .i64), (false, .int .i64), (false, .slice (.pair (.int .i64) (.pair (.int .i64) (.pair (.int .i64) (.pair (.int .i64) (.pair (.int .i64) (.pair (.int .i64) (.pair (.int .i64) (.pair (.int .i64) (.pair (.bool) (.pair (.slice (.pair (.int .i64) (.slice (.int .u8)))) (.slice (.int .u8)))))))))))))])] [(false, [(false, .bool)])] law17_PacketPuts_un [⟨.int .i64, x0⟩, ⟨.int .i64, x1⟩, ⟨.slice (.pair (.int .i64) (.pair (.int .i64) (.pair (.int .i64) (.pair (.int .i64) (.pair (.int .i64) (.pair (.int .i64) (.pair (.int .i64) (.pair (.int .i64) (.pair (.bool) (.pair (.slice (.pair (.int .i64) (.slice (.int .u8)))) (.slice (.int .u8)))))))))))), x2⟩] := ⟨_, rfl⟩
noncomputable def law17_PacketPuts : (Int) → (Int) → (List (Int × Int × Int × Int × Int × Int × Int × Int × Bool × (List (Int × (List Int))) × (List Int))) → Option (Bool) := law17_PacketPuts_ex.choose
theorem law17_PacketPuts_raw (x0 : Int) (x1 : Int) (x2 : List (Int × Int × Int × Int × Int × Int × Int × Int × Bool × (List (Int × (List Int))) × (List Int))) : law17_PacketPuts x0 x1 x2 = funRun law17_PacketPuts_C 3 3 [(true, [(false, .int .i64), (false, .int .i64), (false, .slice (.pair (.int .i64) (.pair (.int .i64) (.pair (.int .i64) (.pair (.int .i64) (.pair (.int .i64) (.pair (.int .i64) (.pair (.int .i64) (.pair (.int .i64) (.pair (.bool) (.pair (.slice (.pair (.int .i64) (.slice (.int .u8)))) (.slice (.int .u8)))))))))))))])] [(false, [(false, .bool)])] law17_PacketPuts_un [⟨.int .i64, x0⟩, ⟨.int .i64, x1⟩, ⟨.slice (.pair (.int .i64) (.pair (.int .i64) (.pair (.int .i64) (.pair (.int .i64) (.pair (.int .i64) (.pair (.int .i64) (.pair (.int .i64) (.pair (.int .i64) (.pair (.bool) (.pair (.slice (.pair (.int .i64) (.slice (.int .u8)))) (.slice (.int .u8)))))))))))), x2⟩] := congrFun (congrFun (congrFun (law17_PacketPuts_ex.choose_spec) x0) x1) x2
theorem law17_PacketPuts_eq (x0 : Int) (x1 : Int) (x2 : List (Int × Int × Int × Int × Int × Int × Int × Int × Bool × (List (Int × (List Int))) × (List Int))) : law17_PacketPuts x0 x1 x2 =
  (law17_light x2).bind fun val0 =>
  bif !val0
    then (law17_works).bind fun val4 =>
      some (val4)
    else (packet_Put x0 x1 x2).bind fun val4 =>
      (ref17_Put x0 x1 x2).bind fun val6 =>
        bif val4.2 == val6.2
          then (ref02_Same val4.1 val6.1).bind fun val10 =>
            bif val10
              then (packet_Check x0 x1 x2).bind fun val14 =>
                (ref17_Check x0 x1 x2).bind fun val16 =>
                  bif val14 == val16
                    then (law17_works).bind fun val20 =>
                      some (val20)
                    else some false
              else some false
          else some false := (law17_PacketPuts_raw x0 x1 x2).trans (by kernel_rfl)
noncomputable def law17_PacketPuts_sig : Sig := { pm := [(true, [(false, .int .i64), (false, .int .i64), (false, .slice (.pair (.int .i64) (.pair (.int .i64) (.pair (.int .i64) (.pair (.int .i64) (.pair (.int .i64) (.pair (.int .i64) (.pair (.int .i64) (.pair (.int .i64) (.pair (.bool) (.pair (.slice (.pair (.int .i64) (.slice (.int .u8)))) (.slice (.int .u8)))))))))))))])], rm := [(false, [(false, .bool)])], f := fun | [⟨.int .i64, x0⟩, ⟨.int .i64, x1⟩, ⟨.slice (.pair (.int .i64) (.pair (.int .i64) (.pair (.int .i64) (.pair (.int .i64) (.pair (.int .i64) (.pair (.int .i64) (.pair (.int .i64) (.pair (.int .i64) (.pair (.bool) (.pair (.slice (.pair (.int .i64) (.slice (.int .u8)))) (.slice (.int .u8)))))))))))), x2⟩] => .yes _ (law17_PacketPuts x0 x1 x2) law17_PacketPuts_mk | _ => .no }
theorem law17_PacketPuts_ok : SigOk Try.prog 3 law17_PacketPuts_sig := by
  refine contract_of (C := law17_PacketPuts_C) (d := 3) ⟨S44_ok, P22_ok⟩ (callable_ex (by kernel_rfl)) ?_
  intro dvs
  unfold law17_PacketPuts_sig
  dsimp only
  split
  · refine .inr ⟨_, law17_PacketPuts_un, law17_PacketPuts_mk, congrArg (fun o => Cl.yes _ o _) (law17_PacketPuts_raw _ _ _), ?_⟩
    intro ds x h
    unfold law17_PacketPuts_un at h
    split at h
    · cases h; rfl
    · cases h
  · exact .inl rfl
noncomputable def S45 : List (Nat × Sig) := (3, law17_PacketPuts_sig) :: S44
theorem S45_ok : ListOk Try.prog S45 := ListOk.cons S44_ok law17_PacketPuts_ok
noncomputable def law17_PacketBack_C : Cfg := { P := Try.prog, sig := lookSig S45, hb := fun _ _ => none, hr := fun _ _ => none, ps := lookSig P22 }
noncomputable def law17_PacketBack_un : List DV → Option (Bool) := fun | [⟨.bool, r0⟩] => some r0 | _ => none
noncomputable def law17_PacketBack_mk : Bool → List DV := fun r0 => [⟨.bool, r0⟩]
theorem law17_PacketBack_ex : ∃ f : (Int) → (Int) → (List (Int × Int × Int × Int × Int × Int × Int × Int × Bool × (List (Int × (List Int))) × (List Int))) → Option (Bool), f = fun (x0 : Int) (x1 : Int) (x2 : List (Int × Int × Int × Int × Int × Int × Int × Int × Bool × (List (Int × (List Int))) × (List Int))) => funRun law17_PacketBack_C 3 4 [(true, [(false, .int .i64), (false, .int .i64), (false, .slice (.pair (.int .i64) (.pair (.int .i64) (.pair (.int .i64) (.pair (.int .i64) (.pair (.int .i64) (.pair (.int .i64) (.pair (.int .i64) (.pair (.int .i64) (.pair (.bool) (.pair (.slice (.pair (.int .i64) (.slice (.int .u8)))) (.slice (.int .u8)))))))))))))])] [(false, [(false, .bool)])] law17_PacketBack_un [⟨.int .i64, x0⟩, ⟨.int .i64, x1⟩, ⟨.slice (.pair (.int .i64) (.pair (.int .i64) (.pair (.int .i64) (.pair (.int .i64) (.pair (.int .i64) (.pair (.int .i64) (.pair (.int .i64) (.pair (.int .i64) (.pair (.bool) (.pair (.slice (.pair (.int .i64) (.slice (.int .u8)))) (.slice (.int .u8)))))))))))), x2⟩] := ⟨_, rfl⟩
noncomputable def law17_PacketBack : (Int) → (Int) → (List (Int × Int × Int × Int × Int × Int × Int × Int × Bool × (List (Int × (List Int))) × (List Int))) → Option (Bool) := law17_PacketBack_ex.choose
theorem law17_PacketBack_raw (x0 : Int) (x1 : Int) (x2 : List (Int × Int × Int × Int × Int × Int × Int × Int × Bool × (List (Int × (List Int))) × (List Int))) : law17_PacketBack x0 x1 x2 = funRun law17_PacketBack_C 3 4 [(true, [(false, .int .i64), (false, .int .i64), (false, .slice (.pair (.int .i64) (.pair (.int .i64) (.pair (.int .i64) (.pair (.int .i64) (.pair (.int .i64) (.pair (.int .i64) (.pair (.int .i64) (.pair (.int .i64) (.pair (.bool) (.pair (.slice (.pair (.int .i64) (.slice (.int .u8)))) (.slice (.int .u8)))))))))))))])] [(false, [(false, .bool)])] law17_PacketBack_un [⟨.int .i64, x0⟩, ⟨.int .i64, x1⟩, ⟨.slice (.pair (.int .i64) (.pair (.int .i64) (.pair (.int .i64) (.pair (.int .i64) (.pair (.int .i64) (.pair (.int .i64) (.pair (.int .i64) (.pair (.int .i64) (.pair (.bool) (.pair (.slice (.pair (.int .i64) (.slice (.int .u8)))) (.slice (.int .u8)))))))))))), x2⟩] := congrFun (congrFun (congrFun (law17_PacketBack_ex.choose_spec) x0) x1) x2
theorem law17_PacketBack_eq (x0 : Int) (x1 : Int) (x2 : List (Int × Int × Int × Int × Int × Int × Int × Int × Bool × (List (Int × (List Int))) × (List Int))) : law17_PacketBack x0 x1 x2 =
  (law17_light x2).bind fun val0 =>
  bif !val0
    then (law17_works).bind fun val4 =>
      some (val4)
    else (packet_Put x0 x1 x2).bind fun val4 =>
      bif val4.2 != 0
        then bif ilen val4.1 == 0
          then (law17_works).bind fun val10 =>
            some (val10)
          else some false
        else (packet_Read val4.1).bind fun val8 =>
          bif val8.2.2.2 == 0
            then (ref17_Same x0 x1 x2 val8.1 val8.2.1 val8.2.2.1).bind fun val12 =>
              bif val12
                then (law17_works).bind fun val16 =>
                  some (val16)
                else some false
            else some false := (law17_PacketBack_raw x0 x1 x2).trans (by kernel_rfl)
noncomputable def law17_PacketBack_sig : Sig := { pm := [(true, [(false, .int .i64), (false, .int .i64), (false, .slice (.pair (.int .i64) (.pair (.int .i64) (.pair (.int .i64) (.pair (.int .i64) (.pair (.int .i64) (.pair (.int .i64) (.pair (.int .i64) (.pair (.int .i64) (.pair (.bool) (.pair (.slice (.pair (.int .i64) (.slice (.int .u8)))) (.slice (.int .u8)))))))))))))])], rm := [(false, [(false, .bool)])], f := fun | [⟨.int .i64, x0⟩, ⟨.int .i64, x1⟩, ⟨.slice (.pair (.int .i64) (.pair (.int .i64) (.pair (.int .i64) (.pair (.int .i64) (.pair (.int .i64) (.pair (.int .i64) (.pair (.int .i64) (.pair (.int .i64) (.pair (.bool) (.pair (.slice (.pair (.int .i64) (.slice (.int .u8)))) (.slice (.int .u8)))))))))))), x2⟩] => .yes _ (law17_PacketBack x0 x1 x2) law17_PacketBack_mk | _ => .no }
theorem law17_PacketBack_ok : SigOk Try.prog 4 law17_PacketBack_sig := by
  refine contract_of (C := law17_PacketBack_C) (d := 3) ⟨S45_ok, P22_ok⟩ (callable_ex (by kernel_rfl)) ?_
  intro dvs
  unfold law17_PacketBack_sig
  dsimp only
  split
  · refine .inr ⟨_, law17_PacketBack_un, law17_PacketBack_mk, congrArg (fun o => Cl.yes _ o _) (law17_PacketBack_raw _ _ _), ?_⟩
    intro ds x h
    unfold law17_PacketBack_un at h
    split at h
    · cases h; rfl
    · cases h
  · exact .inl rfl
noncomputable def S46 : List (Nat × Sig) := (4, law17_PacketBack_sig) :: S45
theorem S46_ok : ListOk Try.prog S46 := ListOk.cons S45_ok law17_PacketBack_ok
noncomputable def law17_PacketOnce_C : Cfg := { P := Try.prog, sig := lookSig S46, hb := fun _ _ => none, hr := fun _ _ => none, ps := lookSig P22 }
noncomputable def law17_PacketOnce_un : List DV → Option (Bool) := fun | [⟨.bool, r0⟩] => some r0 | _ => none
noncomputable def law17_PacketOnce_mk : Bool → List DV := fun r0 => [⟨.bool, r0⟩]
theorem law17_PacketOnce_ex : ∃ f : (List Int) → Option (Bool), f = fun (x0 : List Int) => funRun law17_PacketOnce_C 3 5 [(false, [(false, .slice (.int .u8))])] [(false, [(false, .bool)])] law17_PacketOnce_un [⟨.slice (.int .u8), x0⟩] := ⟨_, rfl⟩
noncomputable def law17_PacketOnce : (List Int) → Option (Bool) := law17_PacketOnce_ex.choose
theorem law17_PacketOnce_raw (x0 : List Int) : law17_PacketOnce x0 = funRun law17_PacketOnce_C 3 5 [(false, [(false, .slice (.int .u8))])] [(false, [(false, .bool)])] law17_PacketOnce_un [⟨.slice (.int .u8), x0⟩] := congrFun (law17_PacketOnce_ex.choose_spec) x0
theorem law17_PacketOnce_eq (x0 : List Int) : law17_PacketOnce x0 =
  bif decide (ilen x0 > 1500)
  then (law17_works).bind fun val2 =>
    some (val2)
  else (ref17_Seal x0).bind fun val2 =>
    (packet_Read val2).bind fun val4 =>
      bif val4.2.2.2 != 0
        then (ref17_Same val4.1 val4.2.1 val4.2.2.1 0 0 []).bind fun val8 =>
          bif val8
            then (law17_works).bind fun val12 =>
              some (val12)
            else some false
        else (packet_Put val4.1 val4.2.1 val4.2.2.1).bind fun val8 =>
          bif val8.2 == 0
            then (ref17_Seal x0).bind fun val12 =>
              (ref02_Same val8.1 val12).bind fun val14 =>
                bif val14
                  then (ref17_Check val4.1 val4.2.1 val4.2.2.1).bind fun val18 =>
                    bif val18 == 0
                      then (law17_works).bind fun val22 =>
                        some (val22)
                      else some false
                  else some false
            else some false := (law17_PacketOnce_raw x0).trans (by kernel_rfl)
noncomputable def law17_PacketOnce_sig : Sig := { pm := [(false, [(false, .slice (.int .u8))])], rm := [(false, [(false, .bool)])], f := fun | [⟨.slice (.int .u8), x0⟩] => .yes _ (law17_PacketOnce x0) law17_PacketOnce_mk | _ => .no }
theorem law17_PacketOnce_ok : SigOk Try.prog 5 law17_PacketOnce_sig := by
  refine contract_of (C := law17_PacketOnce_C) (d := 3) ⟨S46_ok, P22_ok⟩ (callable_ex (by kernel_rfl)) ?_
  intro dvs
  unfold law17_PacketOnce_sig
  dsimp only
  split
  · refine .inr ⟨_, law17_PacketOnce_un, law17_PacketOnce_mk, congrArg (fun o => Cl.yes _ o _) (law17_PacketOnce_raw _), ?_⟩
    intro ds x h
    unfold law17_PacketOnce_un at h
    split at h
    · cases h; rfl
    · cases h
  · exact .inl rfl
noncomputable def S47 : List (Nat × Sig) := (5, law17_PacketOnce_sig) :: S46
theorem S47_ok : ListOk Try.prog S47 := ListOk.cons S46_ok law17_PacketOnce_ok
noncomputable def law17_PacketTurned_C : Cfg := { P := Try.prog, sig := lookSig S47, hb := fun f b =>  bif Nat.beq f 6 && Nat.beq b 0 then some { tmps := [2, 9, 10, 11], obs := [468], nils := [], kl := [468, 300, 124] } else none, hr := fun _ _ => none, ps := lookSig P22 }
noncomputable def law17_PacketTurned_un : List DV → Option (Bool) := fun | [⟨.bool, r0⟩] => some r0 | _ => none
noncomputable def law17_PacketTurned_mk : Bool → List DV := fun r0 => [⟨.bool, r0⟩]
theorem law17_PacketTurned_ex : ∃ f : (Int) → (Int) → (List (Int × Int × Int × Int × Int × Int × Int × Int × Bool × (List (Int × (List Int))) × (List Int))) → (Int) → (Int) → Option (Bool), f = fun (x0 : Int) (x1 : Int) (x2 : List (Int × Int × Int × Int × Int × Int × Int × Int × Bool × (List (Int × (List Int))) × (List Int))) (x3 : Int) (x4 : Int) => funRun law17_PacketTurned_C 3 6 [(true, [(false, .int .i64), (false, .int .i64), (false, .slice (.pair (.int .i64) (.pair (.int .i64) (.pair (.int .i64) (.pair (.int .i64) (.pair (.int .i64) (.pair (.int .i64) (.pair (.int .i64) (.pair (.int .i64) (.pair (.bool) (.pair (.slice (.pair (.int .i64) (.slice (.int .u8)))) (.slice (.int .u8)))))))))))))]), (false, [(false, .int .i64)]), (false, [(false, .int .u32)])] [(false, [(false, .bool)])] law17_PacketTurned_un [⟨.int .i64, x0⟩, ⟨.int .i64, x1⟩, ⟨.slice (.pair (.int .i64) (.pair (.int .i64) (.pair (.int .i64) (.pair (.int .i64) (.pair (.int .i64) (.pair (.int .i64) (.pair (.int .i64) (.pair (.int .i64) (.pair (.bool) (.pair (.slice (.pair (.int .i64) (.slice (.int .u8)))) (.slice (.int .u8)))))))))))), x2⟩, ⟨.int .i64, x3⟩, ⟨.int .u32, x4⟩] := ⟨_, rfl⟩
noncomputable def law17_PacketTurned : (Int) → (Int) → (List (Int × Int × Int × Int × Int × Int × Int × Int × Bool × (List (Int × (List Int))) × (List Int))) → (Int) → (Int) → Option (Bool) := law17_PacketTurned_ex.choose
theorem law17_PacketTurned_raw (x0 : Int) (x1 : Int) (x2 : List (Int × Int × Int × Int × Int × Int × Int × Int × Bool × (List (Int × (List Int))) × (List Int))) (x3 : Int) (x4 : Int) : law17_PacketTurned x0 x1 x2 x3 x4 = funRun law17_PacketTurned_C 3 6 [(true, [(false, .int .i64), (false, .int .i64), (false, .slice (.pair (.int .i64) (.pair (.int .i64) (.pair (.int .i64) (.pair (.int .i64) (.pair (.int .i64) (.pair (.int .i64) (.pair (.int .i64) (.pair (.int .i64) (.pair (.bool) (.pair (.slice (.pair (.int .i64) (.slice (.int .u8)))) (.slice (.int .u8)))))))))))))]), (false, [(false, .int .i64)]), (false, [(false, .int .u32)])] [(false, [(false, .bool)])] law17_PacketTurned_un [⟨.int .i64, x0⟩, ⟨.int .i64, x1⟩, ⟨.slice (.pair (.int .i64) (.pair (.int .i64) (.pair (.int .i64) (.pair (.int .i64) (.pair (.int .i64) (.pair (.int .i64) (.pair (.int .i64) (.pair (.int .i64) (.pair (.bool) (.pair (.slice (.pair (.int .i64) (.slice (.int .u8)))) (.slice (.int .u8)))))))))))), x2⟩, ⟨.int .i64, x3⟩, ⟨.int .u32, x4⟩] := congrFun (congrFun (congrFun (congrFun (congrFun (law17_PacketTurned_ex.choose_spec) x0) x1) x2) x3) x4
noncomputable def law17_PacketTurned_l0 (y0 : Int) (y1 : Int) (y2 : Int) (y3 : List (Int)) : Option (Bool) := loopAt law17_PacketTurned_C 3 6 [(false, [(false, .bool)])] law17_PacketTurned_un [true, true, true, true, true, true, true, false, true, false] (St.ofLists [(2, .int .u32 y0), (9, .int .i64 y1), (10, .ow 468), (11, .int .i64 y2)] [(468, some (.row (Ty.int IntKind.u8) y3 0 false))] [468, 300, 124])
theorem law17_PacketTurned_eq (x0 : Int) (x1 : Int) (x2 : List (Int × Int × Int × Int × Int × Int × Int × Int × Bool × (List (Int × (List Int))) × (List Int))) (x3 : Int) (x4 : Int) : law17_PacketTurned x0 x1 x2 x3 x4 =
  (law17_light x2).bind fun val0 =>
  bif !val0
    then (law17_works).bind fun val4 =>
      some (val4)
    else bif x4 == 0
      then (law17_works).bind fun val6 =>
        some (val6)
      else (packet_Put x0 x1 x2).bind fun val6 =>
        bif val6.2 != 0
          then (law17_works).bind fun val10 =>
            some (val10)
          else bif decide (ilen val6.1 < 5)
            then (law17_works).bind fun val12 =>
              some (val12)
            else bif decide (IntKind.u64.wrap (IntKind.i64.wrap (ilen val6.1 - 3)) = 0)
              then none
              else bif decide ((0 + ilen val6.1) * 1 ≤ room)
                then law17_PacketTurned_l0 (x4) (IntKind.i64.wrap ((IntKind.u64.wrap x3).tmod (IntKind.u64.wrap (IntKind.i64.wrap (ilen val6.1 - 3))))) (0) ([] ++ val6.1)
                else none := (law17_PacketTurned_raw x0 x1 x2 x3 x4).trans (by kernel_rfl)
theorem law17_PacketTurned_l0_eq (y0 : Int) (y1 : Int) (y2 : Int) (y3 : List (Int)) : law17_PacketTurned_l0 y0 y1 y2 y3 =
  bif decide (y2 < 4)
  then bif decide (0 ≤ IntKind.i64.wrap (y1 + y2))
    then bif decide (IntKind.i64.wrap (y1 + y2) < ilen y3)
      then (y3[(IntKind.i64.wrap (y1 + y2)).toNat]?).bind fun val6 =>
        bif decide (IntKind.i64.wrap (8 * y2) < 0)
          then none
          else bif decide (0 ≤ IntKind.i64.wrap (y1 + y2))
            then bif decide (IntKind.i64.wrap (y1 + y2) < ilen y3)
              then (y3[(IntKind.i64.wrap (y1 + y2)).toNat]?).bind fun val14 =>
                law17_PacketTurned_l0 (y0) (y1) (IntKind.i64.wrap (y2 + 1)) (y3.set (IntKind.i64.wrap (y1 + y2)).toNat (IntKind.u8.wrap ↑(BitVec.ofInt IntKind.u8.bits val6 ^^^ BitVec.ofInt IntKind.u8.bits (IntKind.u8.wrap (y0.fdiv (2 ^ min (IntKind.i64.wrap (8 * y2)).toNat IntKind.u32.bits)))).toNat))
              else none
            else none
      else none
    else none
  else (packet_Read y3).bind fun val2 =>
    bif val2.2.2.2 == 4
      then (law17_works).bind fun val6 =>
        some (val6)
      else some false := (loopAt_step _ _ _ _ _ _ _).trans (by kernel_rfl)
noncomputable def law17_PacketTurned_sig : Sig := { pm := [(true, [(false, .int .i64), (false, .int .i64), (false, .slice (.pair (.int .i64) (.pair (.int .i64) (.pair (.int .i64) (.pair (.int .i64) (.pair (.int .i64) (.pair (.int .i64) (.pair (.int .i64) (.pair (.int .i64) (.pair (.bool) (.pair (.slice (.pair (.int .i64) (.slice (.int .u8)))) (.slice (.int .u8)))))))))))))]), (false, [(false, .int .i64)]), (false, [(false, .int .u32)])], rm := [(false, [(false, .bool)])], f := fun | [⟨.int .i64, x0⟩, ⟨.int .i64, x1⟩, ⟨.slice (.pair (.int .i64) (.pair (.int .i64) (.pair (.int .i64) (.pair (.int .i64) (.pair (.int .i64) (.pair (.int .i64) (.pair (.int .i64) (.pair (.int .i64) (.pair (.bool) (.pair (.slice (.pair (.int .i64) (.slice (.int .u8)))) (.slice (.int .u8)))))))))))), x2⟩, ⟨.int .i64, x3⟩, ⟨.int .u32, x4⟩] => .yes _ (law17_PacketTurned x0 x1 x2 x3 x4) law17_PacketTurned_mk | _ => .no }
theorem law17_PacketTurned_ok : SigOk Try.prog 6 law17_PacketTurned_sig := by
  refine contract_of (C := law17_PacketTurned_C) (d := 3) ⟨S47_ok, P22_ok⟩ (callable_ex (by kernel_rfl)) ?_
  intro dvs
  unfold law17_PacketTurned_sig
  dsimp only
  split
  · refine .inr ⟨_, law17_PacketTurned_un, law17_PacketTurned_mk, congrArg (fun o => Cl.yes _ o _) (law17_PacketTurned_raw _ _ _ _ _), ?_⟩
    intro ds x h
    unfold law17_PacketTurned_un at h
    split at h
    · cases h; rfl
    · cases h
  · exact .inl rfl
noncomputable def S48 : List (Nat × Sig) := (6, law17_PacketTurned_sig) :: S47
theorem S48_ok : ListOk Try.prog S48 := ListOk.cons S47_ok law17_PacketTurned_ok
noncomputable def law17_PacketTogether_C : Cfg := { P := Try.prog, sig := lookSig S48, hb := fun f b =>  bif Nat.beq f 7 && Nat.beq b 0 then some { tmps := [0, 1, 5, 6, 7], obs := [], nils := [], kl := [244] } else none, hr := fun _ _ => none, ps := lookSig P22 }
noncomputable def law17_PacketTogether_un : List DV → Option (Bool) := fun | [⟨.bool, r0⟩] => some r0 | _ => none
noncomputable def law17_PacketTogether_mk : Bool → List DV := fun r0 => [⟨.bool, r0⟩]
theorem law17_PacketTogether_ex : ∃ f : (Int) → (List (Int × Int × Int × Int × Int × Int × Int × Int × Bool × (List (Int × (List Int))) × (List Int))) → Option (Bool), f = fun (x0 : Int) (x1 : List (Int × Int × Int × Int × Int × Int × Int × Int × Bool × (List (Int × (List Int))) × (List Int))) => funRun law17_PacketTogether_C 3 7 [(false, [(false, .int .i64)]), (false, [(false, .slice (.pair (.int .i64) (.pair (.int .i64) (.pair (.int .i64) (.pair (.int .i64) (.pair (.int .i64) (.pair (.int .i64) (.pair (.int .i64) (.pair (.int .i64) (.pair (.bool) (.pair (.slice (.pair (.int .i64) (.slice (.int .u8)))) (.slice (.int .u8)))))))))))))])] [(false, [(false, .bool)])] law17_PacketTogether_un [⟨.int .i64, x0⟩, ⟨.slice (.pair (.int .i64) (.pair (.int .i64) (.pair (.int .i64) (.pair (.int .i64) (.pair (.int .i64) (.pair (.int .i64) (.pair (.int .i64) (.pair (.int .i64) (.pair (.bool) (.pair (.slice (.pair (.int .i64) (.slice (.int .u8)))) (.slice (.int .u8)))))))))))), x1⟩] := ⟨_, rfl⟩
noncomputable def law17_PacketTogether : (Int) → (List (Int × Int × Int × Int × Int × Int × Int × Int × Bool × (List (Int × (List Int))) × (List Int))) → Option (Bool) := law17_PacketTogether_ex.choose
theorem law17_PacketTogether_raw (x0 : Int) (x1 : List (Int × Int × Int × Int × Int × Int × Int × Int × Bool × (List (Int × (List Int))) × (List Int))) : law17_PacketTogether x0 x1 = funRun law17_PacketTogether_C 3 7 [(false, [(false, .int .i64)]), (false, [(false, .slice (.pair (.int .i64) (.pair (.int .i64) (.pair (.int .i64) (.pair (.int .i64) (.pair (.int .i64) (.pair (.int .i64) (.pair (.int .i64) (.pair (.int .i64) (.pair (.bool) (.pair (.slice (.pair (.int .i64) (.slice (.int .u8)))) (.slice (.int .u8)))))))))))))])] [(false, [(false, .bool)])] law17_PacketTogether_un [⟨.int .i64, x0⟩, ⟨.slice (.pair (.int .i64) (.pair (.int .i64) (.pair (.int .i64) (.pair (.int .i64) (.pair (.int .i64) (.pair (.int .i64) (.pair (.int .i64) (.pair (.int .i64) (.pair (.bool) (.pair (.slice (.pair (.int .i64) (.slice (.int .u8)))) (.slice (.int .u8)))))))))))), x1⟩] := congrFun (congrFun (law17_PacketTogether_ex.choose_spec) x0) x1
noncomputable def law17_PacketTogether_l0 (y0 : Int) (y1 : List ((Int) × ((Int) × ((Int) × ((Int) × ((Int) × ((Int) × ((Int) × ((Int) × ((Bool) × ((List ((Int) × (List (Int)))) × (List (Int))))))))))))) (y2 : List ((Int) × ((Int) × (List ((Int) × ((Int) × ((Int) × ((Int) × ((Int) × ((Int) × ((Int) × ((Int) × ((Bool) × ((List ((Int) × (List (Int)))) × (List (Int)))))))))))))))) (y3 : Int) (y4 : Int) : Option (Bool) := loopAt law17_PacketTogether_C 3 7 [(false, [(false, .bool)])] law17_PacketTogether_un [true, true, true, true, true, false, true, false] (St.ofLists [(0, .int .i64 y0), (1, .fz ((Ty.int IntKind.i64).pair ((Ty.int IntKind.i64).pair ((Ty.int IntKind.i64).pair ((Ty.int IntKind.i64).pair ((Ty.int IntKind.i64).pair ((Ty.int IntKind.i64).pair ((Ty.int IntKind.i64).pair ((Ty.int IntKind.i64).pair (Ty.bool.pair (((Ty.int IntKind.i64).pair (Ty.int IntKind.u8).slice).slice.pair (Ty.int IntKind.u8).slice)))))))))) y1 false false), (5, .fz ((Ty.int IntKind.i64).pair ((Ty.int IntKind.i64).pair ((Ty.int IntKind.i64).pair ((Ty.int IntKind.i64).pair ((Ty.int IntKind.i64).pair ((Ty.int IntKind.i64).pair ((Ty.int IntKind.i64).pair ((Ty.int IntKind.i64).pair ((Ty.int IntKind.i64).pair ((Ty.int IntKind.i64).pair (Ty.bool.pair (((Ty.int IntKind.i64).pair (Ty.int IntKind.u8).slice).slice.pair (Ty.int IntKind.u8).slice)))))))))).slice)) y2 false false), (6, .int .i64 y3), (7, .int .i64 y4)] [] [244])
theorem law17_PacketTogether_eq (x0 : Int) (x1 : List (Int × Int × Int × Int × Int × Int × Int × Int × Bool × (List (Int × (List Int))) × (List Int))) : law17_PacketTogether x0 x1 =
  (law17_light x1).bind fun val0 =>
  bif !val0
    then (law17_works).bind fun val4 =>
      some (val4)
    else (packet_Together x0 x1).bind fun val4 =>
      (ref17_Together x0 x1).bind fun val6 =>
        (ref17_SameAll val4 val6).bind fun val8 =>
          bif !val8
            then some false
            else law17_PacketTogether_l0 (x0) (x1) (val4) (0) (0) := (law17_PacketTogether_raw x0 x1).trans (by kernel_rfl)
theorem law17_PacketTogether_l0_eq (y0 : Int) (y1 : List ((Int) × ((Int) × ((Int) × ((Int) × ((Int) × ((Int) × ((Int) × ((Int) × ((Bool) × ((List ((Int) × (List (Int)))) × (List (Int))))))))))))) (y2 : List ((Int) × ((Int) × (List ((Int) × ((Int) × ((Int) × ((Int) × ((Int) × ((Int) × ((Int) × ((Int) × ((Bool) × ((List ((Int) × (List (Int)))) × (List (Int)))))))))))))))) (y3 : Int) (y4 : Int) : law17_PacketTogether_l0 y0 y1 y2 y3 y4 =
  bif decide (y4 < ilen y2)
  then bif decide (0 ≤ y4)
    then (y2[y4.toNat]?).bind fun val4 =>
      bif decide (0 ≤ y4)
        then (y2[y4.toNat]?).bind fun val8 =>
          bif val8.fst != y0
            then some false
            else bif decide (0 ≤ y4)
              then (y2[y4.toNat]?).bind fun val14 =>
                bif val14.snd.fst == y0
                  then some false
                  else bif decide (y4 > 0)
                    then bif decide (0 ≤ IntKind.i64.wrap (y4 - 1))
                      then (y2[(IntKind.i64.wrap (y4 - 1)).toNat]?).bind fun val22 =>
                        bif decide (0 ≤ y4)
                          then (y2[y4.toNat]?).bind fun val26 =>
                            bif decide (val22.snd.fst ≥ val26.snd.fst)
                              then some false
                              else law17_PacketTogether_l0 (y0) (y1) (y2) (IntKind.i64.wrap (y3 + ilen val4.snd.snd)) (IntKind.i64.wrap (y4 + 1))
                          else none
                      else none
                    else law17_PacketTogether_l0 (y0) (y1) (y2) (IntKind.i64.wrap (y3 + ilen val4.snd.snd)) (IntKind.i64.wrap (y4 + 1))
              else none
        else none
    else none
  else bif decide (y3 ≤ ilen y1)
    then (law17_works).bind fun val4 =>
      some (val4)
    else some false := (loopAt_step _ _ _ _ _ _ _).trans (by kernel_rfl)
noncomputable def law17_PacketTogether_sig : Sig := { pm := [(false, [(false, .int .i64)]), (false, [(false, .slice (.pair (.int .i64) (.pair (.int .i64) (.pair (.int .i64) (.pair (.int .i64) (.pair (.int .i64) (.pair (.int .i64) (.pair (.int .i64) (.pair (.int .i64) (.pair (.bool) (.pair (.slice (.pair (.int .i64) (.slice (.int .u8)))) (.slice (.int .u8)))))))))))))])], rm := [(false, [(false, .bool)])], f := fun | [⟨.int .i64, x0⟩, ⟨.slice (.pair (.int .i64) (.pair (.int .i64) (.pair (.int .i64) (.pair (.int .i64) (.pair (.int .i64) (.pair (.int .i64) (.pair (.int .i64) (.pair (.int .i64) (.pair (.bool) (.pair (.slice (.pair (.int .i64) (.slice (.int .u8)))) (.slice (.int .u8)))))))))))), x1⟩] => .yes _ (law17_PacketTogether x0 x1) law17_PacketTogether_mk | _ => .no }
theorem law17_PacketTogether_ok : SigOk Try.prog 7 law17_PacketTogether_sig := by
  refine contract_of (C := law17_PacketTogether_C) (d := 3) ⟨S48_ok, P22_ok⟩ (callable_ex (by kernel_rfl)) ?_
  intro dvs
  unfold law17_PacketTogether_sig
  dsimp only
  split
  · refine .inr ⟨_, law17_PacketTogether_un, law17_PacketTogether_mk, congrArg (fun o => Cl.yes _ o _) (law17_PacketTogether_raw _ _), ?_⟩
    intro ds x h
    unfold law17_PacketTogether_un at h
    split at h
    · cases h; rfl
    · cases h
  · exact .inl rfl
noncomputable def S49 : List (Nat × Sig) := (7, law17_PacketTogether_sig) :: S48
theorem S49_ok : ListOk Try.prog S49 := ListOk.cons S48_ok law17_PacketTogether_ok
end Go.Proofs.Ytpoblfpjjlplbaa.PE
