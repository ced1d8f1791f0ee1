import Derived.Test.YtopbcdeamdplfaaEFun
import Derived.KernelRfl
namespace Go.Proofs.Ytopbcdeamdplfaa.PE
set_option linter.unusedVariables false
open Go.Proofs
noncomputable def S0 : List (Nat × Sig) := []
theorem S0_ok : ListOk Try.prog S0 := ListOk.nil
noncomputable def pack_ReadUint_C : Cfg := { P := Try.prog, sig := lookSig S0, hb := fun f b => bif Nat.beq f 9 && Nat.beq b 0 then some { tmps := [0, 5, 10, 11], obs := [], nils := [], kl := [] } else none, hr := fun _ _ => none }
noncomputable def pack_ReadUint_un : List DV → Option (Int × (List Int) × Int) := fun | [⟨.int .u64, r0⟩, ⟨.slice (.int .u8), r1⟩, ⟨.int .i64, r2⟩] => some (r0, r1, r2) | _ => none
noncomputable def pack_ReadUint_mk : (Int × (List Int) × Int) → List DV := fun ⟨r0, r1, r2⟩ => [⟨.int .u64, r0⟩, ⟨.slice (.int .u8), r1⟩, ⟨.int .i64, r2⟩]
theorem pack_ReadUint_ex : ∃ f : (List Int) → Option (Int × (List Int) × Int), f = fun (x0 : List Int) => funRun pack_ReadUint_C 3 9 [(false, [(false, .slice (.int .u8))])] [(false, [(false, .int .u64)]), (false, [(false, .slice (.int .u8))]), (false, [(false, .int .i64)])] pack_ReadUint_un [⟨.slice (.int .u8), x0⟩] := ⟨_, rfl⟩
noncomputable def pack_ReadUint : (List Int) → Option (Int × (List Int) × Int) := pack_ReadUint_ex.choose
theorem pack_ReadUint_raw (x0 : List Int) : pack_ReadUint x0 = funRun pack_ReadUint_C 3 9 [(false, [(false, .slice (.int .u8))])] [(false, [(false, .int .u64)]), (false, [(false, .slice (.int .u8))]), (false, [(false, .int .i64)])] pack_ReadUint_un [⟨.slice (.int .u8), x0⟩] := congrFun (pack_ReadUint_ex.choose_spec) x0
noncomputable def pack_ReadUint_l0 (y0 : List (Int)) (y1 : Int) (y2 : Int) (y3 : Int) : Option (Int × (List Int) × Int) := loopAt pack_ReadUint_C 3 9 [(false, [(false, .int .u64)]), (false, [(false, .slice (.int .u8))]), (false, [(false, .int .i64)])] pack_ReadUint_un [true, true, false, true, false] (St.ofLists [(0, .fz (Ty.int IntKind.u8) y0 false false), (5, .int .u64 y1), (10, .int .i64 y2), (11, .int .i64 y3)] [] [])
theorem pack_ReadUint_eq (x0 : List Int) : pack_ReadUint x0 =
  pack_ReadUint_l0 (x0) (0) (if 10 < ilen x0 then 10 else ilen x0) (0) := (pack_ReadUint_raw x0).trans (by kernel_rfl)
theorem pack_ReadUint_l0_eq (y0 : List (Int)) (y1 : Int) (y2 : Int) (y3 : Int) : pack_ReadUint_l0 y0 y1 y2 y3 =
  bif decide (y3 < y2)
  then bif decide (0 ≤ y3)
    then (y0[y3.toNat]?).bind fun val4 =>
      bif y3 == 9
        then bif decide (IntKind.u64.wrap val4 > 1)
          then some ((0), (([]), (2)))
          else bif decide (IntKind.i64.wrap (7 * y3) < 0)
            then none
            else bif decide (IntKind.u64.wrap val4 < 128)
              then bif IntKind.u64.wrap val4 == 0
                then bif decide (y3 > 0)
                  then some ((0), (([]), (2)))
                  else bif decide (0 ≤ IntKind.i64.wrap (y3 + 1))
                    then bif decide (IntKind.i64.wrap (y3 + 1) ≤ ilen y0)
                      then bif decide (ilen y0 ≤ ilen y0)
                        then some ((IntKind.u64.wrap ↑(BitVec.ofInt IntKind.u64.bits y1 ||| BitVec.ofInt IntKind.u64.bits (IntKind.u64.wrap (IntKind.u64.wrap ↑(BitVec.ofInt IntKind.u64.bits (IntKind.u64.wrap val4) &&& BitVec.ofInt IntKind.u64.bits 127).toNat * 2 ^ min (IntKind.i64.wrap (7 * y3)).toNat IntKind.u64.bits))).toNat), ((List.drop (IntKind.i64.wrap (y3 + 1)).toNat (List.take (ilen y0).toNat y0)), (0)))
                        else none
                      else none
                    else none
                else bif decide (0 ≤ IntKind.i64.wrap (y3 + 1))
                  then bif decide (IntKind.i64.wrap (y3 + 1) ≤ ilen y0)
                    then bif decide (ilen y0 ≤ ilen y0)
                      then some ((IntKind.u64.wrap ↑(BitVec.ofInt IntKind.u64.bits y1 ||| BitVec.ofInt IntKind.u64.bits (IntKind.u64.wrap (IntKind.u64.wrap ↑(BitVec.ofInt IntKind.u64.bits (IntKind.u64.wrap val4) &&& BitVec.ofInt IntKind.u64.bits 127).toNat * 2 ^ min (IntKind.i64.wrap (7 * y3)).toNat IntKind.u64.bits))).toNat), ((List.drop (IntKind.i64.wrap (y3 + 1)).toNat (List.take (ilen y0).toNat y0)), (0)))
                      else none
                    else none
                  else none
              else pack_ReadUint_l0 (y0) (IntKind.u64.wrap ↑(BitVec.ofInt IntKind.u64.bits y1 ||| BitVec.ofInt IntKind.u64.bits (IntKind.u64.wrap (IntKind.u64.wrap ↑(BitVec.ofInt IntKind.u64.bits (IntKind.u64.wrap val4) &&& BitVec.ofInt IntKind.u64.bits 127).toNat * 2 ^ min (IntKind.i64.wrap (7 * y3)).toNat IntKind.u64.bits))).toNat) (y2) (IntKind.i64.wrap (y3 + 1))
        else bif decide (IntKind.i64.wrap (7 * y3) < 0)
          then none
          else bif decide (IntKind.u64.wrap val4 < 128)
            then bif IntKind.u64.wrap val4 == 0
              then bif decide (y3 > 0)
                then some ((0), (([]), (2)))
                else bif decide (0 ≤ IntKind.i64.wrap (y3 + 1))
                  then bif decide (IntKind.i64.wrap (y3 + 1) ≤ ilen y0)
                    then bif decide (ilen y0 ≤ ilen y0)
                      then some ((IntKind.u64.wrap ↑(BitVec.ofInt IntKind.u64.bits y1 ||| BitVec.ofInt IntKind.u64.bits (IntKind.u64.wrap (IntKind.u64.wrap ↑(BitVec.ofInt IntKind.u64.bits (IntKind.u64.wrap val4) &&& BitVec.ofInt IntKind.u64.bits 127).toNat * 2 ^ min (IntKind.i64.wrap (7 * y3)).toNat IntKind.u64.bits))).toNat), ((List.drop (IntKind.i64.wrap (y3 + 1)).toNat (List.take (ilen y0).toNat y0)), (0)))
                      else none
                    else none
                  else none
              else bif decide (0 ≤ IntKind.i64.wrap (y3 + 1))
                then bif decide (IntKind.i64.wrap (y3 + 1) ≤ ilen y0)
                  then bif decide (ilen y0 ≤ ilen y0)
                    then some ((IntKind.u64.wrap ↑(BitVec.ofInt IntKind.u64.bits y1 ||| BitVec.ofInt IntKind.u64.bits (IntKind.u64.wrap (IntKind.u64.wrap ↑(BitVec.ofInt IntKind.u64.bits (IntKind.u64.wrap val4) &&& BitVec.ofInt IntKind.u64.bits 127).toNat * 2 ^ min (IntKind.i64.wrap (7 * y3)).toNat IntKind.u64.bits))).toNat), ((List.drop (IntKind.i64.wrap (y3 + 1)).toNat (List.take (ilen y0).toNat y0)), (0)))
                    else none
                  else none
                else none
            else pack_ReadUint_l0 (y0) (IntKind.u64.wrap ↑(BitVec.ofInt IntKind.u64.bits y1 ||| BitVec.ofInt IntKind.u64.bits (IntKind.u64.wrap (IntKind.u64.wrap ↑(BitVec.ofInt IntKind.u64.bits (IntKind.u64.wrap val4) &&& BitVec.ofInt IntKind.u64.bits 127).toNat * 2 ^ min (IntKind.i64.wrap (7 * y3)).toNat IntKind.u64.bits))).toNat) (y2) (IntKind.i64.wrap (y3 + 1))
    else none
  else some ((0), (([]), (5))) := (loopAt_step _ _ _ _ _ _ _).trans (by kernel_rfl)
noncomputable def pack_ReadUint_sig : Sig := { pm := [(false, [(false, .slice (.int .u8))])], rm := [(false, [(false, .int .u64)]), (false, [(false, .slice (.int .u8))]), (false, [(false, .int .i64)])], f := fun | [⟨.slice (.int .u8), x0⟩] => .yes _ (pack_ReadUint x0) pack_ReadUint_mk | _ => .no }
theorem pack_ReadUint_ok : SigOk Try.prog 9 pack_ReadUint_sig := by
  refine contract_of (C := pack_ReadUint_C) (d := 3) S0_ok (callable_ex (by kernel_rfl)) ?_
  intro dvs
  unfold pack_ReadUint_sig
  dsimp only
  split
  · refine .inr ⟨_, pack_ReadUint_un, pack_ReadUint_mk, congrArg (fun o => Cl.yes _ o _) (pack_ReadUint_raw _), ?_⟩
    intro ds x h
    unfold pack_ReadUint_un at h
    split at h
    · cases h; rfl
    · cases h
  · exact .inl rfl
noncomputable def S1 : List (Nat × Sig) := (9, pack_ReadUint_sig) :: S0
theorem S1_ok : ListOk Try.prog S1 := ListOk.cons S0_ok pack_ReadUint_ok
noncomputable def ref02_ReadUint_C : Cfg := { P := Try.prog, sig := lookSig S1, hb := fun f b => bif Nat.beq f 10 && Nat.beq b 0 then some { tmps := [0, 5], obs := [], nils := [], kl := [] } else bif Nat.beq f 10 && Nat.beq b 2 then some { tmps := [0, 5, 6, 7], obs := [], nils := [], kl := [] } else none, hr := fun _ _ => none }
noncomputable def ref02_ReadUint_un : List DV → Option (Int × Int × Int) := fun | [⟨.int .u64, r0⟩, ⟨.int .i64, r1⟩, ⟨.int .i64, r2⟩] => some (r0, r1, r2) | _ => none
noncomputable def ref02_ReadUint_mk : (Int × Int × Int) → List DV := fun ⟨r0, r1, r2⟩ => [⟨.int .u64, r0⟩, ⟨.int .i64, r1⟩, ⟨.int .i64, r2⟩]
theorem ref02_ReadUint_ex : ∃ f : (List Int) → Option (Int × Int × Int), f = fun (x0 : List Int) => funRun ref02_ReadUint_C 3 10 [(false, [(false, .slice (.int .u8))])] [(false, [(false, .int .u64)]), (false, [(false, .int .i64)]), (false, [(false, .int .i64)])] ref02_ReadUint_un [⟨.slice (.int .u8), x0⟩] := ⟨_, rfl⟩
noncomputable def ref02_ReadUint : (List Int) → Option (Int × Int × Int) := ref02_ReadUint_ex.choose
theorem ref02_ReadUint_raw (x0 : List Int) : ref02_ReadUint x0 = funRun ref02_ReadUint_C 3 10 [(false, [(false, .slice (.int .u8))])] [(false, [(false, .int .u64)]), (false, [(false, .int .i64)]), (false, [(false, .int .i64)])] ref02_ReadUint_un [⟨.slice (.int .u8), x0⟩] := congrFun (ref02_ReadUint_ex.choose_spec) x0
noncomputable def ref02_ReadUint_l0 (y0 : List (Int)) (y1 : Int) : Option (Int × Int × Int) := loopAt ref02_ReadUint_C 3 10 [(false, [(false, .int .u64)]), (false, [(false, .int .i64)]), (false, [(false, .int .i64)])] ref02_ReadUint_un [true, true, false, false] (St.ofLists [(0, .fz (Ty.int IntKind.u8) y0 false false), (5, .int .i64 y1)] [] [])
noncomputable def ref02_ReadUint_l2 (y0 : List (Int)) (y1 : Int) (y2 : Int) (y3 : Int) : Option (Int × Int × Int) := loopAt ref02_ReadUint_C 3 10 [(false, [(false, .int .u64)]), (false, [(false, .int .i64)]), (false, [(false, .int .i64)])] ref02_ReadUint_un [true, true, true, true, true, true, true, false, true, false] (St.ofLists [(0, .fz (Ty.int IntKind.u8) y0 false false), (5, .int .i64 y1), (6, .int .u64 y2), (7, .int .i64 y3)] [] [])
theorem ref02_ReadUint_eq (x0 : List Int) : ref02_ReadUint x0 =
  ref02_ReadUint_l0 (x0) (0) := (ref02_ReadUint_raw x0).trans (by kernel_rfl)
theorem ref02_ReadUint_l0_eq (y0 : List (Int)) (y1 : Int) : ref02_ReadUint_l0 y0 y1 =
  bif decide (y1 < ilen y0)
  then bif decide (y1 < 10)
    then bif decide (0 ≤ y1)
      then (y0[y1.toNat]?).bind fun val6 =>
        bif decide (val6 > 127)
          then ref02_ReadUint_l0 (y0) (IntKind.i64.wrap (y1 + 1))
          else bif decide (y1 < 10)
            then bif decide (y1 ≥ ilen y0)
              then some ((0), ((0), (5)))
              else bif decide (y1 ≥ 9)
                then (y0[Int.toNat 9]?).bind fun val16 =>
                  bif decide (val16 > 1)
                    then some ((0), ((0), (2)))
                    else bif decide (y1 > 0)
                      then bif decide (0 ≤ y1)
                        then (y0[y1.toNat]?).bind fun val24 =>
                          bif val24 == 0
                            then some ((0), ((0), (2)))
                            else ref02_ReadUint_l2 (y0) (y1) (0) (y1)
                        else none
                      else ref02_ReadUint_l2 (y0) (y1) (0) (y1)
                else bif decide (y1 > 0)
                  then bif decide (0 ≤ y1)
                    then (y0[y1.toNat]?).bind fun val20 =>
                      bif val20 == 0
                        then some ((0), ((0), (2)))
                        else ref02_ReadUint_l2 (y0) (y1) (0) (y1)
                    else none
                  else ref02_ReadUint_l2 (y0) (y1) (0) (y1)
            else bif decide (y1 ≥ 9)
              then (y0[Int.toNat 9]?).bind fun val14 =>
                bif decide (val14 > 1)
                  then some ((0), ((0), (2)))
                  else bif decide (y1 > 0)
                    then bif decide (0 ≤ y1)
                      then (y0[y1.toNat]?).bind fun val22 =>
                        bif val22 == 0
                          then some ((0), ((0), (2)))
                          else ref02_ReadUint_l2 (y0) (y1) (0) (y1)
                      else none
                    else ref02_ReadUint_l2 (y0) (y1) (0) (y1)
              else bif decide (y1 > 0)
                then bif decide (0 ≤ y1)
                  then (y0[y1.toNat]?).bind fun val18 =>
                    bif val18 == 0
                      then some ((0), ((0), (2)))
                      else ref02_ReadUint_l2 (y0) (y1) (0) (y1)
                  else none
                else ref02_ReadUint_l2 (y0) (y1) (0) (y1)
      else none
    else bif decide (y1 < 10)
      then bif decide (y1 ≥ ilen y0)
        then some ((0), ((0), (5)))
        else bif decide (y1 ≥ 9)
          then (y0[Int.toNat 9]?).bind fun val10 =>
            bif decide (val10 > 1)
              then some ((0), ((0), (2)))
              else bif decide (y1 > 0)
                then bif decide (0 ≤ y1)
                  then (y0[y1.toNat]?).bind fun val18 =>
                    bif val18 == 0
                      then some ((0), ((0), (2)))
                      else ref02_ReadUint_l2 (y0) (y1) (0) (y1)
                  else none
                else ref02_ReadUint_l2 (y0) (y1) (0) (y1)
          else bif decide (y1 > 0)
            then bif decide (0 ≤ y1)
              then (y0[y1.toNat]?).bind fun val14 =>
                bif val14 == 0
                  then some ((0), ((0), (2)))
                  else ref02_ReadUint_l2 (y0) (y1) (0) (y1)
              else none
            else ref02_ReadUint_l2 (y0) (y1) (0) (y1)
      else bif decide (y1 ≥ 9)
        then (y0[Int.toNat 9]?).bind fun val8 =>
          bif decide (val8 > 1)
            then some ((0), ((0), (2)))
            else bif decide (y1 > 0)
              then bif decide (0 ≤ y1)
                then (y0[y1.toNat]?).bind fun val16 =>
                  bif val16 == 0
                    then some ((0), ((0), (2)))
                    else ref02_ReadUint_l2 (y0) (y1) (0) (y1)
                else none
              else ref02_ReadUint_l2 (y0) (y1) (0) (y1)
        else bif decide (y1 > 0)
          then bif decide (0 ≤ y1)
            then (y0[y1.toNat]?).bind fun val12 =>
              bif val12 == 0
                then some ((0), ((0), (2)))
                else ref02_ReadUint_l2 (y0) (y1) (0) (y1)
            else none
          else ref02_ReadUint_l2 (y0) (y1) (0) (y1)
  else bif decide (y1 < 10)
    then bif decide (y1 ≥ ilen y0)
      then some ((0), ((0), (5)))
      else bif decide (y1 ≥ 9)
        then (y0[Int.toNat 9]?).bind fun val8 =>
          bif decide (val8 > 1)
            then some ((0), ((0), (2)))
            else bif decide (y1 > 0)
              then bif decide (0 ≤ y1)
                then (y0[y1.toNat]?).bind fun val16 =>
                  bif val16 == 0
                    then some ((0), ((0), (2)))
                    else ref02_ReadUint_l2 (y0) (y1) (0) (y1)
                else none
              else ref02_ReadUint_l2 (y0) (y1) (0) (y1)
        else bif decide (y1 > 0)
          then bif decide (0 ≤ y1)
            then (y0[y1.toNat]?).bind fun val12 =>
              bif val12 == 0
                then some ((0), ((0), (2)))
                else ref02_ReadUint_l2 (y0) (y1) (0) (y1)
            else none
          else ref02_ReadUint_l2 (y0) (y1) (0) (y1)
    else bif decide (y1 ≥ 9)
      then (y0[Int.toNat 9]?).bind fun val6 =>
        bif decide (val6 > 1)
          then some ((0), ((0), (2)))
          else bif decide (y1 > 0)
            then bif decide (0 ≤ y1)
              then (y0[y1.toNat]?).bind fun val14 =>
                bif val14 == 0
                  then some ((0), ((0), (2)))
                  else ref02_ReadUint_l2 (y0) (y1) (0) (y1)
              else none
            else ref02_ReadUint_l2 (y0) (y1) (0) (y1)
      else bif decide (y1 > 0)
        then bif decide (0 ≤ y1)
          then (y0[y1.toNat]?).bind fun val10 =>
            bif val10 == 0
              then some ((0), ((0), (2)))
              else ref02_ReadUint_l2 (y0) (y1) (0) (y1)
          else none
        else ref02_ReadUint_l2 (y0) (y1) (0) (y1) := (loopAt_step _ _ _ _ _ _ _).trans (by kernel_rfl)
theorem ref02_ReadUint_l2_eq (y0 : List (Int)) (y1 : Int) (y2 : Int) (y3 : Int) : ref02_ReadUint_l2 y0 y1 y2 y3 =
  bif decide (y3 ≥ 0)
  then bif decide (0 ≤ y3)
    then (y0[y3.toNat]?).bind fun val4 =>
      ref02_ReadUint_l2 (y0) (y1) (IntKind.u64.wrap (IntKind.u64.wrap (y2 * 128) + IntKind.u64.wrap (Int.tmod val4 128))) (IntKind.i64.wrap (y3 - 1))
    else none
  else some ((y2), ((IntKind.i64.wrap (y1 + 1)), (0))) := (loopAt_step _ _ _ _ _ _ _).trans (by kernel_rfl)
noncomputable def ref02_ReadUint_sig : Sig := { pm := [(false, [(false, .slice (.int .u8))])], rm := [(false, [(false, .int .u64)]), (false, [(false, .int .i64)]), (false, [(false, .int .i64)])], f := fun | [⟨.slice (.int .u8), x0⟩] => .yes _ (ref02_ReadUint x0) ref02_ReadUint_mk | _ => .no }
theorem ref02_ReadUint_ok : SigOk Try.prog 10 ref02_ReadUint_sig := by
  refine contract_of (C := ref02_ReadUint_C) (d := 3) S1_ok (callable_ex (by kernel_rfl)) ?_
  intro dvs
  unfold ref02_ReadUint_sig
  dsimp only
  split
  · refine .inr ⟨_, ref02_ReadUint_un, ref02_ReadUint_mk, congrArg (fun o => Cl.yes _ o _) (ref02_ReadUint_raw _), ?_⟩
    intro ds x h
    unfold ref02_ReadUint_un at h
    split at h
    · cases h; rfl
    · cases h
  · exact .inl rfl
noncomputable def S2 : List (Nat × Sig) := (10, ref02_ReadUint_sig) :: S1
theorem S2_ok : ListOk Try.prog S2 := ListOk.cons S1_ok ref02_ReadUint_ok
noncomputable def ref02_Same_C : Cfg := { P := Try.prog, sig := lookSig S2, hb := fun _ _ => none, hr := fun _ _ => none }
noncomputable def ref02_Same_un : List DV → Option (Bool) := fun | [⟨.bool, r0⟩] => some r0 | _ => none
noncomputable def ref02_Same_mk : Bool → List DV := fun r0 => [⟨.bool, r0⟩]
theorem ref02_Same_ex : ∃ f : (List Int) → (List Int) → Option (Bool), f = fun (x0 : List Int) (x1 : List Int) => funRun ref02_Same_C 3 11 [(false, [(false, .slice (.int .u8))]), (false, [(false, .slice (.int .u8))])] [(false, [(false, .bool)])] ref02_Same_un [⟨.slice (.int .u8), x0⟩, ⟨.slice (.int .u8), x1⟩] := ⟨_, rfl⟩
noncomputable def ref02_Same : (List Int) → (List Int) → Option (Bool) := ref02_Same_ex.choose
theorem ref02_Same_raw (x0 : List Int) (x1 : List Int) : ref02_Same x0 x1 = funRun ref02_Same_C 3 11 [(false, [(false, .slice (.int .u8))]), (false, [(false, .slice (.int .u8))])] [(false, [(false, .bool)])] ref02_Same_un [⟨.slice (.int .u8), x0⟩, ⟨.slice (.int .u8), x1⟩] := congrFun (congrFun (ref02_Same_ex.choose_spec) x0) x1
theorem ref02_Same_eq (x0 : List Int) (x1 : List Int) : ref02_Same x0 x1 =
  some ((strOf x0).toList == (strOf x1).toList) := (ref02_Same_raw x0 x1).trans (by kernel_rfl)
noncomputable def ref02_Same_sig : Sig := { pm := [(false, [(false, .slice (.int .u8))]), (false, [(false, .slice (.int .u8))])], rm := [(false, [(false, .bool)])], f := fun | [⟨.slice (.int .u8), x0⟩, ⟨.slice (.int .u8), x1⟩] => .yes _ (ref02_Same x0 x1) ref02_Same_mk | _ => .no }
theorem ref02_Same_ok : SigOk Try.prog 11 ref02_Same_sig := by
  refine contract_of (C := ref02_Same_C) (d := 3) S2_ok (callable_ex (by kernel_rfl)) ?_
  intro dvs
  unfold ref02_Same_sig
  dsimp only
  split
  · refine .inr ⟨_, ref02_Same_un, ref02_Same_mk, congrArg (fun o => Cl.yes _ o _) (ref02_Same_raw _ _), ?_⟩
    intro ds x h
    unfold ref02_Same_un at h
    split at h
    · cases h; rfl
    · cases h
  · exact .inl rfl
noncomputable def S3 : List (Nat × Sig) := (11, ref02_Same_sig) :: S2
theorem S3_ok : ListOk Try.prog S3 := ListOk.cons S2_ok ref02_Same_ok
noncomputable def pack_ReadInt_C : Cfg := { P := Try.prog, sig := lookSig S3, hb := fun _ _ => none, hr := fun _ _ => none }
noncomputable def pack_ReadInt_un : List DV → Option (Int × (List Int) × Int) := fun | [⟨.int .i64, r0⟩, ⟨.slice (.int .u8), r1⟩, ⟨.int .i64, r2⟩] => some (r0, r1, r2) | _ => none
noncomputable def pack_ReadInt_mk : (Int × (List Int) × Int) → List DV := fun ⟨r0, r1, r2⟩ => [⟨.int .i64, r0⟩, ⟨.slice (.int .u8), r1⟩, ⟨.int .i64, r2⟩]
theorem pack_ReadInt_ex : ∃ f : (List Int) → Option (Int × (List Int) × Int), f = fun (x0 : List Int) => funRun pack_ReadInt_C 3 12 [(false, [(false, .slice (.int .u8))])] [(false, [(false, .int .i64)]), (false, [(false, .slice (.int .u8))]), (false, [(false, .int .i64)])] pack_ReadInt_un [⟨.slice (.int .u8), x0⟩] := ⟨_, rfl⟩
noncomputable def pack_ReadInt : (List Int) → Option (Int × (List Int) × Int) := pack_ReadInt_ex.choose
theorem pack_ReadInt_raw (x0 : List Int) : pack_ReadInt x0 = funRun pack_ReadInt_C 3 12 [(false, [(false, .slice (.int .u8))])] [(false, [(false, .int .i64)]), (false, [(false, .slice (.int .u8))]), (false, [(false, .int .i64)])] pack_ReadInt_un [⟨.slice (.int .u8), x0⟩] := congrFun (pack_ReadInt_ex.choose_spec) x0
theorem pack_ReadInt_eq (x0 : List Int) : pack_ReadInt x0 =
  (pack_ReadUint x0).bind fun val0 =>
  some ((IntKind.i64.wrap ↑(BitVec.ofInt IntKind.i64.bits (IntKind.i64.wrap (val0.1.fdiv (2 ^ min (Int.toNat 1) IntKind.u64.bits))) ^^^ BitVec.ofInt IntKind.i64.bits (IntKind.i64.wrap (0 - IntKind.i64.wrap (IntKind.u64.wrap ↑(BitVec.ofInt IntKind.u64.bits val0.1 &&& BitVec.ofInt IntKind.u64.bits 1).toNat)))).toNat), ((val0.2.1), (val0.2.2))) := (pack_ReadInt_raw x0).trans (by kernel_rfl)
noncomputable def pack_ReadInt_sig : Sig := { pm := [(false, [(false, .slice (.int .u8))])], rm := [(false, [(false, .int .i64)]), (false, [(false, .slice (.int .u8))]), (false, [(false, .int .i64)])], f := fun | [⟨.slice (.int .u8), x0⟩] => .yes _ (pack_ReadInt x0) pack_ReadInt_mk | _ => .no }
theorem pack_ReadInt_ok : SigOk Try.prog 12 pack_ReadInt_sig := by
  refine contract_of (C := pack_ReadInt_C) (d := 3) S3_ok (callable_ex (by kernel_rfl)) ?_
  intro dvs
  unfold pack_ReadInt_sig
  dsimp only
  split
  · refine .inr ⟨_, pack_ReadInt_un, pack_ReadInt_mk, congrArg (fun o => Cl.yes _ o _) (pack_ReadInt_raw _), ?_⟩
    intro ds x h
    unfold pack_ReadInt_un at h
    split at h
    · cases h; rfl
    · cases h
  · exact .inl rfl
noncomputable def S4 : List (Nat × Sig) := (12, pack_ReadInt_sig) :: S3
theorem S4_ok : ListOk Try.prog S4 := ListOk.cons S3_ok pack_ReadInt_ok
noncomputable def ref02_ReadInt_C : Cfg := { P := Try.prog, sig := lookSig S4, hb := fun _ _ => none, hr := fun _ _ => none }
noncomputable def ref02_ReadInt_un : List DV → Option (Int × Int × Int) := fun | [⟨.int .i64, r0⟩, ⟨.int .i64, r1⟩, ⟨.int .i64, r2⟩] => some (r0, r1, r2) | _ => none
noncomputable def ref02_ReadInt_mk : (Int × Int × Int) → List DV := fun ⟨r0, r1, r2⟩ => [⟨.int .i64, r0⟩, ⟨.int .i64, r1⟩, ⟨.int .i64, r2⟩]
theorem ref02_ReadInt_ex : ∃ f : (List Int) → Option (Int × Int × Int), f = fun (x0 : List Int) => funRun ref02_ReadInt_C 3 13 [(false, [(false, .slice (.int .u8))])] [(false, [(false, .int .i64)]), (false, [(false, .int .i64)]), (false, [(false, .int .i64)])] ref02_ReadInt_un [⟨.slice (.int .u8), x0⟩] := ⟨_, rfl⟩
noncomputable def ref02_ReadInt : (List Int) → Option (Int × Int × Int) := ref02_ReadInt_ex.choose
theorem ref02_ReadInt_raw (x0 : List Int) : ref02_ReadInt x0 = funRun ref02_ReadInt_C 3 13 [(false, [(false, .slice (.int .u8))])] [(false, [(false, .int .i64)]), (false, [(false, .int .i64)]), (false, [(false, .int .i64)])] ref02_ReadInt_un [⟨.slice (.int .u8), x0⟩] := congrFun (ref02_ReadInt_ex.choose_spec) x0
theorem ref02_ReadInt_eq (x0 : List Int) : ref02_ReadInt x0 =
  (ref02_ReadUint x0).bind fun val0 =>
  bif val0.2.2 != 0
    then some ((0), ((0), (val0.2.2)))
    else bif val0.1.tmod 2 == 0
      then some ((IntKind.i64.wrap (IntKind.u64.wrap (val0.1.tdiv 2))), ((val0.2.1), (0)))
      else some ((IntKind.i64.wrap (IntKind.i64.wrap (0 - IntKind.i64.wrap (IntKind.u64.wrap (val0.1.tdiv 2))) - 1)), ((val0.2.1), (0))) := (ref02_ReadInt_raw x0).trans (by kernel_rfl)
noncomputable def ref02_ReadInt_sig : Sig := { pm := [(false, [(false, .slice (.int .u8))])], rm := [(false, [(false, .int .i64)]), (false, [(false, .int .i64)]), (false, [(false, .int .i64)])], f := fun | [⟨.slice (.int .u8), x0⟩] => .yes _ (ref02_ReadInt x0) ref02_ReadInt_mk | _ => .no }
theorem ref02_ReadInt_ok : SigOk Try.prog 13 ref02_ReadInt_sig := by
  refine contract_of (C := ref02_ReadInt_C) (d := 3) S4_ok (callable_ex (by kernel_rfl)) ?_
  intro dvs
  unfold ref02_ReadInt_sig
  dsimp only
  split
  · refine .inr ⟨_, ref02_ReadInt_un, ref02_ReadInt_mk, congrArg (fun o => Cl.yes _ o _) (ref02_ReadInt_raw _), ?_⟩
    intro ds x h
    unfold ref02_ReadInt_un at h
    split at h
    · cases h; rfl
    · cases h
  · exact .inl rfl
noncomputable def S5 : List (Nat × Sig) := (13, ref02_ReadInt_sig) :: S4
theorem S5_ok : ListOk Try.prog S5 := ListOk.cons S4_ok ref02_ReadInt_ok
noncomputable def pack_ReadBytes_C : Cfg := { P := Try.prog, sig := lookSig S5, hb := fun _ _ => none, hr := fun _ _ => none }
noncomputable def pack_ReadBytes_un : List DV → Option ((List Int) × (List Int) × Int) := fun | [⟨.slice (.int .u8), r0⟩, ⟨.slice (.int .u8), r1⟩, ⟨.int .i64, r2⟩] => some (r0, r1, r2) | _ => none
noncomputable def pack_ReadBytes_mk : ((List Int) × (List Int) × Int) → List DV := fun ⟨r0, r1, r2⟩ => [⟨.slice (.int .u8), r0⟩, ⟨.slice (.int .u8), r1⟩, ⟨.int .i64, r2⟩]
theorem pack_ReadBytes_ex : ∃ f : (List Int) → Option ((List Int) × (List Int) × Int), f = fun (x0 : List Int) => funRun pack_ReadBytes_C 3 14 [(false, [(false, .slice (.int .u8))])] [(false, [(false, .slice (.int .u8))]), (false, [(false, .slice (.int .u8))]), (false, [(false, .int .i64)])] pack_ReadBytes_un [⟨.slice (.int .u8), x0⟩] := ⟨_, rfl⟩
noncomputable def pack_ReadBytes : (List Int) → Option ((List Int) × (List Int) × Int) := pack_ReadBytes_ex.choose
theorem pack_ReadBytes_raw (x0 : List Int) : pack_ReadBytes x0 = funRun pack_ReadBytes_C 3 14 [(false, [(false, .slice (.int .u8))])] [(false, [(false, .slice (.int .u8))]), (false, [(false, .slice (.int .u8))]), (false, [(false, .int .i64)])] pack_ReadBytes_un [⟨.slice (.int .u8), x0⟩] := congrFun (pack_ReadBytes_ex.choose_spec) x0
theorem pack_ReadBytes_eq (x0 : List Int) : pack_ReadBytes x0 =
  (pack_ReadUint x0).bind fun val0 =>
  bif val0.2.2 != 0
    then some (([]), (([]), (val0.2.2)))
    else bif decide (val0.1 > IntKind.u64.wrap (ilen val0.2.1))
      then some (([]), (([]), (5)))
      else bif decide (0 ≤ val0.1)
        then bif decide (val0.1 ≤ val0.1)
          then bif decide (val0.1 ≤ ilen val0.2.1)
            then bif decide (0 ≤ val0.1)
              then bif decide (val0.1 ≤ ilen val0.2.1)
                then bif decide (ilen val0.2.1 ≤ ilen val0.2.1)
                  then some ((List.drop (Int.toNat 0) (List.take val0.1.toNat val0.2.1)), ((List.drop val0.1.toNat (List.take (ilen val0.2.1).toNat val0.2.1)), (0)))
                  else none
                else none
              else none
            else none
          else none
        else none := (pack_ReadBytes_raw x0).trans (by kernel_rfl)
noncomputable def pack_ReadBytes_sig : Sig := { pm := [(false, [(false, .slice (.int .u8))])], rm := [(false, [(false, .slice (.int .u8))]), (false, [(false, .slice (.int .u8))]), (false, [(false, .int .i64)])], f := fun | [⟨.slice (.int .u8), x0⟩] => .yes _ (pack_ReadBytes x0) pack_ReadBytes_mk | _ => .no }
theorem pack_ReadBytes_ok : SigOk Try.prog 14 pack_ReadBytes_sig := by
  refine contract_of (C := pack_ReadBytes_C) (d := 3) S5_ok (callable_ex (by kernel_rfl)) ?_
  intro dvs
  unfold pack_ReadBytes_sig
  dsimp only
  split
  · refine .inr ⟨_, pack_ReadBytes_un, pack_ReadBytes_mk, congrArg (fun o => Cl.yes _ o _) (pack_ReadBytes_raw _), ?_⟩
    intro ds x h
    unfold pack_ReadBytes_un at h
    split at h
    · cases h; rfl
    · cases h
  · exact .inl rfl
noncomputable def S6 : List (Nat × Sig) := (14, pack_ReadBytes_sig) :: S5
theorem S6_ok : ListOk Try.prog S6 := ListOk.cons S5_ok pack_ReadBytes_ok
noncomputable def ref02_ReadBytes_C : Cfg := { P := Try.prog, sig := lookSig S6, hb := fun _ _ => none, hr := fun _ _ => none }
noncomputable def ref02_ReadBytes_un : List DV → Option ((List Int) × Int × Int) := fun | [⟨.slice (.int .u8), r0⟩, ⟨.int .i64, r1⟩, ⟨.int .i64, r2⟩] => some (r0, r1, r2) | _ => none
noncomputable def ref02_ReadBytes_mk : ((List Int) × Int × Int) → List DV := fun ⟨r0, r1, r2⟩ => [⟨.slice (.int .u8), r0⟩, ⟨.int .i64, r1⟩, ⟨.int .i64, r2⟩]
theorem ref02_ReadBytes_ex : ∃ f : (List Int) → Option ((List Int) × Int × Int), f = fun (x0 : List Int) => funRun ref02_ReadBytes_C 3 15 [(false, [(false, .slice (.int .u8))])] [(false, [(false, .slice (.int .u8))]), (false, [(false, .int .i64)]), (false, [(false, .int .i64)])] ref02_ReadBytes_un [⟨.slice (.int .u8), x0⟩] := ⟨_, rfl⟩
noncomputable def ref02_ReadBytes : (List Int) → Option ((List Int) × Int × Int) := ref02_ReadBytes_ex.choose
theorem ref02_ReadBytes_raw (x0 : List Int) : ref02_ReadBytes x0 = funRun ref02_ReadBytes_C 3 15 [(false, [(false, .slice (.int .u8))])] [(false, [(false, .slice (.int .u8))]), (false, [(false, .int .i64)]), (false, [(false, .int .i64)])] ref02_ReadBytes_un [⟨.slice (.int .u8), x0⟩] := congrFun (ref02_ReadBytes_ex.choose_spec) x0
theorem ref02_ReadBytes_eq (x0 : List Int) : ref02_ReadBytes x0 =
  (ref02_ReadUint x0).bind fun val0 =>
  bif val0.2.2 != 0
    then some (([]), ((0), (val0.2.2)))
    else bif decide (val0.1 > IntKind.u64.wrap (IntKind.i64.wrap (ilen x0 - val0.2.1)))
      then some (([]), ((0), (5)))
      else bif decide (0 ≤ val0.2.1)
        then bif decide (val0.2.1 ≤ IntKind.i64.wrap (val0.2.1 + IntKind.i64.wrap val0.1))
          then bif decide (IntKind.i64.wrap (val0.2.1 + IntKind.i64.wrap val0.1) ≤ ilen x0)
            then some ((List.drop val0.2.1.toNat (List.take (IntKind.i64.wrap (val0.2.1 + IntKind.i64.wrap val0.1)).toNat x0)), ((IntKind.i64.wrap (val0.2.1 + IntKind.i64.wrap val0.1)), (0)))
            else none
          else none
        else none := (ref02_ReadBytes_raw x0).trans (by kernel_rfl)
noncomputable def ref02_ReadBytes_sig : Sig := { pm := [(false, [(false, .slice (.int .u8))])], rm := [(false, [(false, .slice (.int .u8))]), (false, [(false, .int .i64)]), (false, [(false, .int .i64)])], f := fun | [⟨.slice (.int .u8), x0⟩] => .yes _ (ref02_ReadBytes x0) ref02_ReadBytes_mk | _ => .no }
theorem ref02_ReadBytes_ok : SigOk Try.prog 15 ref02_ReadBytes_sig := by
  refine contract_of (C := ref02_ReadBytes_C) (d := 3) S6_ok (callable_ex (by kernel_rfl)) ?_
  intro dvs
  unfold ref02_ReadBytes_sig
  dsimp only
  split
  · refine .inr ⟨_, ref02_ReadBytes_un, ref02_ReadBytes_mk, congrArg (fun o => Cl.yes _ o _) (ref02_ReadBytes_raw _), ?_⟩
    intro ds x h
    unfold ref02_ReadBytes_un at h
    split at h
    · cases h; rfl
    · cases h
  · exact .inl rfl
noncomputable def S7 : List (Nat × Sig) := (15, ref02_ReadBytes_sig) :: S6
theorem S7_ok : ListOk Try.prog S7 := ListOk.cons S6_ok ref02_ReadBytes_ok
noncomputable def pack_Uint_C : Cfg := { P := Try.prog, sig := lookSig S7, hb := fun f b => bif Nat.beq f 16 && Nat.beq b 0 then some { tmps := [0, 1], obs := [0], nils := [], kl := [0, 188] } else none, hr := fun _ _ => none }
noncomputable def pack_Uint_un : List DV → Option ((List Int)) := fun | [⟨.slice (.int .u8), r0⟩] => some r0 | _ => none
noncomputable def pack_Uint_mk : (List Int) → List DV := fun r0 => [⟨.slice (.int .u8), r0⟩]
theorem pack_Uint_ex : ∃ f : (List Int) → (Int) → Option ((List Int)), f = fun (x0 : List Int) (x1 : Int) => funRun pack_Uint_C 3 16 [(false, [(true, .slice (.int .u8))]), (false, [(false, .int .u64)])] [(false, [(true, .slice (.int .u8))])] pack_Uint_un [⟨.slice (.int .u8), x0⟩, ⟨.int .u64, x1⟩] := ⟨_, rfl⟩
noncomputable def pack_Uint : (List Int) → (Int) → Option ((List Int)) := pack_Uint_ex.choose
theorem pack_Uint_raw (x0 : List Int) (x1 : Int) : pack_Uint x0 x1 = funRun pack_Uint_C 3 16 [(false, [(true, .slice (.int .u8))]), (false, [(false, .int .u64)])] [(false, [(true, .slice (.int .u8))])] pack_Uint_un [⟨.slice (.int .u8), x0⟩, ⟨.int .u64, x1⟩] := congrFun (congrFun (pack_Uint_ex.choose_spec) x0) x1
noncomputable def pack_Uint_l0 (y0 : Int) (y1 : List (Int)) : Option ((List Int)) := loopAt pack_Uint_C 3 16 [(false, [(true, .slice (.int .u8))])] pack_Uint_un [true, false, false] (St.ofLists [(0, .ow 0), (1, .int .u64 y0)] [(0, some (.row (Ty.int IntKind.u8) y1 0 false))] [0, 188])
theorem pack_Uint_eq (x0 : List Int) (x1 : Int) : pack_Uint x0 x1 =
  pack_Uint_l0 (x1) (x0) := (pack_Uint_raw x0 x1).trans (by kernel_rfl)
theorem pack_Uint_l0_eq (y0 : Int) (y1 : List (Int)) : pack_Uint_l0 y0 y1 =
  bif decide (y0 ≥ 128)
  then bif decide ((ilen y1 + ilen [IntKind.u8.wrap ↑(BitVec.ofInt IntKind.u8.bits (IntKind.u8.wrap y0) ||| BitVec.ofInt IntKind.u8.bits 128).toNat]) * 1 ≤ room)
    then pack_Uint_l0 (y0.fdiv (2 ^ min (Int.toNat 7) IntKind.u64.bits)) (y1 ++ [IntKind.u8.wrap ↑(BitVec.ofInt IntKind.u8.bits (IntKind.u8.wrap y0) ||| BitVec.ofInt IntKind.u8.bits 128).toNat])
    else none
  else bif decide ((ilen y1 + ilen [IntKind.u8.wrap y0]) * 1 ≤ room)
    then some (y1 ++ [IntKind.u8.wrap y0])
    else none := (loopAt_step _ _ _ _ _ _ _).trans (by kernel_rfl)
noncomputable def pack_Uint_sig : Sig := { pm := [(false, [(true, .slice (.int .u8))]), (false, [(false, .int .u64)])], rm := [(false, [(true, .slice (.int .u8))])], f := fun | [⟨.slice (.int .u8), x0⟩, ⟨.int .u64, x1⟩] => .yes _ (pack_Uint x0 x1) pack_Uint_mk | _ => .no }
theorem pack_Uint_ok : SigOk Try.prog 16 pack_Uint_sig := by
  refine contract_of (C := pack_Uint_C) (d := 3) S7_ok (callable_ex (by kernel_rfl)) ?_
  intro dvs
  unfold pack_Uint_sig
  dsimp only
  split
  · refine .inr ⟨_, pack_Uint_un, pack_Uint_mk, congrArg (fun o => Cl.yes _ o _) (pack_Uint_raw _ _), ?_⟩
    intro ds x h
    unfold pack_Uint_un at h
    split at h
    · cases h; rfl
    · cases h
  · exact .inl rfl
noncomputable def S8 : List (Nat × Sig) := (16, pack_Uint_sig) :: S7
theorem S8_ok : ListOk Try.prog S8 := ListOk.cons S7_ok pack_Uint_ok
noncomputable def ref02_Uint_C : Cfg := { P := Try.prog, sig := lookSig S8, hb := fun f b => bif Nat.beq f 17 && Nat.beq b 0 then some { tmps := [3, 4], obs := [60], nils := [(3, 60, (.int .u8))], kl := [212, 204, 60] } else none, hr := fun _ _ => none }
noncomputable def ref02_Uint_un : List DV → Option ((List Int)) := fun | [⟨.slice (.int .u8), r0⟩] => some r0 | _ => none
noncomputable def ref02_Uint_mk : (List Int) → List DV := fun r0 => [⟨.slice (.int .u8), r0⟩]
theorem ref02_Uint_ex : ∃ f : (Int) → Option ((List Int)), f = fun (x0 : Int) => funRun ref02_Uint_C 3 17 [(false, [(false, .int .u64)])] [(false, [(true, .slice (.int .u8))])] ref02_Uint_un [⟨.int .u64, x0⟩] := ⟨_, rfl⟩
noncomputable def ref02_Uint : (Int) → Option ((List Int)) := ref02_Uint_ex.choose
theorem ref02_Uint_raw (x0 : Int) : ref02_Uint x0 = funRun ref02_Uint_C 3 17 [(false, [(false, .int .u64)])] [(false, [(true, .slice (.int .u8))])] ref02_Uint_un [⟨.int .u64, x0⟩] := congrFun (ref02_Uint_ex.choose_spec) x0
noncomputable def ref02_Uint_l0 (y0 : Int) (y1 : List (Int)) : Option ((List Int)) := loopAt ref02_Uint_C 3 17 [(false, [(true, .slice (.int .u8))])] ref02_Uint_un [true, true, true, false, false] (St.ofLists [(3, .ow 60), (4, .int .u64 y0)] [(60, some (.row (Ty.int IntKind.u8) y1 0 false))] [212, 204, 60])
theorem ref02_Uint_eq (x0 : Int) : ref02_Uint x0 =
  ref02_Uint_l0 (x0) ([]) := (ref02_Uint_raw x0).trans (by kernel_rfl)
theorem ref02_Uint_l0_eq (y0 : Int) (y1 : List (Int)) : ref02_Uint_l0 y0 y1 =
  bif decide (y0 > 127)
  then bif decide ((ilen y1 + ilen [IntKind.u8.wrap (IntKind.u64.wrap (128 + y0.tmod 128))]) * 1 ≤ room)
    then ref02_Uint_l0 (IntKind.u64.wrap (y0.tdiv 128)) (y1 ++ [IntKind.u8.wrap (IntKind.u64.wrap (128 + y0.tmod 128))])
    else none
  else bif decide ((ilen y1 + ilen [IntKind.u8.wrap y0]) * 1 ≤ room)
    then some (y1 ++ [IntKind.u8.wrap y0])
    else none := (loopAt_step _ _ _ _ _ _ _).trans (by kernel_rfl)
noncomputable def ref02_Uint_sig : Sig := { pm := [(false, [(false, .int .u64)])], rm := [(false, [(true, .slice (.int .u8))])], f := fun | [⟨.int .u64, x0⟩] => .yes _ (ref02_Uint x0) ref02_Uint_mk | _ => .no }
theorem ref02_Uint_ok : SigOk Try.prog 17 ref02_Uint_sig := by
  refine contract_of (C := ref02_Uint_C) (d := 3) S8_ok (callable_ex (by kernel_rfl)) ?_
  intro dvs
  unfold ref02_Uint_sig
  dsimp only
  split
  · refine .inr ⟨_, ref02_Uint_un, ref02_Uint_mk, congrArg (fun o => Cl.yes _ o _) (ref02_Uint_raw _), ?_⟩
    intro ds x h
    unfold ref02_Uint_un at h
    split at h
    · cases h; rfl
    · cases h
  · exact .inl rfl
noncomputable def S9 : List (Nat × Sig) := (17, ref02_Uint_sig) :: S8
theorem S9_ok : ListOk Try.prog S9 := ListOk.cons S8_ok ref02_Uint_ok
noncomputable def ref02_Int_C : Cfg := { P := Try.prog, sig := lookSig S9, hb := fun _ _ => none, hr := fun _ _ => none }
noncomputable def ref02_Int_un : List DV → Option ((List Int)) := fun | [⟨.slice (.int .u8), r0⟩] => some r0 | _ => none
noncomputable def ref02_Int_mk : (List Int) → List DV := fun r0 => [⟨.slice (.int .u8), r0⟩]
theorem ref02_Int_ex : ∃ f : (Int) → Option ((List Int)), f = fun (x0 : Int) => funRun ref02_Int_C 3 18 [(false, [(false, .int .i64)])] [(false, [(true, .slice (.int .u8))])] ref02_Int_un [⟨.int .i64, x0⟩] := ⟨_, rfl⟩
noncomputable def ref02_Int : (Int) → Option ((List Int)) := ref02_Int_ex.choose
theorem ref02_Int_raw (x0 : Int) : ref02_Int x0 = funRun ref02_Int_C 3 18 [(false, [(false, .int .i64)])] [(false, [(true, .slice (.int .u8))])] ref02_Int_un [⟨.int .i64, x0⟩] := congrFun (ref02_Int_ex.choose_spec) x0
theorem ref02_Int_eq (x0 : Int) : ref02_Int x0 =
  bif decide (x0 ≥ 0)
  then (ref02_Uint (IntKind.u64.wrap (IntKind.u64.wrap x0 * 2))).bind fun val2 =>
    some (val2)
  else (ref02_Uint (IntKind.u64.wrap (IntKind.u64.wrap (IntKind.u64.wrap (IntKind.i64.wrap (0 - IntKind.i64.wrap (x0 + 1))) * 2) + 1))).bind fun val2 =>
    some (val2) := (ref02_Int_raw x0).trans (by kernel_rfl)
noncomputable def ref02_Int_sig : Sig := { pm := [(false, [(false, .int .i64)])], rm := [(false, [(true, .slice (.int .u8))])], f := fun | [⟨.int .i64, x0⟩] => .yes _ (ref02_Int x0) ref02_Int_mk | _ => .no }
theorem ref02_Int_ok : SigOk Try.prog 18 ref02_Int_sig := by
  refine contract_of (C := ref02_Int_C) (d := 3) S9_ok (callable_ex (by kernel_rfl)) ?_
  intro dvs
  unfold ref02_Int_sig
  dsimp only
  split
  · refine .inr ⟨_, ref02_Int_un, ref02_Int_mk, congrArg (fun o => Cl.yes _ o _) (ref02_Int_raw _), ?_⟩
    intro ds x h
    unfold ref02_Int_un at h
    split at h
    · cases h; rfl
    · cases h
  · exact .inl rfl
noncomputable def S10 : List (Nat × Sig) := (18, ref02_Int_sig) :: S9
theorem S10_ok : ListOk Try.prog S10 := ListOk.cons S9_ok ref02_Int_ok
noncomputable def ref02_Bytes_C : Cfg := { P := Try.prog, sig := lookSig S10, hb := fun _ _ => none, hr := fun _ _ => none }
noncomputable def ref02_Bytes_un : List DV → Option ((List Int)) := fun | [⟨.slice (.int .u8), r0⟩] => some r0 | _ => none
noncomputable def ref02_Bytes_mk : (List Int) → List DV := fun r0 => [⟨.slice (.int .u8), r0⟩]
theorem ref02_Bytes_ex : ∃ f : (List Int) → Option ((List Int)), f = fun (x0 : List Int) => funRun ref02_Bytes_C 3 19 [(false, [(false, .slice (.int .u8))])] [(false, [(true, .slice (.int .u8))])] ref02_Bytes_un [⟨.slice (.int .u8), x0⟩] := ⟨_, rfl⟩
noncomputable def ref02_Bytes : (List Int) → Option ((List Int)) := ref02_Bytes_ex.choose
theorem ref02_Bytes_raw (x0 : List Int) : ref02_Bytes x0 = funRun ref02_Bytes_C 3 19 [(false, [(false, .slice (.int .u8))])] [(false, [(true, .slice (.int .u8))])] ref02_Bytes_un [⟨.slice (.int .u8), x0⟩] := congrFun (ref02_Bytes_ex.choose_spec) x0
theorem ref02_Bytes_eq (x0 : List Int) : ref02_Bytes x0 =
  (ref02_Uint (IntKind.u64.wrap (ilen x0))).bind fun val0 =>
  bif decide ((ilen val0 + ilen x0) * 1 ≤ room)
    then some (val0 ++ x0)
    else none := (ref02_Bytes_raw x0).trans (by kernel_rfl)
noncomputable def ref02_Bytes_sig : Sig := { pm := [(false, [(false, .slice (.int .u8))])], rm := [(false, [(true, .slice (.int .u8))])], f := fun | [⟨.slice (.int .u8), x0⟩] => .yes _ (ref02_Bytes x0) ref02_Bytes_mk | _ => .no }
theorem ref02_Bytes_ok : SigOk Try.prog 19 ref02_Bytes_sig := by
  refine contract_of (C := ref02_Bytes_C) (d := 3) S10_ok (callable_ex (by kernel_rfl)) ?_
  intro dvs
  unfold ref02_Bytes_sig
  dsimp only
  split
  · refine .inr ⟨_, ref02_Bytes_un, ref02_Bytes_mk, congrArg (fun o => Cl.yes _ o _) (ref02_Bytes_raw _), ?_⟩
    intro ds x h
    unfold ref02_Bytes_un at h
    split at h
    · cases h; rfl
    · cases h
  · exact .inl rfl
noncomputable def S11 : List (Nat × Sig) := (19, ref02_Bytes_sig) :: S10
theorem S11_ok : ListOk Try.prog S11 := ListOk.cons S10_ok ref02_Bytes_ok
noncomputable def law02_own_C : Cfg := { P := Try.prog, sig := lookSig S11, hb := fun _ _ => none, hr := fun _ _ => none }
noncomputable def law02_own_un : List DV → Option ((List Int)) := fun | [⟨.slice (.int .u8), r0⟩] => some r0 | _ => none
noncomputable def law02_own_mk : (List Int) → List DV := fun r0 => [⟨.slice (.int .u8), r0⟩]
theorem law02_own_ex : ∃ f : (List Int) → Option ((List Int)), f = fun (x0 : List Int) => funRun law02_own_C 3 20 [(false, [(false, .slice (.int .u8))])] [(false, [(true, .slice (.int .u8))])] law02_own_un [⟨.slice (.int .u8), x0⟩] := ⟨_, rfl⟩
noncomputable def law02_own : (List Int) → Option ((List Int)) := law02_own_ex.choose
theorem law02_own_raw (x0 : List Int) : law02_own x0 = funRun law02_own_C 3 20 [(false, [(false, .slice (.int .u8))])] [(false, [(true, .slice (.int .u8))])] law02_own_un [⟨.slice (.int .u8), x0⟩] := congrFun (law02_own_ex.choose_spec) x0
theorem law02_own_eq (x0 : List Int) : law02_own x0 =
  bif decide ((0 + ilen x0) * 1 ≤ room)
  then some ([] ++ x0)
  else none := (law02_own_raw x0).trans (by kernel_rfl)
noncomputable def law02_own_sig : Sig := { pm := [(false, [(false, .slice (.int .u8))])], rm := [(false, [(true, .slice (.int .u8))])], f := fun | [⟨.slice (.int .u8), x0⟩] => .yes _ (law02_own x0) law02_own_mk | _ => .no }
theorem law02_own_ok : SigOk Try.prog 20 law02_own_sig := by
  refine contract_of (C := law02_own_C) (d := 3) S11_ok (callable_ex (by kernel_rfl)) ?_
  intro dvs
  unfold law02_own_sig
  dsimp only
  split
  · refine .inr ⟨_, law02_own_un, law02_own_mk, congrArg (fun o => Cl.yes _ o _) (law02_own_raw _), ?_⟩
    intro ds x h
    unfold law02_own_un at h
    split at h
    · cases h; rfl
    · cases h
  · exact .inl rfl
noncomputable def S12 : List (Nat × Sig) := (20, law02_own_sig) :: S11
theorem S12_ok : ListOk Try.prog S12 := ListOk.cons S11_ok law02_own_ok
noncomputable def pack_Int_C : Cfg := { P := Try.prog, sig := lookSig S12, hb := fun _ _ => none, hr := fun _ _ => none }
noncomputable def pack_Int_un : List DV → Option ((List Int)) := fun | [⟨.slice (.int .u8), r0⟩] => some r0 | _ => none
noncomputable def pack_Int_mk : (List Int) → List DV := fun r0 => [⟨.slice (.int .u8), r0⟩]
theorem pack_Int_ex : ∃ f : (List Int) → (Int) → Option ((List Int)), f = fun (x0 : List Int) (x1 : Int) => funRun pack_Int_C 3 21 [(false, [(true, .slice (.int .u8))]), (false, [(false, .int .i64)])] [(false, [(true, .slice (.int .u8))])] pack_Int_un [⟨.slice (.int .u8), x0⟩, ⟨.int .i64, x1⟩] := ⟨_, rfl⟩
noncomputable def pack_Int : (List Int) → (Int) → Option ((List Int)) := pack_Int_ex.choose
theorem pack_Int_raw (x0 : List Int) (x1 : Int) : pack_Int x0 x1 = funRun pack_Int_C 3 21 [(false, [(true, .slice (.int .u8))]), (false, [(false, .int .i64)])] [(false, [(true, .slice (.int .u8))])] pack_Int_un [⟨.slice (.int .u8), x0⟩, ⟨.int .i64, x1⟩] := congrFun (congrFun (pack_Int_ex.choose_spec) x0) x1
theorem pack_Int_eq (x0 : List Int) (x1 : Int) : pack_Int x0 x1 =
  (pack_Uint x0 (IntKind.u64.wrap ↑(BitVec.ofInt IntKind.u64.bits (IntKind.u64.wrap (IntKind.u64.wrap x1 * 2 ^ min (Int.toNat 1) IntKind.u64.bits)) ^^^ BitVec.ofInt IntKind.u64.bits (IntKind.u64.wrap (x1.fdiv (2 ^ min (Int.toNat 63) IntKind.i64.bits)))).toNat)).bind fun val0 =>
  some (val0) := (pack_Int_raw x0 x1).trans (by kernel_rfl)
noncomputable def pack_Int_sig : Sig := { pm := [(false, [(true, .slice (.int .u8))]), (false, [(false, .int .i64)])], rm := [(false, [(true, .slice (.int .u8))])], f := fun | [⟨.slice (.int .u8), x0⟩, ⟨.int .i64, x1⟩] => .yes _ (pack_Int x0 x1) pack_Int_mk | _ => .no }
theorem pack_Int_ok : SigOk Try.prog 21 pack_Int_sig := by
  refine contract_of (C := pack_Int_C) (d := 3) S12_ok (callable_ex (by kernel_rfl)) ?_
  intro dvs
  unfold pack_Int_sig
  dsimp only
  split
  · refine .inr ⟨_, pack_Int_un, pack_Int_mk, congrArg (fun o => Cl.yes _ o _) (pack_Int_raw _ _), ?_⟩
    intro ds x h
    unfold pack_Int_un at h
    split at h
    · cases h; rfl
    · cases h
  · exact .inl rfl
noncomputable def S13 : List (Nat × Sig) := (21, pack_Int_sig) :: S12
theorem S13_ok : ListOk Try.prog S13 := ListOk.cons S12_ok pack_Int_ok
noncomputable def pack_Bytes_C : Cfg := { P := Try.prog, sig := lookSig S13, hb := fun _ _ => none, hr := fun _ _ => none }
noncomputable def pack_Bytes_un : List DV → Option ((List Int)) := fun | [⟨.slice (.int .u8), r0⟩] => some r0 | _ => none
noncomputable def pack_Bytes_mk : (List Int) → List DV := fun r0 => [⟨.slice (.int .u8), r0⟩]
theorem pack_Bytes_ex : ∃ f : (List Int) → (List Int) → Option ((List Int)), f = fun (x0 : List Int) (x1 : List Int) => funRun pack_Bytes_C 3 22 [(false, [(true, .slice (.int .u8))]), (false, [(false, .slice (.int .u8))])] [(false, [(true, .slice (.int .u8))])] pack_Bytes_un [⟨.slice (.int .u8), x0⟩, ⟨.slice (.int .u8), x1⟩] := ⟨_, rfl⟩
noncomputable def pack_Bytes : (List Int) → (List Int) → Option ((List Int)) := pack_Bytes_ex.choose
theorem pack_Bytes_raw (x0 : List Int) (x1 : List Int) : pack_Bytes x0 x1 = funRun pack_Bytes_C 3 22 [(false, [(true, .slice (.int .u8))]), (false, [(false, .slice (.int .u8))])] [(false, [(true, .slice (.int .u8))])] pack_Bytes_un [⟨.slice (.int .u8), x0⟩, ⟨.slice (.int .u8), x1⟩] := congrFun (congrFun (pack_Bytes_ex.choose_spec) x0) x1
theorem pack_Bytes_eq (x0 : List Int) (x1 : List Int) : pack_Bytes x0 x1 =
  (pack_Uint x0 (IntKind.u64.wrap (ilen x1))).bind fun val0 =>
  bif decide ((ilen val0 + ilen x1) * 1 ≤ room)
    then some (val0 ++ x1)
    else none := (pack_Bytes_raw x0 x1).trans (by kernel_rfl)
noncomputable def pack_Bytes_sig : Sig := { pm := [(false, [(true, .slice (.int .u8))]), (false, [(false, .slice (.int .u8))])], rm := [(false, [(true, .slice (.int .u8))])], f := fun | [⟨.slice (.int .u8), x0⟩, ⟨.slice (.int .u8), x1⟩] => .yes _ (pack_Bytes x0 x1) pack_Bytes_mk | _ => .no }
theorem pack_Bytes_ok : SigOk Try.prog 22 pack_Bytes_sig := by
  refine contract_of (C := pack_Bytes_C) (d := 3) S13_ok (callable_ex (by kernel_rfl)) ?_
  intro dvs
  unfold pack_Bytes_sig
  dsimp only
  split
  · refine .inr ⟨_, pack_Bytes_un, pack_Bytes_mk, congrArg (fun o => Cl.yes _ o _) (pack_Bytes_raw _ _), ?_⟩
    intro ds x h
    unfold pack_Bytes_un at h
    split at h
    · cases h; rfl
    · cases h
  · exact .inl rfl
noncomputable def S14 : List (Nat × Sig) := (22, pack_Bytes_sig) :: S13
theorem S14_ok : ListOk Try.prog S14 := ListOk.cons S13_ok pack_Bytes_ok
noncomputable def pack_Name_C : Cfg := { P := Try.prog, sig := lookSig S14, hb := fun f b => bif Nat.beq f 23 && Nat.beq b 0 then some { tmps := [0, 7, 8, 9], obs := [156], nils := [], kl := [156] } else none, hr := fun _ _ => none }
noncomputable def pack_Name_un : List DV → Option (Bool) := fun | [⟨.bool, r0⟩] => some r0 | _ => none
noncomputable def pack_Name_mk : Bool → List DV := fun r0 => [⟨.bool, r0⟩]
theorem pack_Name_ex : ∃ f : (ByteArray) → Option (Bool), f = fun (x0 : ByteArray) => funRun pack_Name_C 3 23 [(false, [(false, .str)])] [(false, [(false, .bool)])] pack_Name_un [⟨.str, x0⟩] := ⟨_, rfl⟩
noncomputable def pack_Name : (ByteArray) → Option (Bool) := pack_Name_ex.choose
theorem pack_Name_raw (x0 : ByteArray) : pack_Name x0 = funRun pack_Name_C 3 23 [(false, [(false, .str)])] [(false, [(false, .bool)])] pack_Name_un [⟨.str, x0⟩] := congrFun (pack_Name_ex.choose_spec) x0
noncomputable def pack_Name_l0 (y0 : ByteArray) (y1 : Int) (y2 : Int) (y3 : List (Int)) : Option (Bool) := loopAt pack_Name_C 3 23 [(false, [(false, .bool)])] pack_Name_un [true, false, true, false] (St.ofLists [(0, .str y0), (7, .ow 156), (8, .int .i64 y1), (9, .int .i64 y2)] [(156, some (.row (Ty.int IntKind.u8) y3 0 false))] [156])
theorem pack_Name_eq (x0 : ByteArray) : pack_Name x0 =
  pack_Name_l0 (x0) (ilen (bytesList x0)) (0) (bytesList x0) := (pack_Name_raw x0).trans (by kernel_rfl)
theorem pack_Name_l0_eq (y0 : ByteArray) (y1 : Int) (y2 : Int) (y3 : List (Int)) : pack_Name_l0 y0 y1 y2 y3 =
  bif decide (y2 < y1)
  then bif decide (0 ≤ y2)
    then bif decide (y2 < ilen y3)
      then (y3[y2.toNat]?).bind fun val6 =>
        bif decide (val6 ≥ 97)
          then bif !decide (val6 ≤ 122)
            then bif y2 == 0
              then some false
              else bif decide (val6 < 48)
                then some false
                else bif decide (val6 > 57)
                  then some false
                  else pack_Name_l0 (y0) (y1) (IntKind.i64.wrap (y2 + 1)) (y3)
            else pack_Name_l0 (y0) (y1) (IntKind.i64.wrap (y2 + 1)) (y3)
          else bif y2 == 0
            then some false
            else bif decide (val6 < 48)
              then some false
              else bif decide (val6 > 57)
                then some false
                else pack_Name_l0 (y0) (y1) (IntKind.i64.wrap (y2 + 1)) (y3)
      else none
    else none
  else bif decide (isize y0 ≥ 1)
    then some (decide (isize y0 ≤ 32))
    else some false := (loopAt_step _ _ _ _ _ _ _).trans (by kernel_rfl)
noncomputable def pack_Name_sig : Sig := { pm := [(false, [(false, .str)])], rm := [(false, [(false, .bool)])], f := fun | [⟨.str, x0⟩] => .yes _ (pack_Name x0) pack_Name_mk | _ => .no }
theorem pack_Name_ok : SigOk Try.prog 23 pack_Name_sig := by
  refine contract_of (C := pack_Name_C) (d := 3) S14_ok (callable_ex (by kernel_rfl)) ?_
  intro dvs
  unfold pack_Name_sig
  dsimp only
  split
  · refine .inr ⟨_, pack_Name_un, pack_Name_mk, congrArg (fun o => Cl.yes _ o _) (pack_Name_raw _), ?_⟩
    intro ds x h
    unfold pack_Name_un at h
    split at h
    · cases h; rfl
    · cases h
  · exact .inl rfl
noncomputable def S15 : List (Nat × Sig) := (23, pack_Name_sig) :: S14
theorem S15_ok : ListOk Try.prog S15 := ListOk.cons S14_ok pack_Name_ok
noncomputable def ref02_Name_C : Cfg := { P := Try.prog, sig := lookSig S15, hb := fun f b => bif Nat.beq f 24 && Nat.beq b 0 then some { tmps := [0, 3], obs := [], nils := [], kl := [] } else none, hr := fun _ _ => none }
noncomputable def ref02_Name_un : List DV → Option (Bool) := fun | [⟨.bool, r0⟩] => some r0 | _ => none
noncomputable def ref02_Name_mk : Bool → List DV := fun r0 => [⟨.bool, r0⟩]
theorem ref02_Name_ex : ∃ f : (ByteArray) → Option (Bool), f = fun (x0 : ByteArray) => funRun ref02_Name_C 3 24 [(false, [(false, .str)])] [(false, [(false, .bool)])] ref02_Name_un [⟨.str, x0⟩] := ⟨_, rfl⟩
noncomputable def ref02_Name : (ByteArray) → Option (Bool) := ref02_Name_ex.choose
theorem ref02_Name_raw (x0 : ByteArray) : ref02_Name x0 = funRun ref02_Name_C 3 24 [(false, [(false, .str)])] [(false, [(false, .bool)])] ref02_Name_un [⟨.str, x0⟩] := congrFun (ref02_Name_ex.choose_spec) x0
noncomputable def ref02_Name_l0 (y0 : ByteArray) (y1 : Int) : Option (Bool) := loopAt ref02_Name_C 3 24 [(false, [(false, .bool)])] ref02_Name_un [true, true, false, true, false] (St.ofLists [(0, .str y0), (3, .int .i64 y1)] [] [])
theorem ref02_Name_eq (x0 : ByteArray) : ref02_Name x0 =
  bif isize x0 == 0
  then some false
  else bif decide (isize x0 > 32)
    then some false
    else (x0.data[Int.toNat 0]?).bind fun val4 =>
      bif decide ((val4.toNat : Int) < 97)
        then some false
        else ref02_Name_l0 (x0) (0) := (ref02_Name_raw x0).trans (by kernel_rfl)
theorem ref02_Name_l0_eq (y0 : ByteArray) (y1 : Int) : ref02_Name_l0 y0 y1 =
  bif decide (y1 < isize y0)
  then bif decide (0 ≤ y1)
    then (y0.data[y1.toNat]?).bind fun val4 =>
      bif decide ((val4.toNat : Int) ≥ 48)
        then bif decide (0 ≤ y1)
          then (y0.data[y1.toNat]?).bind fun val10 =>
            bif decide (0 ≤ y1)
              then (y0.data[y1.toNat]?).bind fun val14 =>
                bif decide ((val14.toNat : Int) ≥ 97)
                  then bif decide (0 ≤ y1)
                    then (y0.data[y1.toNat]?).bind fun val20 =>
                      bif !decide ((val10.toNat : Int) ≤ 57)
                        then bif !decide ((val20.toNat : Int) ≤ 122)
                          then some false
                          else ref02_Name_l0 (y0) (IntKind.i64.wrap (y1 + 1))
                        else ref02_Name_l0 (y0) (IntKind.i64.wrap (y1 + 1))
                    else none
                  else bif !decide ((val10.toNat : Int) ≤ 57)
                    then some false
                    else ref02_Name_l0 (y0) (IntKind.i64.wrap (y1 + 1))
              else none
          else none
        else bif decide (0 ≤ y1)
          then (y0.data[y1.toNat]?).bind fun val10 =>
            bif decide ((val10.toNat : Int) ≥ 97)
              then bif decide (0 ≤ y1)
                then (y0.data[y1.toNat]?).bind fun val16 =>
                  bif !decide ((val16.toNat : Int) ≤ 122)
                    then some false
                    else ref02_Name_l0 (y0) (IntKind.i64.wrap (y1 + 1))
                else none
              else some false
          else none
    else none
  else some true := (loopAt_step _ _ _ _ _ _ _).trans (by kernel_rfl)
noncomputable def ref02_Name_sig : Sig := { pm := [(false, [(false, .str)])], rm := [(false, [(false, .bool)])], f := fun | [⟨.str, x0⟩] => .yes _ (ref02_Name x0) ref02_Name_mk | _ => .no }
theorem ref02_Name_ok : SigOk Try.prog 24 ref02_Name_sig := by
  refine contract_of (C := ref02_Name_C) (d := 3) S15_ok (callable_ex (by kernel_rfl)) ?_
  intro dvs
  unfold ref02_Name_sig
  dsimp only
  split
  · refine .inr ⟨_, ref02_Name_un, ref02_Name_mk, congrArg (fun o => Cl.yes _ o _) (ref02_Name_raw _), ?_⟩
    intro ds x h
    unfold ref02_Name_un at h
    split at h
    · cases h; rfl
    · cases h
  · exact .inl rfl
noncomputable def S16 : List (Nat × Sig) := (24, ref02_Name_sig) :: S15
theorem S16_ok : ListOk Try.prog S16 := ListOk.cons S15_ok ref02_Name_ok
noncomputable def law02_works_C : Cfg := { P := Try.prog, sig := lookSig S16, hb := fun _ _ => none, hr := fun _ _ => none }
noncomputable def law02_works_un : List DV → Option (Bool) := fun | [⟨.bool, r0⟩] => some r0 | _ => none
noncomputable def law02_works_mk : Bool → List DV := fun r0 => [⟨.bool, r0⟩]
theorem law02_works_ex : ∃ f : Option (Bool), f = funRun law02_works_C 3 8 [] [(false, [(false, .bool)])] law02_works_un [] := ⟨_, rfl⟩
noncomputable def law02_works : Option (Bool) := law02_works_ex.choose
theorem law02_works_raw  : law02_works = funRun law02_works_C 3 8 [] [(false, [(false, .bool)])] law02_works_un [] := law02_works_ex.choose_spec
theorem law02_works_eq  : law02_works =
  (pack_Uint [7] 300).bind fun val0 =>
  (pack_Int val0 (-2)).bind fun val2 =>
    bif ilen val2 != 4
      then some false
      else bif decide (1 ≤ ilen val2)
        then bif decide (ilen val2 ≤ ilen val2)
          then bif (Int.toNat 1 + ((ilen val2).toNat - Int.toNat 1)).ble val2.length
            then (pack_ReadUint (List.take ((ilen val2).toNat - Int.toNat 1) (List.drop (Int.toNat 1) val2))).bind fun val12 =>
              (pack_ReadInt val12.2.1).bind fun val14 =>
                (pack_ReadBytes [2, 5]).bind fun val16 =>
                  bif val12.1 == 300
                    then bif val12.2.2 == 0
                      then bif val14.1 == -2
                        then bif ilen val14.2.1 == 0
                          then bif val14.2.2 == 0
                            then bif val16.2.2 == 5
                              then (pack_Name { data := #[97, 49] }).bind fun val30 =>
                                bif val30
                                  then (pack_Name { data := #[49, 97] }).bind fun val34 =>
                                    some (!val34)
                                  else some false
                              else some false
                            else some false
                          else some false
                        else some false
                      else some false
                    else some false
            else none
          else bif decide (ilen val2 ≤ ↑0)
            then bif (Int.toNat 1 + ((ilen val2).toNat - Int.toNat 1)).ble val2.length
              then (pack_ReadUint (List.take ((ilen val2).toNat - Int.toNat 1) (List.drop (Int.toNat 1) val2))).bind fun val14 =>
                (pack_ReadInt val14.2.1).bind fun val16 =>
                  (pack_ReadBytes [2, 5]).bind fun val18 =>
                    bif val14.1 == 300
                      then bif val14.2.2 == 0
                        then bif val16.1 == -2
                          then bif ilen val16.2.1 == 0
                            then bif val16.2.2 == 0
                              then bif val18.2.2 == 5
                                then (pack_Name { data := #[97, 49] }).bind fun val32 =>
                                  bif val32
                                    then (pack_Name { data := #[49, 97] }).bind fun val36 =>
                                      some (!val36)
                                    else some false
                                else some false
                              else some false
                            else some false
                          else some false
                        else some false
                      else some false
              else none
            else none
        else none := (law02_works_raw).trans (by kernel_rfl)
noncomputable def law02_works_sig : Sig := { pm := [], rm := [(false, [(false, .bool)])], f := fun | [] => .yes _ (law02_works) law02_works_mk | _ => .no }
theorem law02_works_ok : SigOk Try.prog 8 law02_works_sig := by
  refine contract_of (C := law02_works_C) (d := 3) S16_ok (callable_ex (by kernel_rfl)) ?_
  intro dvs
  unfold law02_works_sig
  dsimp only
  split
  · refine .inr ⟨_, law02_works_un, law02_works_mk, congrArg (fun o => Cl.yes _ o _) (law02_works_raw), ?_⟩
    intro ds x h
    unfold law02_works_un at h
    split at h
    · cases h; rfl
    · cases h
  · exact .inl rfl
noncomputable def S17 : List (Nat × Sig) := (8, law02_works_sig) :: S16
theorem S17_ok : ListOk Try.prog S17 := ListOk.cons S16_ok law02_works_ok
noncomputable def law02_PackWrites_C : Cfg := { P := Try.prog, sig := lookSig S17, hb := fun _ _ => none, hr := fun _ _ => none }
noncomputable def law02_PackWrites_un : List DV → Option (Bool) := fun | [⟨.bool, r0⟩] => some r0 | _ => none
noncomputable def law02_PackWrites_mk : Bool → List DV := fun r0 => [⟨.bool, r0⟩]
theorem law02_PackWrites_ex : ∃ f : (List Int) → (Int) → (Int) → (List Int) → (ByteArray) → Option (Bool), f = fun (x0 : List Int) (x1 : Int) (x2 : Int) (x3 : List Int) (x4 : ByteArray) => funRun law02_PackWrites_C 3 5 [(false, [(false, .slice (.int .u8))]), (false, [(false, .int .u64)]), (false, [(false, .int .i64)]), (false, [(false, .slice (.int .u8))]), (false, [(false, .str)])] [(false, [(false, .bool)])] law02_PackWrites_un [⟨.slice (.int .u8), x0⟩, ⟨.int .u64, x1⟩, ⟨.int .i64, x2⟩, ⟨.slice (.int .u8), x3⟩, ⟨.str, x4⟩] := ⟨_, rfl⟩
noncomputable def law02_PackWrites : (List Int) → (Int) → (Int) → (List Int) → (ByteArray) → Option (Bool) := law02_PackWrites_ex.choose
theorem law02_PackWrites_raw (x0 : List Int) (x1 : Int) (x2 : Int) (x3 : List Int) (x4 : ByteArray) : law02_PackWrites x0 x1 x2 x3 x4 = funRun law02_PackWrites_C 3 5 [(false, [(false, .slice (.int .u8))]), (false, [(false, .int .u64)]), (false, [(false, .int .i64)]), (false, [(false, .slice (.int .u8))]), (false, [(false, .str)])] [(false, [(false, .bool)])] law02_PackWrites_un [⟨.slice (.int .u8), x0⟩, ⟨.int .u64, x1⟩, ⟨.int .i64, x2⟩, ⟨.slice (.int .u8), x3⟩, ⟨.str, x4⟩] := congrFun (congrFun (congrFun (congrFun (congrFun (law02_PackWrites_ex.choose_spec) x0) x1) x2) x3) x4
theorem law02_PackWrites_eq (x0 : List Int) (x1 : Int) (x2 : Int) (x3 : List Int) (x4 : ByteArray) : law02_PackWrites x0 x1 x2 x3 x4 =
  bif decide (ilen x0 > 2000)
  then (law02_works).bind fun val2 =>
    some (val2)
  else bif decide (ilen x3 > 2000)
    then (law02_works).bind fun val4 =>
      some (val4)
    else bif decide ((0 + ilen x0) * 1 ≤ room)
      then (ref02_Uint x1).bind fun val6 =>
        bif decide ((ilen ([] ++ x0) + ilen val6) * 1 ≤ room)
          then bif decide ((0 + ilen x0) * 1 ≤ room)
            then (ref02_Int x2).bind fun val12 =>
              bif decide ((ilen ([] ++ x0) + ilen val12) * 1 ≤ room)
                then bif decide ((0 + ilen x0) * 1 ≤ room)
                  then (ref02_Bytes x3).bind fun val18 =>
                    bif decide ((ilen ([] ++ x0) + ilen val18) * 1 ≤ room)
                      then (law02_own x0).bind fun val22 =>
                        (pack_Uint val22 x1).bind fun val24 =>
                          (law02_own x0).bind fun val26 =>
                            (pack_Int val26 x2).bind fun val28 =>
                              (law02_own x0).bind fun val30 =>
                                (pack_Bytes val30 x3).bind fun val32 =>
                                  (ref02_Same val24 ([] ++ x0 ++ val6)).bind fun val34 =>
                                    bif val34
                                      then (ref02_Same val28 ([] ++ x0 ++ val12)).bind fun val38 =>
                                        bif val38
                                          then (ref02_Same val32 ([] ++ x0 ++ val18)).bind fun val42 =>
                                            bif val42
                                              then (pack_Name x4).bind fun val46 =>
                                                (ref02_Name x4).bind fun val48 =>
                                                  bif val46 == val48
                                                    then (law02_works).bind fun val52 =>
                                                      some (val52)
                                                    else some false
                                              else some false
                                          else some false
                                      else some false
                      else none
                  else none
                else none
            else none
          else none
      else none := (law02_PackWrites_raw x0 x1 x2 x3 x4).trans (by kernel_rfl)
noncomputable def law02_PackWrites_sig : Sig := { pm := [(false, [(false, .slice (.int .u8))]), (false, [(false, .int .u64)]), (false, [(false, .int .i64)]), (false, [(false, .slice (.int .u8))]), (false, [(false, .str)])], rm := [(false, [(false, .bool)])], f := fun | [⟨.slice (.int .u8), x0⟩, ⟨.int .u64, x1⟩, ⟨.int .i64, x2⟩, ⟨.slice (.int .u8), x3⟩, ⟨.str, x4⟩] => .yes _ (law02_PackWrites x0 x1 x2 x3 x4) law02_PackWrites_mk | _ => .no }
theorem law02_PackWrites_ok : SigOk Try.prog 5 law02_PackWrites_sig := by
  refine contract_of (C := law02_PackWrites_C) (d := 3) S17_ok (callable_ex (by kernel_rfl)) ?_
  intro dvs
  unfold law02_PackWrites_sig
  dsimp only
  split
  · refine .inr ⟨_, law02_PackWrites_un, law02_PackWrites_mk, congrArg (fun o => Cl.yes _ o _) (law02_PackWrites_raw _ _ _ _ _), ?_⟩
    intro ds x h
    unfold law02_PackWrites_un at h
    split at h
    · cases h; rfl
    · cases h
  · exact .inl rfl
noncomputable def S18 : List (Nat × Sig) := (5, law02_PackWrites_sig) :: S17
theorem S18_ok : ListOk Try.prog S18 := ListOk.cons S17_ok law02_PackWrites_ok
end Go.Proofs.Ytopbcdeamdplfaa.PE
