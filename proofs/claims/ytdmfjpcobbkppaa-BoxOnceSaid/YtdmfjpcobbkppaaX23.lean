import Derived.Test.YtdmfjpcobbkppaaEFun
import Derived.Test.YtdmfjpcobbkppaaEInsD
import Derived.KernelRfl
namespace Go.Proofs.Ytdmfjpcobbkppaa.PE
set_option linter.unusedVariables false
open Go.Proofs
noncomputable def S0 : List (Nat × Sig) := []
theorem S0_ok : ListOk Try.prog S0 := ListOk.nil
noncomputable def P0 : List (Nat × Sig) := []
theorem P0_ok : ListPOk Try.prog P0 := ListPOk.nil
noncomputable def bytes_Equal_C : Cfg := { P := Try.prog, sig := lookSig S0, hb := fun _ _ => none, hr := fun _ _ => none }
noncomputable def bytes_Equal_un : List DV → Option (Bool) := fun | [⟨.bool, r0⟩] => some r0 | _ => none
noncomputable def bytes_Equal_mk : Bool → List DV := fun r0 => [⟨.bool, r0⟩]
theorem bytes_Equal_ex : ∃ f : (List Int) → (List Int) → Option (Bool), f = fun (x0 : List Int) (x1 : List Int) => funRun bytes_Equal_C 3 38 [(false, [(false, .slice (.int .u8))]), (false, [(false, .slice (.int .u8))])] [(false, [(false, .bool)])] bytes_Equal_un [⟨.slice (.int .u8), x0⟩, ⟨.slice (.int .u8), x1⟩] := ⟨_, rfl⟩
noncomputable def bytes_Equal : (List Int) → (List Int) → Option (Bool) := bytes_Equal_ex.choose
theorem bytes_Equal_raw (x0 : List Int) (x1 : List Int) : bytes_Equal x0 x1 = funRun bytes_Equal_C 3 38 [(false, [(false, .slice (.int .u8))]), (false, [(false, .slice (.int .u8))])] [(false, [(false, .bool)])] bytes_Equal_un [⟨.slice (.int .u8), x0⟩, ⟨.slice (.int .u8), x1⟩] := congrFun (congrFun (bytes_Equal_ex.choose_spec) x0) x1
theorem bytes_Equal_eq (x0 : List Int) (x1 : List Int) : bytes_Equal x0 x1 =
  some ((strOf x0).toList == (strOf x1).toList) := (bytes_Equal_raw x0 x1).trans (by kernel_rfl)
noncomputable def bytes_Equal_sig : Sig := { pm := [(false, [(false, .slice (.int .u8))]), (false, [(false, .slice (.int .u8))])], rm := [(false, [(false, .bool)])], f := fun | [⟨.slice (.int .u8), x0⟩, ⟨.slice (.int .u8), x1⟩] => .yes _ (bytes_Equal x0 x1) bytes_Equal_mk | _ => .no }
theorem bytes_Equal_ok : SigOk Try.prog 38 bytes_Equal_sig := by
  refine contract_of (C := bytes_Equal_C) (d := 3) ⟨S0_ok, noPs⟩ (callable_ex (by kernel_rfl)) ?_
  intro dvs
  unfold bytes_Equal_sig
  dsimp only
  split
  · refine .inr ⟨_, bytes_Equal_un, bytes_Equal_mk, congrArg (fun o => Cl.yes _ o _) (bytes_Equal_raw _ _), ?_⟩
    intro ds x h
    unfold bytes_Equal_un at h
    split at h
    · cases h; rfl
    · cases h
  · exact .inl rfl
noncomputable def S1 : List (Nat × Sig) := (38, bytes_Equal_sig) :: S0
theorem S1_ok : ListOk Try.prog S1 := ListOk.cons S0_ok bytes_Equal_ok
noncomputable def ref02_Same_C : Cfg := { P := Try.prog, sig := lookSig S1, hb := fun _ _ => none, hr := fun _ _ => none }
noncomputable def ref02_Same_un : List DV → Option (Bool) := fun | [⟨.bool, r0⟩] => some r0 | _ => none
noncomputable def ref02_Same_mk : Bool → List DV := fun r0 => [⟨.bool, r0⟩]
theorem ref02_Same_ex : ∃ f : (List Int) → (List Int) → Option (Bool), f = fun (x0 : List Int) (x1 : List Int) => funRun ref02_Same_C 3 45 [(false, [(false, .slice (.int .u8))]), (false, [(false, .slice (.int .u8))])] [(false, [(false, .bool)])] ref02_Same_un [⟨.slice (.int .u8), x0⟩, ⟨.slice (.int .u8), x1⟩] := ⟨_, rfl⟩
noncomputable def ref02_Same : (List Int) → (List Int) → Option (Bool) := ref02_Same_ex.choose
theorem ref02_Same_raw (x0 : List Int) (x1 : List Int) : ref02_Same x0 x1 = funRun ref02_Same_C 3 45 [(false, [(false, .slice (.int .u8))]), (false, [(false, .slice (.int .u8))])] [(false, [(false, .bool)])] ref02_Same_un [⟨.slice (.int .u8), x0⟩, ⟨.slice (.int .u8), x1⟩] := congrFun (congrFun (ref02_Same_ex.choose_spec) x0) x1
theorem ref02_Same_eq (x0 : List Int) (x1 : List Int) : ref02_Same x0 x1 =
  some ((strOf x0).toList == (strOf x1).toList) := (ref02_Same_raw x0 x1).trans (by kernel_rfl)
noncomputable def ref02_Same_sig : Sig := { pm := [(false, [(false, .slice (.int .u8))]), (false, [(false, .slice (.int .u8))])], rm := [(false, [(false, .bool)])], f := fun | [⟨.slice (.int .u8), x0⟩, ⟨.slice (.int .u8), x1⟩] => .yes _ (ref02_Same x0 x1) ref02_Same_mk | _ => .no }
theorem ref02_Same_ok : SigOk Try.prog 45 ref02_Same_sig := by
  refine contract_of (C := ref02_Same_C) (d := 3) ⟨S1_ok, noPs⟩ (callable_ex (by kernel_rfl)) ?_
  intro dvs
  unfold ref02_Same_sig
  dsimp only
  split
  · refine .inr ⟨_, ref02_Same_un, ref02_Same_mk, congrArg (fun o => Cl.yes _ o _) (ref02_Same_raw _ _), ?_⟩
    intro ds x h
    unfold ref02_Same_un at h
    split at h
    · cases h; rfl
    · cases h
  · exact .inl rfl
noncomputable def S2 : List (Nat × Sig) := (45, ref02_Same_sig) :: S1
theorem S2_ok : ListOk Try.prog S2 := ListOk.cons S1_ok ref02_Same_ok
noncomputable def box_CloneI_C : Cfg := { P := Try.prog, sig := lookSig S2, hb := fun _ _ => none, hr := fun _ _ => none }
noncomputable def box_CloneI_un : List DV → Option ((List Int)) := fun | [⟨.slice (.int .i64), r0⟩] => some r0 | _ => none
noncomputable def box_CloneI_mk : (List Int) → List DV := fun r0 => [⟨.slice (.int .i64), r0⟩]
theorem box_CloneI_ex : ∃ f : (List Int) → Option ((List Int)), f = fun (x0 : List Int) => avRun box_CloneI_C 3 39 [(false, [(true, .slice (.int .i64))])] box_CloneI_un [.fz (.int .i64) x0 false true] := ⟨_, rfl⟩
noncomputable def box_CloneI : (List Int) → Option ((List Int)) := box_CloneI_ex.choose
theorem box_CloneI_raw (x0 : List Int) : box_CloneI x0 = avRun box_CloneI_C 3 39 [(false, [(true, .slice (.int .i64))])] box_CloneI_un [.fz (.int .i64) x0 false true] := congrFun (box_CloneI_ex.choose_spec) x0
theorem box_CloneI_eq (x0 : List Int) : box_CloneI x0 =
  bif decide ((0 + ilen x0) * 8 ≤ room)
  then some ([] ++ x0)
  else none := (box_CloneI_raw x0).trans (by kernel_rfl)
theorem box_CloneI_nil : avRun box_CloneI_C 3 39 [(false, [(true, .slice (.int .i64))])] box_CloneI_un [.nils] = some ([]) := by kernel_rfl
noncomputable def box_CloneI_sig : Sig := { pm := [(false, [(false, .slice (.int .i64))])], rm := [(false, [(true, .slice (.int .i64))])], f := fun | [⟨.slice (.int .i64), x0⟩] => .yes _ (box_CloneI x0) box_CloneI_mk | _ => .no }
theorem box_CloneI_ok : SigOk Try.prog 39 box_CloneI_sig := by
  refine contract_slice (C := box_CloneI_C) (d := 3) ⟨S2_ok, noPs⟩ rfl (callable_ex (by kernel_rfl)) ?_
  intro dvs
  unfold box_CloneI_sig
  dsimp only
  split
  · refine .inr ⟨_, box_CloneI_un, box_CloneI_mk, _, rfl, congrArg (fun o => Cl.yes _ o _) (box_CloneI_raw _), ?_, ?_⟩
    · intro ds x h
      unfold box_CloneI_un at h
      split at h
      · cases h; rfl
      · cases h
    · intro x hl ho
      subst hl
      rw [← box_CloneI_raw, box_CloneI_eq] at ho
      rw [box_CloneI_nil]
      simpa [ilen, room] using ho
  · exact .inl rfl
noncomputable def S3 : List (Nat × Sig) := (39, box_CloneI_sig) :: S2
theorem S3_ok : ListOk Try.prog S3 := ListOk.cons S2_ok box_CloneI_ok
noncomputable def box_CloneB_C : Cfg := { P := Try.prog, sig := lookSig S3, hb := fun _ _ => none, hr := fun _ _ => none }
noncomputable def box_CloneB_un : List DV → Option ((List Int)) := fun | [⟨.slice (.int .u8), r0⟩] => some r0 | _ => none
noncomputable def box_CloneB_mk : (List Int) → List DV := fun r0 => [⟨.slice (.int .u8), r0⟩]
theorem box_CloneB_ex : ∃ f : (List Int) → Option ((List Int)), f = fun (x0 : List Int) => avRun box_CloneB_C 3 41 [(false, [(true, .slice (.int .u8))])] box_CloneB_un [.fz (.int .u8) x0 false true] := ⟨_, rfl⟩
noncomputable def box_CloneB : (List Int) → Option ((List Int)) := box_CloneB_ex.choose
theorem box_CloneB_raw (x0 : List Int) : box_CloneB x0 = avRun box_CloneB_C 3 41 [(false, [(true, .slice (.int .u8))])] box_CloneB_un [.fz (.int .u8) x0 false true] := congrFun (box_CloneB_ex.choose_spec) x0
theorem box_CloneB_eq (x0 : List Int) : box_CloneB x0 =
  bif decide ((0 + ilen x0) * 1 ≤ room)
  then some ([] ++ x0)
  else none := (box_CloneB_raw x0).trans (by kernel_rfl)
theorem box_CloneB_nil : avRun box_CloneB_C 3 41 [(false, [(true, .slice (.int .u8))])] box_CloneB_un [.nils] = some ([]) := by kernel_rfl
noncomputable def box_CloneB_sig : Sig := { pm := [(false, [(false, .slice (.int .u8))])], rm := [(false, [(true, .slice (.int .u8))])], f := fun | [⟨.slice (.int .u8), x0⟩] => .yes _ (box_CloneB x0) box_CloneB_mk | _ => .no }
theorem box_CloneB_ok : SigOk Try.prog 41 box_CloneB_sig := by
  refine contract_slice (C := box_CloneB_C) (d := 3) ⟨S3_ok, noPs⟩ rfl (callable_ex (by kernel_rfl)) ?_
  intro dvs
  unfold box_CloneB_sig
  dsimp only
  split
  · refine .inr ⟨_, box_CloneB_un, box_CloneB_mk, _, rfl, congrArg (fun o => Cl.yes _ o _) (box_CloneB_raw _), ?_, ?_⟩
    · intro ds x h
      unfold box_CloneB_un at h
      split at h
      · cases h; rfl
      · cases h
    · intro x hl ho
      subst hl
      rw [← box_CloneB_raw, box_CloneB_eq] at ho
      rw [box_CloneB_nil]
      simpa [ilen, room] using ho
  · exact .inl rfl
noncomputable def S4 : List (Nat × Sig) := (41, box_CloneB_sig) :: S3
theorem S4_ok : ListOk Try.prog S4 := ListOk.cons S3_ok box_CloneB_ok
noncomputable def box_CloneO_C : Cfg := { P := Try.prog, sig := lookSig S4, hb := fun _ _ => none, hr := fun _ _ => none }
noncomputable def box_CloneO_un : List DV → Option ((List (Int × Int × (List Int)))) := fun | [⟨.slice (.pair (.int .i64) (.pair (.int .i64) (.slice (.int .u8)))), r0⟩] => some r0 | _ => none
noncomputable def box_CloneO_mk : (List (Int × Int × (List Int))) → List DV := fun r0 => [⟨.slice (.pair (.int .i64) (.pair (.int .i64) (.slice (.int .u8)))), r0⟩]
theorem box_CloneO_ex : ∃ f : (List (Int × Int × (List Int))) → Option ((List (Int × Int × (List Int)))), f = fun (x0 : List (Int × Int × (List Int))) => avRun box_CloneO_C 3 40 [(false, [(true, .slice (.pair (.int .i64) (.pair (.int .i64) (.slice (.int .u8)))))])] box_CloneO_un [.fz (.pair (.int .i64) (.pair (.int .i64) (.slice (.int .u8)))) x0 false true] := ⟨_, rfl⟩
noncomputable def box_CloneO : (List (Int × Int × (List Int))) → Option ((List (Int × Int × (List Int)))) := box_CloneO_ex.choose
theorem box_CloneO_raw (x0 : List (Int × Int × (List Int))) : box_CloneO x0 = avRun box_CloneO_C 3 40 [(false, [(true, .slice (.pair (.int .i64) (.pair (.int .i64) (.slice (.int .u8)))))])] box_CloneO_un [.fz (.pair (.int .i64) (.pair (.int .i64) (.slice (.int .u8)))) x0 false true] := congrFun (box_CloneO_ex.choose_spec) x0
theorem box_CloneO_eq (x0 : List (Int × Int × (List Int))) : box_CloneO x0 =
  bif decide ((0 + ilen x0) * 40 ≤ room)
  then some ([] ++ x0)
  else none := (box_CloneO_raw x0).trans (by kernel_rfl)
theorem box_CloneO_nil : avRun box_CloneO_C 3 40 [(false, [(true, .slice (.pair (.int .i64) (.pair (.int .i64) (.slice (.int .u8)))))])] box_CloneO_un [.nils] = some ([]) := by kernel_rfl
noncomputable def box_CloneO_sig : Sig := { pm := [(false, [(false, .slice (.pair (.int .i64) (.pair (.int .i64) (.slice (.int .u8)))))])], rm := [(false, [(true, .slice (.pair (.int .i64) (.pair (.int .i64) (.slice (.int .u8)))))])], f := fun | [⟨.slice (.pair (.int .i64) (.pair (.int .i64) (.slice (.int .u8)))), x0⟩] => .yes _ (box_CloneO x0) box_CloneO_mk | _ => .no }
theorem box_CloneO_ok : SigOk Try.prog 40 box_CloneO_sig := by
  refine contract_slice (C := box_CloneO_C) (d := 3) ⟨S4_ok, noPs⟩ rfl (callable_ex (by kernel_rfl)) ?_
  intro dvs
  unfold box_CloneO_sig
  dsimp only
  split
  · refine .inr ⟨_, box_CloneO_un, box_CloneO_mk, _, rfl, congrArg (fun o => Cl.yes _ o _) (box_CloneO_raw _), ?_, ?_⟩
    · intro ds x h
      unfold box_CloneO_un at h
      split at h
      · cases h; rfl
      · cases h
    · intro x hl ho
      subst hl
      rw [← box_CloneO_raw, box_CloneO_eq] at ho
      rw [box_CloneO_nil]
      simpa [ilen, room] using ho
  · exact .inl rfl
noncomputable def S5 : List (Nat × Sig) := (40, box_CloneO_sig) :: S4
theorem S5_ok : ListOk Try.prog S5 := ListOk.cons S4_ok box_CloneO_ok
noncomputable def box_EqualI_C : Cfg := { P := Try.prog, sig := lookSig S5, hb := fun f b => bif Nat.beq f 35 && Nat.beq b 0 then some { tmps := [0, 1, 12, 13], obs := [], nils := [], kl := [] } else none, hr := fun _ _ => none }
noncomputable def box_EqualI_un : List DV → Option (Bool) := fun | [⟨.bool, r0⟩] => some r0 | _ => none
noncomputable def box_EqualI_mk : Bool → List DV := fun r0 => [⟨.bool, r0⟩]
theorem box_EqualI_ex : ∃ f : (List Int) → (List Int) → Option (Bool), f = fun (x0 : List Int) (x1 : List Int) => funRun box_EqualI_C 3 35 [(false, [(false, .slice (.int .i64))]), (false, [(false, .slice (.int .i64))])] [(false, [(false, .bool)])] box_EqualI_un [⟨.slice (.int .i64), x0⟩, ⟨.slice (.int .i64), x1⟩] := ⟨_, rfl⟩
noncomputable def box_EqualI : (List Int) → (List Int) → Option (Bool) := box_EqualI_ex.choose
theorem box_EqualI_raw (x0 : List Int) (x1 : List Int) : box_EqualI x0 x1 = funRun box_EqualI_C 3 35 [(false, [(false, .slice (.int .i64))]), (false, [(false, .slice (.int .i64))])] [(false, [(false, .bool)])] box_EqualI_un [⟨.slice (.int .i64), x0⟩, ⟨.slice (.int .i64), x1⟩] := congrFun (congrFun (box_EqualI_ex.choose_spec) x0) x1
noncomputable def box_EqualI_l0 (y0 : List (Int)) (y1 : List (Int)) (y2 : Int) (y3 : Int) : Option (Bool) := loopAt box_EqualI_C 3 35 [(false, [(false, .bool)])] box_EqualI_un [true, true, false, true, false] (St.ofLists [(0, .fz (Ty.int IntKind.i64) y0 false false), (1, .fz (Ty.int IntKind.i64) y1 false false), (12, .int .i64 y2), (13, .int .i64 y3)] [] [])
theorem box_EqualI_eq (x0 : List Int) (x1 : List Int) : box_EqualI x0 x1 =
  bif ilen x0 != ilen x1
  then some false
  else box_EqualI_l0 (x0) (x1) (ilen x0) (0) := (box_EqualI_raw x0 x1).trans (by kernel_rfl)
theorem box_EqualI_l0_eq (y0 : List (Int)) (y1 : List (Int)) (y2 : Int) (y3 : Int) : box_EqualI_l0 y0 y1 y2 y3 =
  bif decide (y3 < y2)
  then bif decide (0 ≤ y3)
    then (y0[y3.toNat]?).bind fun val4 =>
      bif decide (0 ≤ y3)
        then (y1[y3.toNat]?).bind fun val8 =>
          bif val4 != val8
            then some false
            else box_EqualI_l0 (y0) (y1) (y2) (IntKind.i64.wrap (y3 + 1))
        else none
    else none
  else some true := (loopAt_step _ _ _ _ _ _ _).trans (by kernel_rfl)
noncomputable def box_EqualI_sig : Sig := { pm := [(false, [(false, .slice (.int .i64))]), (false, [(false, .slice (.int .i64))])], rm := [(false, [(false, .bool)])], f := fun | [⟨.slice (.int .i64), x0⟩, ⟨.slice (.int .i64), x1⟩] => .yes _ (box_EqualI x0 x1) box_EqualI_mk | _ => .no }
theorem box_EqualI_ok : SigOk Try.prog 35 box_EqualI_sig := by
  refine contract_of (C := box_EqualI_C) (d := 3) ⟨S5_ok, noPs⟩ (callable_ex (by kernel_rfl)) ?_
  intro dvs
  unfold box_EqualI_sig
  dsimp only
  split
  · refine .inr ⟨_, box_EqualI_un, box_EqualI_mk, congrArg (fun o => Cl.yes _ o _) (box_EqualI_raw _ _), ?_⟩
    intro ds x h
    unfold box_EqualI_un at h
    split at h
    · cases h; rfl
    · cases h
  · exact .inl rfl
noncomputable def S6 : List (Nat × Sig) := (35, box_EqualI_sig) :: S5
theorem S6_ok : ListOk Try.prog S6 := ListOk.cons S5_ok box_EqualI_ok
noncomputable def box_EqualFunc_C : Cfg := { P := Try.prog, sig := lookSig S6, hb := fun f b => bif Nat.beq f 36 && Nat.beq b 0 then some { tmps := [1, 2, 15, 16, 17], obs := [], nils := [], kl := [172, 164] } else none, hr := fun _ _ => none }
noncomputable def box_EqualFunc_un : List DV → Option (Bool) := fun | [⟨.bool, r0⟩] => some r0 | _ => none
noncomputable def box_EqualFunc_mk : Bool → List DV := fun r0 => [⟨.bool, r0⟩]
theorem box_EqualFunc_ex : ∃ f : (List (Int × Int × (List Int))) → (List (Int × Int × (List Int))) → Option (Bool), f = fun (x0 : List (Int × Int × (List Int))) (x1 : List (Int × Int × (List Int))) => funRun box_EqualFunc_C 3 36 [(false, [(false, .slice (.pair (.int .i64) (.pair (.int .i64) (.slice (.int .u8)))))]), (false, [(false, .slice (.pair (.int .i64) (.pair (.int .i64) (.slice (.int .u8)))))]), (false, [(false, .fn 37 (.unit))])] [(false, [(false, .bool)])] box_EqualFunc_un [⟨.slice (.pair (.int .i64) (.pair (.int .i64) (.slice (.int .u8)))), x0⟩, ⟨.slice (.pair (.int .i64) (.pair (.int .i64) (.slice (.int .u8)))), x1⟩, ⟨.fn 37 (.unit), ()⟩] := ⟨_, rfl⟩
noncomputable def box_EqualFunc : (List (Int × Int × (List Int))) → (List (Int × Int × (List Int))) → Option (Bool) := box_EqualFunc_ex.choose
theorem box_EqualFunc_raw (x0 : List (Int × Int × (List Int))) (x1 : List (Int × Int × (List Int))) : box_EqualFunc x0 x1 = funRun box_EqualFunc_C 3 36 [(false, [(false, .slice (.pair (.int .i64) (.pair (.int .i64) (.slice (.int .u8)))))]), (false, [(false, .slice (.pair (.int .i64) (.pair (.int .i64) (.slice (.int .u8)))))]), (false, [(false, .fn 37 (.unit))])] [(false, [(false, .bool)])] box_EqualFunc_un [⟨.slice (.pair (.int .i64) (.pair (.int .i64) (.slice (.int .u8)))), x0⟩, ⟨.slice (.pair (.int .i64) (.pair (.int .i64) (.slice (.int .u8)))), x1⟩, ⟨.fn 37 (.unit), ()⟩] := congrFun (congrFun (box_EqualFunc_ex.choose_spec) x0) x1
noncomputable def box_EqualFunc_l0 (y0 : List ((Int) × ((Int) × (List (Int))))) (y1 : List ((Int) × ((Int) × (List (Int))))) (y2 : Int) (y3 : Int) : Option (Bool) := loopAt box_EqualFunc_C 3 36 [(false, [(false, .bool)])] box_EqualFunc_un [true, true, false, true, false] (St.ofLists [(1, .fz ((Ty.int IntKind.i64).pair ((Ty.int IntKind.i64).pair (Ty.int IntKind.u8).slice)) y0 false false), (2, .func 37 []), (15, .fz ((Ty.int IntKind.i64).pair ((Ty.int IntKind.i64).pair (Ty.int IntKind.u8).slice)) y1 false false), (16, .int .i64 y2), (17, .int .i64 y3)] [] [172, 164])
theorem box_EqualFunc_eq (x0 : List (Int × Int × (List Int))) (x1 : List (Int × Int × (List Int))) : box_EqualFunc x0 x1 =
  bif ilen x0 != ilen x1
  then some false
  else box_EqualFunc_l0 (x1) (x0) (ilen x0) (0) := (box_EqualFunc_raw x0 x1).trans (by kernel_rfl)
theorem box_EqualFunc_l0_eq (y0 : List ((Int) × ((Int) × (List (Int))))) (y1 : List ((Int) × ((Int) × (List (Int))))) (y2 : Int) (y3 : Int) : box_EqualFunc_l0 y0 y1 y2 y3 =
  bif decide (y3 < y2)
  then bif decide (0 ≤ y3)
    then (y1[y3.toNat]?).bind fun val4 =>
      bif decide (0 ≤ y3)
        then (y0[y3.toNat]?).bind fun val8 =>
          bif val4.fst == val8.fst
            then bif val4.snd.fst == val8.snd.fst
              then (bytes_Equal val4.snd.snd val8.snd.snd).bind fun val14 =>
                bif !val14
                  then some false
                  else box_EqualFunc_l0 (y0) (y1) (y2) (IntKind.i64.wrap (y3 + 1))
              else some false
            else some false
        else none
    else none
  else some true := (loopAt_step _ _ _ _ _ _ _).trans (by kernel_rfl)
noncomputable def box_EqualFunc_sig : Sig := { pm := [(false, [(false, .slice (.pair (.int .i64) (.pair (.int .i64) (.slice (.int .u8)))))]), (false, [(false, .slice (.pair (.int .i64) (.pair (.int .i64) (.slice (.int .u8)))))]), (false, [(false, .fn 37 (.unit))])], rm := [(false, [(false, .bool)])], f := fun | [⟨.slice (.pair (.int .i64) (.pair (.int .i64) (.slice (.int .u8)))), x0⟩, ⟨.slice (.pair (.int .i64) (.pair (.int .i64) (.slice (.int .u8)))), x1⟩, ⟨.fn 37 (.unit), ()⟩] => .yes _ (box_EqualFunc x0 x1) box_EqualFunc_mk | _ => .no }
theorem box_EqualFunc_ok : SigOk Try.prog 36 box_EqualFunc_sig := by
  refine contract_of (C := box_EqualFunc_C) (d := 3) ⟨S6_ok, noPs⟩ (callable_ex (by kernel_rfl)) ?_
  intro dvs
  unfold box_EqualFunc_sig
  dsimp only
  split
  · refine .inr ⟨_, box_EqualFunc_un, box_EqualFunc_mk, congrArg (fun o => Cl.yes _ o _) (box_EqualFunc_raw _ _), ?_⟩
    intro ds x h
    unfold box_EqualFunc_un at h
    split at h
    · cases h; rfl
    · cases h
  · exact .inl rfl
noncomputable def S7 : List (Nat × Sig) := (36, box_EqualFunc_sig) :: S6
theorem S7_ok : ListOk Try.prog S7 := ListOk.cons S6_ok box_EqualFunc_ok
noncomputable def box_IndexFuncI_C : Cfg := { P := Try.prog, sig := lookSig S7, hb := fun f b => bif Nat.beq f 57 && Nat.beq b 0 then some { tmps := [0, 1, 7, 8], obs := [], nils := [], kl := [] } else none, hr := fun _ _ => none }
noncomputable def box_IndexFuncI_un : List DV → Option (Int) := fun | [⟨.int .i64, r0⟩] => some r0 | _ => none
noncomputable def box_IndexFuncI_mk : Int → List DV := fun r0 => [⟨.int .i64, r0⟩]
theorem box_IndexFuncI_ex : ∃ f : (List Int) → Option (Int), f = fun (x0 : List Int) => funRun box_IndexFuncI_C 3 57 [(false, [(false, .slice (.int .i64))]), (false, [(false, .fn 51 (.unit))])] [(false, [(false, .int .i64)])] box_IndexFuncI_un [⟨.slice (.int .i64), x0⟩, ⟨.fn 51 (.unit), ()⟩] := ⟨_, rfl⟩
noncomputable def box_IndexFuncI : (List Int) → Option (Int) := box_IndexFuncI_ex.choose
theorem box_IndexFuncI_raw (x0 : List Int) : box_IndexFuncI x0 = funRun box_IndexFuncI_C 3 57 [(false, [(false, .slice (.int .i64))]), (false, [(false, .fn 51 (.unit))])] [(false, [(false, .int .i64)])] box_IndexFuncI_un [⟨.slice (.int .i64), x0⟩, ⟨.fn 51 (.unit), ()⟩] := congrFun (box_IndexFuncI_ex.choose_spec) x0
noncomputable def box_IndexFuncI_l0 (y0 : List (Int)) (y1 : Int) (y2 : Int) : Option (Int) := loopAt box_IndexFuncI_C 3 57 [(false, [(false, .int .i64)])] box_IndexFuncI_un [true, false, true, false] (St.ofLists [(0, .fz (Ty.int IntKind.i64) y0 false false), (1, .func 51 []), (7, .int .i64 y1), (8, .int .i64 y2)] [] [])
theorem box_IndexFuncI_eq (x0 : List Int) : box_IndexFuncI x0 =
  box_IndexFuncI_l0 (x0) (ilen x0) (0) := (box_IndexFuncI_raw x0).trans (by kernel_rfl)
theorem box_IndexFuncI_l0_eq (y0 : List (Int)) (y1 : Int) (y2 : Int) : box_IndexFuncI_l0 y0 y1 y2 =
  bif decide (y2 < y1)
  then bif decide (0 ≤ y2)
    then (y0[y2.toNat]?).bind fun val4 =>
      bif decide (val4 < 0)
        then some (y2)
        else bif decide (val4 > 1099511627776)
          then some (y2)
          else box_IndexFuncI_l0 (y0) (y1) (IntKind.i64.wrap (y2 + 1))
    else none
  else some (-1) := (loopAt_step _ _ _ _ _ _ _).trans (by kernel_rfl)
noncomputable def box_IndexFuncI_sig : Sig := { pm := [(false, [(false, .slice (.int .i64))]), (false, [(false, .fn 51 (.unit))])], rm := [(false, [(false, .int .i64)])], f := fun | [⟨.slice (.int .i64), x0⟩, ⟨.fn 51 (.unit), ()⟩] => .yes _ (box_IndexFuncI x0) box_IndexFuncI_mk | _ => .no }
theorem box_IndexFuncI_ok : SigOk Try.prog 57 box_IndexFuncI_sig := by
  refine contract_of (C := box_IndexFuncI_C) (d := 3) ⟨S7_ok, noPs⟩ (callable_ex (by kernel_rfl)) ?_
  intro dvs
  unfold box_IndexFuncI_sig
  dsimp only
  split
  · refine .inr ⟨_, box_IndexFuncI_un, box_IndexFuncI_mk, congrArg (fun o => Cl.yes _ o _) (box_IndexFuncI_raw _), ?_⟩
    intro ds x h
    unfold box_IndexFuncI_un at h
    split at h
    · cases h; rfl
    · cases h
  · exact .inl rfl
noncomputable def S8 : List (Nat × Sig) := (57, box_IndexFuncI_sig) :: S7
theorem S8_ok : ListOk Try.prog S8 := ListOk.cons S7_ok box_IndexFuncI_ok
noncomputable def box_ContainsFunc_C : Cfg := { P := Try.prog, sig := lookSig S8, hb := fun _ _ => none, hr := fun _ _ => none }
noncomputable def box_ContainsFunc_un : List DV → Option (Bool) := fun | [⟨.bool, r0⟩] => some r0 | _ => none
noncomputable def box_ContainsFunc_mk : Bool → List DV := fun r0 => [⟨.bool, r0⟩]
theorem box_ContainsFunc_ex : ∃ f : (List Int) → Option (Bool), f = fun (x0 : List Int) => funRun box_ContainsFunc_C 3 50 [(false, [(false, .slice (.int .i64))]), (false, [(false, .fn 51 (.unit))])] [(false, [(false, .bool)])] box_ContainsFunc_un [⟨.slice (.int .i64), x0⟩, ⟨.fn 51 (.unit), ()⟩] := ⟨_, rfl⟩
noncomputable def box_ContainsFunc : (List Int) → Option (Bool) := box_ContainsFunc_ex.choose
theorem box_ContainsFunc_raw (x0 : List Int) : box_ContainsFunc x0 = funRun box_ContainsFunc_C 3 50 [(false, [(false, .slice (.int .i64))]), (false, [(false, .fn 51 (.unit))])] [(false, [(false, .bool)])] box_ContainsFunc_un [⟨.slice (.int .i64), x0⟩, ⟨.fn 51 (.unit), ()⟩] := congrFun (box_ContainsFunc_ex.choose_spec) x0
theorem box_ContainsFunc_eq (x0 : List Int) : box_ContainsFunc x0 =
  (box_IndexFuncI x0).bind fun val0 =>
  some (decide (val0 ≥ 0)) := (box_ContainsFunc_raw x0).trans (by kernel_rfl)
noncomputable def box_ContainsFunc_sig : Sig := { pm := [(false, [(false, .slice (.int .i64))]), (false, [(false, .fn 51 (.unit))])], rm := [(false, [(false, .bool)])], f := fun | [⟨.slice (.int .i64), x0⟩, ⟨.fn 51 (.unit), ()⟩] => .yes _ (box_ContainsFunc x0) box_ContainsFunc_mk | _ => .no }
theorem box_ContainsFunc_ok : SigOk Try.prog 50 box_ContainsFunc_sig := by
  refine contract_of (C := box_ContainsFunc_C) (d := 3) ⟨S8_ok, noPs⟩ (callable_ex (by kernel_rfl)) ?_
  intro dvs
  unfold box_ContainsFunc_sig
  dsimp only
  split
  · refine .inr ⟨_, box_ContainsFunc_un, box_ContainsFunc_mk, congrArg (fun o => Cl.yes _ o _) (box_ContainsFunc_raw _), ?_⟩
    intro ds x h
    unfold box_ContainsFunc_un at h
    split at h
    · cases h; rfl
    · cases h
  · exact .inl rfl
noncomputable def S9 : List (Nat × Sig) := (50, box_ContainsFunc_sig) :: S8
theorem S9_ok : ListOk Try.prog S9 := ListOk.cons S8_ok box_ContainsFunc_ok
noncomputable def box_right_C : Cfg := { P := Try.prog, sig := lookSig S9, hb := fun _ _ => none, hr := fun _ _ => none }
noncomputable def box_right_un : List DV → Option (Bool) := fun | [⟨.bool, r0⟩] => some r0 | _ => none
noncomputable def box_right_mk : Bool → List DV := fun r0 => [⟨.bool, r0⟩]
theorem box_right_ex : ∃ f : (List Int) → Option (Bool), f = fun (x0 : List Int) => funRun box_right_C 3 34 [(false, [(false, .slice (.int .i64))])] [(false, [(false, .bool)])] box_right_un [⟨.slice (.int .i64), x0⟩] := ⟨_, rfl⟩
noncomputable def box_right : (List Int) → Option (Bool) := box_right_ex.choose
theorem box_right_raw (x0 : List Int) : box_right x0 = funRun box_right_C 3 34 [(false, [(false, .slice (.int .i64))])] [(false, [(false, .bool)])] box_right_un [⟨.slice (.int .i64), x0⟩] := congrFun (box_right_ex.choose_spec) x0
theorem box_right_eq (x0 : List Int) : box_right x0 =
  (box_ContainsFunc x0).bind fun val0 =>
  some (!val0) := (box_right_raw x0).trans (by kernel_rfl)
noncomputable def box_right_sig : Sig := { pm := [(false, [(false, .slice (.int .i64))])], rm := [(false, [(false, .bool)])], f := fun | [⟨.slice (.int .i64), x0⟩] => .yes _ (box_right x0) box_right_mk | _ => .no }
theorem box_right_ok : SigOk Try.prog 34 box_right_sig := by
  refine contract_of (C := box_right_C) (d := 3) ⟨S9_ok, noPs⟩ (callable_ex (by kernel_rfl)) ?_
  intro dvs
  unfold box_right_sig
  dsimp only
  split
  · refine .inr ⟨_, box_right_un, box_right_mk, congrArg (fun o => Cl.yes _ o _) (box_right_raw _), ?_⟩
    intro ds x h
    unfold box_right_un at h
    split at h
    · cases h; rfl
    · cases h
  · exact .inl rfl
noncomputable def S10 : List (Nat × Sig) := (34, box_right_sig) :: S9
theorem S10_ok : ListOk Try.prog S10 := ListOk.cons S9_ok box_right_ok
noncomputable def box_New_C : Cfg := { P := Try.prog, sig := lookSig S10, hb := fun _ _ => none, hr := fun _ _ => none }
noncomputable def box_New_un : List DV → Option ((List Int) × (List (Int × Int × (List Int))) × (List Int) × Int) := fun | [⟨.slice (.int .i64), r0⟩, ⟨.slice (.pair (.int .i64) (.pair (.int .i64) (.slice (.int .u8)))), r1⟩, ⟨.slice (.int .i64), r2⟩, ⟨.int .i64, r3⟩] => some (r0, r1, r2, r3) | _ => none
noncomputable def box_New_mk : ((List Int) × (List (Int × Int × (List Int))) × (List Int) × Int) → List DV := fun ⟨r0, r1, r2, r3⟩ => [⟨.slice (.int .i64), r0⟩, ⟨.slice (.pair (.int .i64) (.pair (.int .i64) (.slice (.int .u8)))), r1⟩, ⟨.slice (.int .i64), r2⟩, ⟨.int .i64, r3⟩]
theorem box_New_ex : ∃ f : (Int) → Option ((List Int) × (List (Int × Int × (List Int))) × (List Int) × Int), f = fun (x0 : Int) => funRun box_New_C 3 9 [(false, [(false, .int .i64)])] [(true, [(false, .slice (.int .i64)), (false, .slice (.pair (.int .i64) (.pair (.int .i64) (.slice (.int .u8))))), (false, .slice (.int .i64))]), (false, [(false, .int .i64)])] box_New_un [⟨.int .i64, x0⟩] := ⟨_, rfl⟩
noncomputable def box_New : (Int) → Option ((List Int) × (List (Int × Int × (List Int))) × (List Int) × Int) := box_New_ex.choose
theorem box_New_raw (x0 : Int) : box_New x0 = funRun box_New_C 3 9 [(false, [(false, .int .i64)])] [(true, [(false, .slice (.int .i64)), (false, .slice (.pair (.int .i64) (.pair (.int .i64) (.slice (.int .u8))))), (false, .slice (.int .i64))]), (false, [(false, .int .i64)])] box_New_un [⟨.int .i64, x0⟩] := congrFun (box_New_ex.choose_spec) x0
theorem box_New_eq (x0 : Int) : box_New x0 =
  bif decide (x0 < 1)
  then some (([]), (([]), (([]), (2))))
  else bif decide (x0 > 64)
    then some (([]), (([]), (([]), (2))))
    else bif decide (x0 = x0)
      then bif decide (0 ≤ x0)
        then bif decide (x0 * 8 ≤ room ∧ x0 ≤ room)
          then bif decide (x0 = x0)
            then bif decide (0 ≤ x0)
              then bif decide (x0 * 8 ≤ room ∧ x0 ≤ room)
                then some ((List.replicate x0.toNat (zeroOf (Ty.int IntKind.i64))), (([]), ((List.replicate x0.toNat (zeroOf (Ty.int IntKind.i64))), (0))))
                else none
              else none
            else none
          else none
        else none
      else none := (box_New_raw x0).trans (by kernel_rfl)
noncomputable def box_New_sig : Sig := { pm := [(false, [(false, .int .i64)])], rm := [(true, [(false, .slice (.int .i64)), (false, .slice (.pair (.int .i64) (.pair (.int .i64) (.slice (.int .u8))))), (false, .slice (.int .i64))]), (false, [(false, .int .i64)])], f := fun | [⟨.int .i64, x0⟩] => .yes _ (box_New x0) box_New_mk | _ => .no }
theorem box_New_ok : SigOk Try.prog 9 box_New_sig := by
  refine contract_of (C := box_New_C) (d := 3) ⟨S10_ok, noPs⟩ (callable_ex (by kernel_rfl)) ?_
  intro dvs
  unfold box_New_sig
  dsimp only
  split
  · refine .inr ⟨_, box_New_un, box_New_mk, congrArg (fun o => Cl.yes _ o _) (box_New_raw _), ?_⟩
    intro ds x h
    unfold box_New_un at h
    split at h
    · cases h; rfl
    · cases h
  · exact .inl rfl
noncomputable def S11 : List (Nat × Sig) := (9, box_New_sig) :: S10
theorem S11_ok : ListOk Try.prog S11 := ListOk.cons S10_ok box_New_ok
noncomputable def box_Check_C : Cfg := { P := Try.prog, sig := lookSig S11, hb := fun f b => bif Nat.beq f 12 && Nat.beq b 0 then some { tmps := [1, 3, 4, 5, 45, 46, 47], obs := [108, 444], nils := [], kl := [444, 108, 156] } else bif Nat.beq f 12 && Nat.beq b 2 then some { tmps := [1, 95, 96, 97], obs := [108, 444], nils := [], kl := [444, 108, 156] } else none, hr := fun _ _ => none }
noncomputable def box_Check_un : List DV → Option (Int) := fun | [⟨.int .i64, r0⟩] => some r0 | _ => none
noncomputable def box_Check_mk : Int → List DV := fun r0 => [⟨.int .i64, r0⟩]
theorem box_Check_ex : ∃ f : (List Int) → (List (Int × Int × (List Int))) → (List Int) → Option (Int), f = fun (x0 : List Int) (x1 : List (Int × Int × (List Int))) (x2 : List Int) => funRun box_Check_C 3 12 [(true, [(false, .slice (.int .i64)), (false, .slice (.pair (.int .i64) (.pair (.int .i64) (.slice (.int .u8))))), (false, .slice (.int .i64))])] [(false, [(false, .int .i64)])] box_Check_un [⟨.slice (.int .i64), x0⟩, ⟨.slice (.pair (.int .i64) (.pair (.int .i64) (.slice (.int .u8)))), x1⟩, ⟨.slice (.int .i64), x2⟩] := ⟨_, rfl⟩
noncomputable def box_Check : (List Int) → (List (Int × Int × (List Int))) → (List Int) → Option (Int) := box_Check_ex.choose
theorem box_Check_raw (x0 : List Int) (x1 : List (Int × Int × (List Int))) (x2 : List Int) : box_Check x0 x1 x2 = funRun box_Check_C 3 12 [(true, [(false, .slice (.int .i64)), (false, .slice (.pair (.int .i64) (.pair (.int .i64) (.slice (.int .u8))))), (false, .slice (.int .i64))])] [(false, [(false, .int .i64)])] box_Check_un [⟨.slice (.int .i64), x0⟩, ⟨.slice (.pair (.int .i64) (.pair (.int .i64) (.slice (.int .u8)))), x1⟩, ⟨.slice (.int .i64), x2⟩] := congrFun (congrFun (congrFun (box_Check_ex.choose_spec) x0) x1) x2
noncomputable def box_Check_l0 (y0 : Int) (y1 : Int) (y2 : List ((Int) × ((Int) × (List (Int))))) (y3 : Int) (y4 : Int) (y5 : List (Int)) (y6 : List ((Int) × ((Int) × (List (Int))))) (y7 : List (Int)) (y8 : List (Int)) : Option (Int) := loopAt box_Check_C 3 12 [(false, [(false, .int .i64)])] box_Check_un [true, true, true, true, true, true, false, true, false] (St.ofLists [(1, .ptr 108 0), (3, .int .i64 y0), (4, .ow 444), (5, .int .i64 y1), (45, .fz ((Ty.int IntKind.i64).pair ((Ty.int IntKind.i64).pair (Ty.int IntKind.u8).slice)) y2 false false), (46, .int .i64 y3), (47, .int .i64 y4)] [(108, some (.cells [.fz (Ty.int IntKind.i64) y5 false false, .fz ((Ty.int IntKind.i64).pair ((Ty.int IntKind.i64).pair (Ty.int IntKind.u8).slice)) y6 false false, .fz (Ty.int IntKind.i64) y7 false false])), (444, some (.row (Ty.int IntKind.i64) y8 0 false))] [444, 108, 156])
noncomputable def box_Check_l2 (y0 : Int) (y1 : Int) (y2 : List (Int)) (y3 : List ((Int) × ((Int) × (List (Int))))) (y4 : List (Int)) (y5 : List (Int)) : Option (Int) := loopAt box_Check_C 3 12 [(false, [(false, .int .i64)])] box_Check_un [true, true, true, true, true, true, true, false, true, false] (St.ofLists [(1, .ptr 108 0), (95, .ow 444), (96, .int .i64 y0), (97, .int .i64 y1)] [(108, some (.cells [.fz (Ty.int IntKind.i64) y2 false false, .fz ((Ty.int IntKind.i64).pair ((Ty.int IntKind.i64).pair (Ty.int IntKind.u8).slice)) y3 false false, .fz (Ty.int IntKind.i64) y4 false false])), (444, some (.row (Ty.int IntKind.i64) y5 0 false))] [444, 108, 156])
theorem box_Check_eq (x0 : List Int) (x1 : List (Int × Int × (List Int))) (x2 : List Int) : box_Check x0 x1 x2 =
  bif decide (ilen x0 < 1)
  then some (1)
  else bif decide (ilen x0 > 64)
    then some (1)
    else bif ilen x2 != ilen x0
      then some (1)
      else (box_right x0).bind fun val6 =>
        bif !val6
          then some (1)
          else (box_right x2).bind fun val10 =>
            bif !val10
              then some (1)
              else bif decide (ilen x1 > 256)
                then some (6)
                else bif decide (ilen x0 = ilen x0)
                  then bif decide (0 ≤ ilen x0)
                    then bif decide (ilen x0 * 8 ≤ room ∧ ilen x0 ≤ room)
                      then box_Check_l0 (ilen x0) (0) (x1) (ilen x1) (0) (x0) (x1) (x2) (List.replicate (ilen x0).toNat (zeroOf (Ty.int IntKind.i64)))
                      else none
                    else none
                  else none := (box_Check_raw x0 x1 x2).trans (by kernel_rfl)
theorem box_Check_l0_eq (y0 : Int) (y1 : Int) (y2 : List ((Int) × ((Int) × (List (Int))))) (y3 : Int) (y4 : Int) (y5 : List (Int)) (y6 : List ((Int) × ((Int) × (List (Int))))) (y7 : List (Int)) (y8 : List (Int)) : box_Check_l0 y0 y1 y2 y3 y4 y5 y6 y7 y8 =
  bif decide (y4 < y3)
  then bif decide (0 ≤ y4)
    then (y2[y4.toNat]?).bind fun val4 =>
      bif decide (val4.fst < y1)
        then some (1)
        else bif decide (val4.fst ≥ y0)
          then some (1)
          else bif decide (val4.snd.fst < 1)
            then some (1)
            else bif decide (ilen val4.snd.snd > 65536)
              then some (1)
              else bif decide (0 ≤ val4.fst)
                then bif decide (val4.fst < ilen y8)
                  then (y8[Int.toNat val4.fst]?).bind fun val18 =>
                    bif val18 != 0
                      then bif decide (0 ≤ val4.fst)
                        then bif decide (val4.fst < ilen y8)
                          then (y8[Int.toNat val4.fst]?).bind fun val26 =>
                            bif val26 != val4.snd.fst
                              then some (1)
                              else bif decide (0 ≤ val4.fst)
                                then bif decide (val4.fst < ilen y8)
                                  then (y8[Int.toNat val4.fst]?).bind fun val34 =>
                                    box_Check_l0 (y0) (val4.fst) (y2) (y3) (IntKind.i64.wrap (y4 + 1)) (y5) (y6) (y7) (y8.set (Int.toNat val4.fst) (IntKind.i64.wrap (val4.snd.fst + 1)))
                                  else none
                                else none
                          else none
                        else none
                      else bif decide (0 ≤ val4.fst)
                        then bif decide (val4.fst < ilen y8)
                          then (y8[Int.toNat val4.fst]?).bind fun val26 =>
                            box_Check_l0 (y0) (val4.fst) (y2) (y3) (IntKind.i64.wrap (y4 + 1)) (y5) (y6) (y7) (y8.set (Int.toNat val4.fst) (IntKind.i64.wrap (val4.snd.fst + 1)))
                          else none
                        else none
                  else none
                else none
    else none
  else box_Check_l2 (ilen y8) (0) (y5) (y6) (y7) (y8) := (loopAt_step _ _ _ _ _ _ _).trans (by kernel_rfl)
theorem box_Check_l2_eq (y0 : Int) (y1 : Int) (y2 : List (Int)) (y3 : List ((Int) × ((Int) × (List (Int))))) (y4 : List (Int)) (y5 : List (Int)) : box_Check_l2 y0 y1 y2 y3 y4 y5 =
  bif decide (y1 < y0)
  then bif decide (0 ≤ y1)
    then bif decide (y1 < ilen y5)
      then (y5[y1.toNat]?).bind fun val6 =>
        bif val6 != 0
          then bif decide (0 ≤ y1)
            then (y2[y1.toNat]?).bind fun val12 =>
              bif val6 != IntKind.i64.wrap (val12 + 1)
                then some (1)
                else box_Check_l2 (y0) (IntKind.i64.wrap (y1 + 1)) (y2) (y3) (y4) (y5)
            else none
          else box_Check_l2 (y0) (IntKind.i64.wrap (y1 + 1)) (y2) (y3) (y4) (y5)
      else none
    else none
  else some (0) := (loopAt_step _ _ _ _ _ _ _).trans (by kernel_rfl)
noncomputable def box_Check_sig : Sig := { pm := [(true, [(false, .slice (.int .i64)), (false, .slice (.pair (.int .i64) (.pair (.int .i64) (.slice (.int .u8))))), (false, .slice (.int .i64))])], rm := [(false, [(false, .int .i64)])], f := fun | [⟨.slice (.int .i64), x0⟩, ⟨.slice (.pair (.int .i64) (.pair (.int .i64) (.slice (.int .u8)))), x1⟩, ⟨.slice (.int .i64), x2⟩] => .yes _ (box_Check x0 x1 x2) box_Check_mk | _ => .no }
theorem box_Check_ok : SigOk Try.prog 12 box_Check_sig := by
  refine contract_of (C := box_Check_C) (d := 3) ⟨S11_ok, noPs⟩ (callable_ex (by kernel_rfl)) ?_
  intro dvs
  unfold box_Check_sig
  dsimp only
  split
  · refine .inr ⟨_, box_Check_un, box_Check_mk, congrArg (fun o => Cl.yes _ o _) (box_Check_raw _ _ _), ?_⟩
    intro ds x h
    unfold box_Check_un at h
    split at h
    · cases h; rfl
    · cases h
  · exact .inl rfl
noncomputable def S12 : List (Nat × Sig) := (12, box_Check_sig) :: S11
theorem S12_ok : ListOk Try.prog S12 := ListOk.cons S11_ok box_Check_ok
noncomputable def box_Copy_C : Cfg := { P := Try.prog, sig := lookSig S12, hb := fun f b => bif Nat.beq f 15 && Nat.beq b 0 then some { tmps := [1, 2, 18, 19], obs := [108, 116, 148, 196, 172], nils := [], kl := [196, 172, 148, 116, 108, 348] } else none, hr := fun _ _ => none }
noncomputable def box_Copy_un : List DV → Option ((List Int) × (List (Int × Int × (List Int))) × (List Int)) := fun | [⟨.slice (.int .i64), r0⟩, ⟨.slice (.pair (.int .i64) (.pair (.int .i64) (.slice (.int .u8)))), r1⟩, ⟨.slice (.int .i64), r2⟩] => some (r0, r1, r2) | _ => none
noncomputable def box_Copy_mk : ((List Int) × (List (Int × Int × (List Int))) × (List Int)) → List DV := fun ⟨r0, r1, r2⟩ => [⟨.slice (.int .i64), r0⟩, ⟨.slice (.pair (.int .i64) (.pair (.int .i64) (.slice (.int .u8)))), r1⟩, ⟨.slice (.int .i64), r2⟩]
theorem box_Copy_ex : ∃ f : (List Int) → (List (Int × Int × (List Int))) → (List Int) → Option ((List Int) × (List (Int × Int × (List Int))) × (List Int)), f = fun (x0 : List Int) (x1 : List (Int × Int × (List Int))) (x2 : List Int) => funRun box_Copy_C 3 15 [(true, [(false, .slice (.int .i64)), (false, .slice (.pair (.int .i64) (.pair (.int .i64) (.slice (.int .u8))))), (false, .slice (.int .i64))])] [(true, [(true, .slice (.int .i64)), (true, .slice (.pair (.int .i64) (.pair (.int .i64) (.slice (.int .u8))))), (true, .slice (.int .i64))])] box_Copy_un [⟨.slice (.int .i64), x0⟩, ⟨.slice (.pair (.int .i64) (.pair (.int .i64) (.slice (.int .u8)))), x1⟩, ⟨.slice (.int .i64), x2⟩] := ⟨_, rfl⟩
noncomputable def box_Copy : (List Int) → (List (Int × Int × (List Int))) → (List Int) → Option ((List Int) × (List (Int × Int × (List Int))) × (List Int)) := box_Copy_ex.choose
theorem box_Copy_raw (x0 : List Int) (x1 : List (Int × Int × (List Int))) (x2 : List Int) : box_Copy x0 x1 x2 = funRun box_Copy_C 3 15 [(true, [(false, .slice (.int .i64)), (false, .slice (.pair (.int .i64) (.pair (.int .i64) (.slice (.int .u8))))), (false, .slice (.int .i64))])] [(true, [(true, .slice (.int .i64)), (true, .slice (.pair (.int .i64) (.pair (.int .i64) (.slice (.int .u8))))), (true, .slice (.int .i64))])] box_Copy_un [⟨.slice (.int .i64), x0⟩, ⟨.slice (.pair (.int .i64) (.pair (.int .i64) (.slice (.int .u8)))), x1⟩, ⟨.slice (.int .i64), x2⟩] := congrFun (congrFun (congrFun (box_Copy_ex.choose_spec) x0) x1) x2
noncomputable def box_Copy_l0 (y0 : Int) (y1 : Int) (y2 : List (Int)) (y3 : List ((Int) × ((Int) × (List (Int))))) (y4 : List (Int)) : Option ((List Int) × (List (Int × Int × (List Int))) × (List Int)) := loopAt box_Copy_C 3 15 [(true, [(true, .slice (.int .i64)), (true, .slice (.pair (.int .i64) (.pair (.int .i64) (.slice (.int .u8))))), (true, .slice (.int .i64))])] box_Copy_un [true, true, false, true, false] (St.ofLists [(1, .ptr 108 0), (2, .ptr 116 0), (18, .int .i64 y0), (19, .int .i64 y1)] [(108, some (.cells [.ow 148, .ow 196, .ow 172])), (116, some (.cells [.nils, .nils, .nils])), (148, some (.row (Ty.int IntKind.i64) y2 0 false)), (196, some (.row ((Ty.int IntKind.i64).pair ((Ty.int IntKind.i64).pair (Ty.int IntKind.u8).slice)) y3 0 false)), (172, some (.row (Ty.int IntKind.i64) y4 0 false))] [196, 172, 148, 116, 108, 348])
theorem box_Copy_eq (x0 : List Int) (x1 : List (Int × Int × (List Int))) (x2 : List Int) : box_Copy x0 x1 x2 =
  (box_CloneI x0).bind fun val0 =>
  (box_CloneI x2).bind fun val2 =>
    (box_CloneO x1).bind fun val4 =>
      box_Copy_l0 (ilen val4) (0) (val0) (val4) (val2) := (box_Copy_raw x0 x1 x2).trans (by kernel_rfl)
theorem box_Copy_l0_eq (y0 : Int) (y1 : Int) (y2 : List (Int)) (y3 : List ((Int) × ((Int) × (List (Int))))) (y4 : List (Int)) : box_Copy_l0 y0 y1 y2 y3 y4 =
  bif decide (y1 < y0)
  then bif decide (0 ≤ y1)
    then bif decide (y1 < ilen y3)
      then (y3[y1.toNat]?).bind fun val6 =>
        (box_CloneB val6.snd.snd).bind fun val8 =>
          bif decide (0 ≤ y1)
            then bif decide (y1 < ilen y3)
              then (y3[y1.toNat]?).bind fun val14 =>
                box_Copy_l0 (y0) (IntKind.i64.wrap (y1 + 1)) (y2) (y3.set y1.toNat (val14.fst, val14.snd.fst, val8)) (y4)
              else none
            else none
      else none
    else none
  else some ((y2), ((y3), (y4))) := (loopAt_step _ _ _ _ _ _ _).trans (by kernel_rfl)
noncomputable def box_Copy_sig : Sig := { pm := [(true, [(false, .slice (.int .i64)), (false, .slice (.pair (.int .i64) (.pair (.int .i64) (.slice (.int .u8))))), (false, .slice (.int .i64))])], rm := [(true, [(true, .slice (.int .i64)), (true, .slice (.pair (.int .i64) (.pair (.int .i64) (.slice (.int .u8))))), (true, .slice (.int .i64))])], f := fun | [⟨.slice (.int .i64), x0⟩, ⟨.slice (.pair (.int .i64) (.pair (.int .i64) (.slice (.int .u8)))), x1⟩, ⟨.slice (.int .i64), x2⟩] => .yes _ (box_Copy x0 x1 x2) box_Copy_mk | _ => .no }
theorem box_Copy_ok : SigOk Try.prog 15 box_Copy_sig := by
  refine contract_of (C := box_Copy_C) (d := 3) ⟨S12_ok, noPs⟩ (callable_ex (by kernel_rfl)) ?_
  intro dvs
  unfold box_Copy_sig
  dsimp only
  split
  · refine .inr ⟨_, box_Copy_un, box_Copy_mk, congrArg (fun o => Cl.yes _ o _) (box_Copy_raw _ _ _), ?_⟩
    intro ds x h
    unfold box_Copy_un at h
    split at h
    · cases h; rfl
    · cases h
  · exact .inl rfl
noncomputable def S13 : List (Nat × Sig) := (15, box_Copy_sig) :: S12
theorem S13_ok : ListOk Try.prog S13 := ListOk.cons S12_ok box_Copy_ok
noncomputable def box_Room_C : Cfg := { P := Try.prog, sig := lookSig S13, hb := fun _ _ => none, hr := fun _ _ => none }
noncomputable def box_Room_un : List DV → Option (Int) := fun | [⟨.int .i64, r0⟩] => some r0 | _ => none
noncomputable def box_Room_mk : Int → List DV := fun r0 => [⟨.int .i64, r0⟩]
theorem box_Room_ex : ∃ f : (List Int) → (List (Int × Int × (List Int))) → (List Int) → Option (Int), f = fun (x0 : List Int) (x1 : List (Int × Int × (List Int))) (x2 : List Int) => funRun box_Room_C 3 19 [(true, [(false, .slice (.int .i64)), (false, .slice (.pair (.int .i64) (.pair (.int .i64) (.slice (.int .u8))))), (false, .slice (.int .i64))])] [(false, [(false, .int .i64)])] box_Room_un [⟨.slice (.int .i64), x0⟩, ⟨.slice (.pair (.int .i64) (.pair (.int .i64) (.slice (.int .u8)))), x1⟩, ⟨.slice (.int .i64), x2⟩] := ⟨_, rfl⟩
noncomputable def box_Room : (List Int) → (List (Int × Int × (List Int))) → (List Int) → Option (Int) := box_Room_ex.choose
theorem box_Room_raw (x0 : List Int) (x1 : List (Int × Int × (List Int))) (x2 : List Int) : box_Room x0 x1 x2 = funRun box_Room_C 3 19 [(true, [(false, .slice (.int .i64)), (false, .slice (.pair (.int .i64) (.pair (.int .i64) (.slice (.int .u8))))), (false, .slice (.int .i64))])] [(false, [(false, .int .i64)])] box_Room_un [⟨.slice (.int .i64), x0⟩, ⟨.slice (.pair (.int .i64) (.pair (.int .i64) (.slice (.int .u8)))), x1⟩, ⟨.slice (.int .i64), x2⟩] := congrFun (congrFun (congrFun (box_Room_ex.choose_spec) x0) x1) x2
theorem box_Room_eq (x0 : List Int) (x1 : List (Int × Int × (List Int))) (x2 : List Int) : box_Room x0 x1 x2 =
  some (IntKind.i64.wrap (256 - ilen x1)) := (box_Room_raw x0 x1 x2).trans (by kernel_rfl)
noncomputable def box_Room_sig : Sig := { pm := [(true, [(false, .slice (.int .i64)), (false, .slice (.pair (.int .i64) (.pair (.int .i64) (.slice (.int .u8))))), (false, .slice (.int .i64))])], rm := [(false, [(false, .int .i64)])], f := fun | [⟨.slice (.int .i64), x0⟩, ⟨.slice (.pair (.int .i64) (.pair (.int .i64) (.slice (.int .u8)))), x1⟩, ⟨.slice (.int .i64), x2⟩] => .yes _ (box_Room x0 x1 x2) box_Room_mk | _ => .no }
theorem box_Room_ok : SigOk Try.prog 19 box_Room_sig := by
  refine contract_of (C := box_Room_C) (d := 3) ⟨S13_ok, noPs⟩ (callable_ex (by kernel_rfl)) ?_
  intro dvs
  unfold box_Room_sig
  dsimp only
  split
  · refine .inr ⟨_, box_Room_un, box_Room_mk, congrArg (fun o => Cl.yes _ o _) (box_Room_raw _ _ _), ?_⟩
    intro ds x h
    unfold box_Room_un at h
    split at h
    · cases h; rfl
    · cases h
  · exact .inl rfl
noncomputable def S14 : List (Nat × Sig) := (19, box_Room_sig) :: S13
theorem S14_ok : ListOk Try.prog S14 := ListOk.cons S13_ok box_Room_ok
noncomputable def S15 : List (Nat × Sig) := (42, insF_sig) :: S14
theorem S15_ok : ListOk Try.prog S15 := ListOk.cons S14_ok insF_ok
noncomputable def box_Send_C : Cfg := { P := Try.prog, sig := lookSig S15, hb := fun f b => bif Nat.beq f 17 && Nat.beq b 1 then some { tmps := [1, 2, 6, 9, 10], obs := [148, 172, 428, 429, 430], nils := [], kl := [172, 428, 429, 430, 148, 124] } else none, hr := fun _ _ => none }
noncomputable def box_Send_un : List DV → Option ((List Int) × (List (Int × Int × (List Int))) × (List Int) × Int × Int) := fun | [⟨.slice (.int .i64), r0⟩, ⟨.slice (.pair (.int .i64) (.pair (.int .i64) (.slice (.int .u8)))), r1⟩, ⟨.slice (.int .i64), r2⟩, ⟨.int .i64, r3⟩, ⟨.int .i64, r4⟩] => some (r0, r1, r2, r3, r4) | _ => none
noncomputable def box_Send_mk : ((List Int) × (List (Int × Int × (List Int))) × (List Int) × Int × Int) → List DV := fun ⟨r0, r1, r2, r3, r4⟩ => [⟨.slice (.int .i64), r0⟩, ⟨.slice (.pair (.int .i64) (.pair (.int .i64) (.slice (.int .u8)))), r1⟩, ⟨.slice (.int .i64), r2⟩, ⟨.int .i64, r3⟩, ⟨.int .i64, r4⟩]
theorem box_Send_ex : ∃ f : (List Int) → (List (Int × Int × (List Int))) → (List Int) → (Int) → (List Int) → Option ((List Int) × (List (Int × Int × (List Int))) × (List Int) × Int × Int), f = fun (x0 : List Int) (x1 : List (Int × Int × (List Int))) (x2 : List Int) (x3 : Int) (x4 : List Int) => funRun box_Send_C 3 17 [(true, [(false, .slice (.int .i64)), (false, .slice (.pair (.int .i64) (.pair (.int .i64) (.slice (.int .u8))))), (false, .slice (.int .i64))]), (false, [(false, .int .i64)]), (false, [(false, .slice (.int .u8))])] [(true, [(false, .slice (.int .i64)), (false, .slice (.pair (.int .i64) (.pair (.int .i64) (.slice (.int .u8))))), (false, .slice (.int .i64))]), (false, [(false, .int .i64)]), (false, [(false, .int .i64)])] box_Send_un [⟨.slice (.int .i64), x0⟩, ⟨.slice (.pair (.int .i64) (.pair (.int .i64) (.slice (.int .u8)))), x1⟩, ⟨.slice (.int .i64), x2⟩, ⟨.int .i64, x3⟩, ⟨.slice (.int .u8), x4⟩] := ⟨_, rfl⟩
noncomputable def box_Send : (List Int) → (List (Int × Int × (List Int))) → (List Int) → (Int) → (List Int) → Option ((List Int) × (List (Int × Int × (List Int))) × (List Int) × Int × Int) := box_Send_ex.choose
theorem box_Send_raw (x0 : List Int) (x1 : List (Int × Int × (List Int))) (x2 : List Int) (x3 : Int) (x4 : List Int) : box_Send x0 x1 x2 x3 x4 = funRun box_Send_C 3 17 [(true, [(false, .slice (.int .i64)), (false, .slice (.pair (.int .i64) (.pair (.int .i64) (.slice (.int .u8))))), (false, .slice (.int .i64))]), (false, [(false, .int .i64)]), (false, [(false, .slice (.int .u8))])] [(true, [(false, .slice (.int .i64)), (false, .slice (.pair (.int .i64) (.pair (.int .i64) (.slice (.int .u8))))), (false, .slice (.int .i64))]), (false, [(false, .int .i64)]), (false, [(false, .int .i64)])] box_Send_un [⟨.slice (.int .i64), x0⟩, ⟨.slice (.pair (.int .i64) (.pair (.int .i64) (.slice (.int .u8)))), x1⟩, ⟨.slice (.int .i64), x2⟩, ⟨.int .i64, x3⟩, ⟨.slice (.int .u8), x4⟩] := congrFun (congrFun (congrFun (congrFun (congrFun (box_Send_ex.choose_spec) x0) x1) x2) x3) x4
noncomputable def box_Send_l1 (y0 : Int) (y1 : List (Int)) (y2 : Int) (y3 : List (Int)) (y4 : List ((Int) × ((Int) × (List (Int))))) (y5 : List (Int)) : Option ((List Int) × (List (Int × Int × (List Int))) × (List Int) × Int × Int) := loopAt box_Send_C 3 17 [(true, [(false, .slice (.int .i64)), (false, .slice (.pair (.int .i64) (.pair (.int .i64) (.slice (.int .u8))))), (false, .slice (.int .i64))]), (false, [(false, .int .i64)]), (false, [(false, .int .i64)])] box_Send_un [true, true, true, true, true, false, false] (St.ofLists [(1, .int .i64 y0), (2, .fz (Ty.int IntKind.u8) y1 false false), (6, .ptr 148 0), (9, .ptr 172 0), (10, .int .i64 y2)] [(148, some (.cells [.nils, .nils, .nils])), (172, some (.cells [.ow 428, .ow 429, .ow 430])), (428, some (.row (Ty.int IntKind.i64) y3 0 false)), (429, some (.row ((Ty.int IntKind.i64).pair ((Ty.int IntKind.i64).pair (Ty.int IntKind.u8).slice)) y4 0 false)), (430, some (.row (Ty.int IntKind.i64) y5 0 false))] [172, 428, 429, 430, 148, 124])
theorem box_Send_eq (x0 : List Int) (x1 : List (Int × Int × (List Int))) (x2 : List Int) (x3 : Int) (x4 : List Int) : box_Send x0 x1 x2 x3 x4 =
  bif decide (x3 < 0)
  then some (([]), (([]), (([]), ((0), (9)))))
  else bif decide (x3 ≥ ilen x0)
    then some (([]), (([]), (([]), ((0), (9)))))
    else bif decide (ilen x4 > 65536)
      then some (([]), (([]), (([]), ((0), (6)))))
      else (box_Room x0 x1 x2).bind fun val6 =>
        bif decide (val6 < 1)
          then some (([]), (([]), (([]), ((0), (14)))))
          else bif decide (0 ≤ x3)
            then (x0[x3.toNat]?).bind fun val12 =>
              bif decide (val12 ≥ 1099511627776)
                then some (([]), (([]), (([]), ((0), (14)))))
                else (box_Copy x0 x1 x2).bind fun val16 =>
                  bif decide (0 ≤ x3)
                    then bif decide (x3 < ilen val16.1)
                      then (val16.1[x3.toNat]?).bind fun val22 =>
                        bif decide (0 ≤ x3)
                          then bif decide (x3 < ilen val16.1)
                            then (val16.1[x3.toNat]?).bind fun val28 =>
                              box_Send_l1 (x3) (x4) (0) (val16.1.set x3.toNat (IntKind.i64.wrap (val22 + 1))) (val16.2.1) (val16.2.2)
                            else none
                          else none
                      else none
                    else none
            else none := (box_Send_raw x0 x1 x2 x3 x4).trans (by kernel_rfl)
theorem box_Send_l1_eq (y0 : Int) (y1 : List (Int)) (y2 : Int) (y3 : List (Int)) (y4 : List ((Int) × ((Int) × (List (Int))))) (y5 : List (Int)) : box_Send_l1 y0 y1 y2 y3 y4 y5 =
  bif decide (y2 < ilen y4)
  then bif decide (0 ≤ y2)
    then bif decide (y2 < ilen y4)
      then (y4[y2.toNat]?).bind fun val6 =>
        bif decide (val6.fst ≤ y0)
          then box_Send_l1 (y0) (y1) (IntKind.i64.wrap (y2 + 1)) (y3) (y4) (y5)
          else bif decide (0 ≤ y0)
            then bif decide (y0 < ilen y3)
              then (y3[y0.toNat]?).bind fun val14 =>
                (box_CloneB y1).bind fun val16 =>
                  (insF y4 y2 [(y0, val14, val16)]).bind fun val18 =>
                    bif decide (0 ≤ y0)
                      then bif decide (y0 < ilen y3)
                        then (y3[y0.toNat]?).bind fun val24 =>
                          some ((y3), ((val18), ((y5), ((val24), (0)))))
                        else none
                      else none
              else none
            else none
      else none
    else none
  else bif decide (0 ≤ y0)
    then bif decide (y0 < ilen y3)
      then (y3[y0.toNat]?).bind fun val6 =>
        (box_CloneB y1).bind fun val8 =>
          (insF y4 y2 [(y0, val6, val8)]).bind fun val10 =>
            bif decide (0 ≤ y0)
              then bif decide (y0 < ilen y3)
                then (y3[y0.toNat]?).bind fun val16 =>
                  some ((y3), ((val10), ((y5), ((val16), (0)))))
                else none
              else none
      else none
    else none := (loopAt_step _ _ _ _ _ _ _).trans (by kernel_rfl)
noncomputable def box_Send_sig : Sig := { pm := [(true, [(false, .slice (.int .i64)), (false, .slice (.pair (.int .i64) (.pair (.int .i64) (.slice (.int .u8))))), (false, .slice (.int .i64))]), (false, [(false, .int .i64)]), (false, [(false, .slice (.int .u8))])], rm := [(true, [(false, .slice (.int .i64)), (false, .slice (.pair (.int .i64) (.pair (.int .i64) (.slice (.int .u8))))), (false, .slice (.int .i64))]), (false, [(false, .int .i64)]), (false, [(false, .int .i64)])], f := fun | [⟨.slice (.int .i64), x0⟩, ⟨.slice (.pair (.int .i64) (.pair (.int .i64) (.slice (.int .u8)))), x1⟩, ⟨.slice (.int .i64), x2⟩, ⟨.int .i64, x3⟩, ⟨.slice (.int .u8), x4⟩] => .yes _ (box_Send x0 x1 x2 x3 x4) box_Send_mk | _ => .no }
theorem box_Send_ok : SigOk Try.prog 17 box_Send_sig := by
  refine contract_of (C := box_Send_C) (d := 3) ⟨S15_ok, noPs⟩ (callable_ex (by kernel_rfl)) ?_
  intro dvs
  unfold box_Send_sig
  dsimp only
  split
  · refine .inr ⟨_, box_Send_un, box_Send_mk, congrArg (fun o => Cl.yes _ o _) (box_Send_raw _ _ _ _ _), ?_⟩
    intro ds x h
    unfold box_Send_un at h
    split at h
    · cases h; rfl
    · cases h
  · exact .inl rfl
noncomputable def S16 : List (Nat × Sig) := (17, box_Send_sig) :: S15
theorem S16_ok : ListOk Try.prog S16 := ListOk.cons S15_ok box_Send_ok
noncomputable def box_Pending_C : Cfg := { P := Try.prog, sig := lookSig S16, hb := fun f b => bif Nat.beq f 25 && Nat.beq b 0 then some { tmps := [1, 2, 7, 11, 12, 13], obs := [60], nils := [(7, 60, (.pair (.int .i64) (.pair (.int .i64) (.slice (.int .u8)))))], kl := [124, 396, 388, 372, 172, 60] } else none, hr := fun _ _ => none }
noncomputable def box_Pending_un : List DV → Option ((List (Int × Int × (List Int)))) := fun | [⟨.slice (.pair (.int .i64) (.pair (.int .i64) (.slice (.int .u8)))), r0⟩] => some r0 | _ => none
noncomputable def box_Pending_mk : (List (Int × Int × (List Int))) → List DV := fun r0 => [⟨.slice (.pair (.int .i64) (.pair (.int .i64) (.slice (.int .u8)))), r0⟩]
theorem box_Pending_ex : ∃ f : (List Int) → (List (Int × Int × (List Int))) → (List Int) → (Int) → (Int) → Option ((List (Int × Int × (List Int)))), f = fun (x0 : List Int) (x1 : List (Int × Int × (List Int))) (x2 : List Int) (x3 : Int) (x4 : Int) => funRun box_Pending_C 3 25 [(true, [(false, .slice (.int .i64)), (false, .slice (.pair (.int .i64) (.pair (.int .i64) (.slice (.int .u8))))), (false, .slice (.int .i64))]), (false, [(false, .int .i64)]), (false, [(false, .int .i64)])] [(false, [(false, .slice (.pair (.int .i64) (.pair (.int .i64) (.slice (.int .u8)))))])] box_Pending_un [⟨.slice (.int .i64), x0⟩, ⟨.slice (.pair (.int .i64) (.pair (.int .i64) (.slice (.int .u8)))), x1⟩, ⟨.slice (.int .i64), x2⟩, ⟨.int .i64, x3⟩, ⟨.int .i64, x4⟩] := ⟨_, rfl⟩
noncomputable def box_Pending : (List Int) → (List (Int × Int × (List Int))) → (List Int) → (Int) → (Int) → Option ((List (Int × Int × (List Int)))) := box_Pending_ex.choose
theorem box_Pending_raw (x0 : List Int) (x1 : List (Int × Int × (List Int))) (x2 : List Int) (x3 : Int) (x4 : Int) : box_Pending x0 x1 x2 x3 x4 = funRun box_Pending_C 3 25 [(true, [(false, .slice (.int .i64)), (false, .slice (.pair (.int .i64) (.pair (.int .i64) (.slice (.int .u8))))), (false, .slice (.int .i64))]), (false, [(false, .int .i64)]), (false, [(false, .int .i64)])] [(false, [(false, .slice (.pair (.int .i64) (.pair (.int .i64) (.slice (.int .u8)))))])] box_Pending_un [⟨.slice (.int .i64), x0⟩, ⟨.slice (.pair (.int .i64) (.pair (.int .i64) (.slice (.int .u8)))), x1⟩, ⟨.slice (.int .i64), x2⟩, ⟨.int .i64, x3⟩, ⟨.int .i64, x4⟩] := congrFun (congrFun (congrFun (congrFun (congrFun (box_Pending_ex.choose_spec) x0) x1) x2) x3) x4
noncomputable def box_Pending_l0 (y0 : Int) (y1 : Int) (y2 : List ((Int) × ((Int) × (List (Int))))) (y3 : Int) (y4 : Int) (y5 : List ((Int) × ((Int) × (List (Int))))) : Option ((List (Int × Int × (List Int)))) := loopAt box_Pending_C 3 25 [(false, [(false, .slice (.pair (.int .i64) (.pair (.int .i64) (.slice (.int .u8)))))])] box_Pending_un [true, true, false, true, false] (St.ofLists [(1, .int .i64 y0), (2, .int .i64 y1), (7, .ow 60), (11, .fz ((Ty.int IntKind.i64).pair ((Ty.int IntKind.i64).pair (Ty.int IntKind.u8).slice)) y2 false false), (12, .int .i64 y3), (13, .int .i64 y4)] [(60, some (.row ((Ty.int IntKind.i64).pair ((Ty.int IntKind.i64).pair (Ty.int IntKind.u8).slice)) y5 0 false))] [124, 396, 388, 372, 172, 60])
theorem box_Pending_eq (x0 : List Int) (x1 : List (Int × Int × (List Int))) (x2 : List Int) (x3 : Int) (x4 : Int) : box_Pending x0 x1 x2 x3 x4 =
  box_Pending_l0 (x3) (x4) (x1) (ilen x1) (0) ([]) := (box_Pending_raw x0 x1 x2 x3 x4).trans (by kernel_rfl)
theorem box_Pending_l0_eq (y0 : Int) (y1 : Int) (y2 : List ((Int) × ((Int) × (List (Int))))) (y3 : Int) (y4 : Int) (y5 : List ((Int) × ((Int) × (List (Int))))) : box_Pending_l0 y0 y1 y2 y3 y4 y5 =
  bif decide (y4 < y3)
  then bif decide (0 ≤ y4)
    then (y2[y4.toNat]?).bind fun val4 =>
      bif val4.fst == y0
        then bif decide (ilen y5 < y1)
          then (box_CloneB val4.snd.snd).bind fun val10 =>
            bif decide ((ilen y5 + ilen [(val4.fst, val4.snd.fst, val10)]) * 40 ≤ room)
              then box_Pending_l0 (y0) (y1) (y2) (y3) (IntKind.i64.wrap (y4 + 1)) (y5 ++ [(val4.fst, val4.snd.fst, val10)])
              else none
          else box_Pending_l0 (y0) (y1) (y2) (y3) (IntKind.i64.wrap (y4 + 1)) (y5)
        else box_Pending_l0 (y0) (y1) (y2) (y3) (IntKind.i64.wrap (y4 + 1)) (y5)
    else none
  else some (y5) := (loopAt_step _ _ _ _ _ _ _).trans (by kernel_rfl)
noncomputable def box_Pending_sig : Sig := { pm := [(true, [(false, .slice (.int .i64)), (false, .slice (.pair (.int .i64) (.pair (.int .i64) (.slice (.int .u8))))), (false, .slice (.int .i64))]), (false, [(false, .int .i64)]), (false, [(false, .int .i64)])], rm := [(false, [(false, .slice (.pair (.int .i64) (.pair (.int .i64) (.slice (.int .u8)))))])], f := fun | [⟨.slice (.int .i64), x0⟩, ⟨.slice (.pair (.int .i64) (.pair (.int .i64) (.slice (.int .u8)))), x1⟩, ⟨.slice (.int .i64), x2⟩, ⟨.int .i64, x3⟩, ⟨.int .i64, x4⟩] => .yes _ (box_Pending x0 x1 x2 x3 x4) box_Pending_mk | _ => .no }
theorem box_Pending_ok : SigOk Try.prog 25 box_Pending_sig := by
  refine contract_of (C := box_Pending_C) (d := 3) ⟨S16_ok, noPs⟩ (callable_ex (by kernel_rfl)) ?_
  intro dvs
  unfold box_Pending_sig
  dsimp only
  split
  · refine .inr ⟨_, box_Pending_un, box_Pending_mk, congrArg (fun o => Cl.yes _ o _) (box_Pending_raw _ _ _ _ _), ?_⟩
    intro ds x h
    unfold box_Pending_un at h
    split at h
    · cases h; rfl
    · cases h
  · exact .inl rfl
noncomputable def S17 : List (Nat × Sig) := (25, box_Pending_sig) :: S16
theorem S17_ok : ListOk Try.prog S17 := ListOk.cons S16_ok box_Pending_ok
noncomputable def box_Take_C : Cfg := { P := Try.prog, sig := lookSig S17, hb := fun _ _ => none, hr := fun _ _ => none }
noncomputable def box_Take_un : List DV → Option ((List Int) × (List (Int × Int × (List Int))) × (List Int) × Bool × Int) := fun | [⟨.slice (.int .i64), r0⟩, ⟨.slice (.pair (.int .i64) (.pair (.int .i64) (.slice (.int .u8)))), r1⟩, ⟨.slice (.int .i64), r2⟩, ⟨.bool, r3⟩, ⟨.int .i64, r4⟩] => some (r0, r1, r2, r3, r4) | _ => none
noncomputable def box_Take_mk : ((List Int) × (List (Int × Int × (List Int))) × (List Int) × Bool × Int) → List DV := fun ⟨r0, r1, r2, r3, r4⟩ => [⟨.slice (.int .i64), r0⟩, ⟨.slice (.pair (.int .i64) (.pair (.int .i64) (.slice (.int .u8)))), r1⟩, ⟨.slice (.int .i64), r2⟩, ⟨.bool, r3⟩, ⟨.int .i64, r4⟩]
theorem box_Take_ex : ∃ f : (List Int) → (List (Int × Int × (List Int))) → (List Int) → (Int) → (Int) → Option ((List Int) × (List (Int × Int × (List Int))) × (List Int) × Bool × Int), f = fun (x0 : List Int) (x1 : List (Int × Int × (List Int))) (x2 : List Int) (x3 : Int) (x4 : Int) => funRun box_Take_C 3 20 [(true, [(false, .slice (.int .i64)), (false, .slice (.pair (.int .i64) (.pair (.int .i64) (.slice (.int .u8))))), (false, .slice (.int .i64))]), (false, [(false, .int .i64)]), (false, [(false, .int .i64)])] [(true, [(false, .slice (.int .i64)), (false, .slice (.pair (.int .i64) (.pair (.int .i64) (.slice (.int .u8))))), (false, .slice (.int .i64))]), (false, [(false, .bool)]), (false, [(false, .int .i64)])] box_Take_un [⟨.slice (.int .i64), x0⟩, ⟨.slice (.pair (.int .i64) (.pair (.int .i64) (.slice (.int .u8)))), x1⟩, ⟨.slice (.int .i64), x2⟩, ⟨.int .i64, x3⟩, ⟨.int .i64, x4⟩] := ⟨_, rfl⟩
noncomputable def box_Take : (List Int) → (List (Int × Int × (List Int))) → (List Int) → (Int) → (Int) → Option ((List Int) × (List (Int × Int × (List Int))) × (List Int) × Bool × Int) := box_Take_ex.choose
theorem box_Take_raw (x0 : List Int) (x1 : List (Int × Int × (List Int))) (x2 : List Int) (x3 : Int) (x4 : Int) : box_Take x0 x1 x2 x3 x4 = funRun box_Take_C 3 20 [(true, [(false, .slice (.int .i64)), (false, .slice (.pair (.int .i64) (.pair (.int .i64) (.slice (.int .u8))))), (false, .slice (.int .i64))]), (false, [(false, .int .i64)]), (false, [(false, .int .i64)])] [(true, [(false, .slice (.int .i64)), (false, .slice (.pair (.int .i64) (.pair (.int .i64) (.slice (.int .u8))))), (false, .slice (.int .i64))]), (false, [(false, .bool)]), (false, [(false, .int .i64)])] box_Take_un [⟨.slice (.int .i64), x0⟩, ⟨.slice (.pair (.int .i64) (.pair (.int .i64) (.slice (.int .u8)))), x1⟩, ⟨.slice (.int .i64), x2⟩, ⟨.int .i64, x3⟩, ⟨.int .i64, x4⟩] := congrFun (congrFun (congrFun (congrFun (congrFun (box_Take_ex.choose_spec) x0) x1) x2) x3) x4
theorem box_Take_eq (x0 : List Int) (x1 : List (Int × Int × (List Int))) (x2 : List Int) (x3 : Int) (x4 : Int) : box_Take x0 x1 x2 x3 x4 =
  bif decide (x3 < 0)
  then some (([]), (([]), (([]), (false, (9)))))
  else bif decide (x3 ≥ ilen x2)
    then some (([]), (([]), (([]), (false, (9)))))
    else bif decide (x4 < 1)
      then some (([]), (([]), (([]), (false, (2)))))
      else bif decide (x4 > 1099511627776)
        then some (([]), (([]), (([]), (false, (2)))))
        else bif decide (0 ≤ x3)
          then (x2[x3.toNat]?).bind fun val10 =>
            bif decide (x4 > IntKind.i64.wrap (val10 + 1))
              then some (([]), (([]), (([]), (false, (11)))))
              else (box_Copy x0 x1 x2).bind fun val14 =>
                bif decide (0 ≤ x3)
                  then (x2[x3.toNat]?).bind fun val18 =>
                    bif decide (x4 ≤ val18)
                      then some ((val14.1), ((val14.2.1), ((val14.2.2), (false, (0)))))
                      else bif decide (0 ≤ x3)
                        then bif decide (x3 < ilen val14.2.2)
                          then (val14.2.2[x3.toNat]?).bind fun val26 =>
                            some ((val14.1), ((val14.2.1), ((val14.2.2.set x3.toNat x4), (true, (0)))))
                          else none
                        else none
                  else none
          else none := (box_Take_raw x0 x1 x2 x3 x4).trans (by kernel_rfl)
noncomputable def box_Take_sig : Sig := { pm := [(true, [(false, .slice (.int .i64)), (false, .slice (.pair (.int .i64) (.pair (.int .i64) (.slice (.int .u8))))), (false, .slice (.int .i64))]), (false, [(false, .int .i64)]), (false, [(false, .int .i64)])], rm := [(true, [(false, .slice (.int .i64)), (false, .slice (.pair (.int .i64) (.pair (.int .i64) (.slice (.int .u8))))), (false, .slice (.int .i64))]), (false, [(false, .bool)]), (false, [(false, .int .i64)])], f := fun | [⟨.slice (.int .i64), x0⟩, ⟨.slice (.pair (.int .i64) (.pair (.int .i64) (.slice (.int .u8)))), x1⟩, ⟨.slice (.int .i64), x2⟩, ⟨.int .i64, x3⟩, ⟨.int .i64, x4⟩] => .yes _ (box_Take x0 x1 x2 x3 x4) box_Take_mk | _ => .no }
theorem box_Take_ok : SigOk Try.prog 20 box_Take_sig := by
  refine contract_of (C := box_Take_C) (d := 3) ⟨S17_ok, noPs⟩ (callable_ex (by kernel_rfl)) ?_
  intro dvs
  unfold box_Take_sig
  dsimp only
  split
  · refine .inr ⟨_, box_Take_un, box_Take_mk, congrArg (fun o => Cl.yes _ o _) (box_Take_raw _ _ _ _ _), ?_⟩
    intro ds x h
    unfold box_Take_un at h
    split at h
    · cases h; rfl
    · cases h
  · exact .inl rfl
noncomputable def S18 : List (Nat × Sig) := (20, box_Take_sig) :: S17
theorem S18_ok : ListOk Try.prog S18 := ListOk.cons S17_ok box_Take_ok
noncomputable def box_IndexFuncO_C : Cfg := { P := Try.prog, sig := lookSig S18, hb := fun f b => bif Nat.beq f 54 && Nat.beq b 0 then some { tmps := [0, 1, 7, 8], obs := [], nils := [], kl := [] } else none, hr := fun _ _ => none }
noncomputable def box_IndexFuncO_un : List DV → Option (Int) := fun | [⟨.int .i64, r0⟩] => some r0 | _ => none
noncomputable def box_IndexFuncO_mk : Int → List DV := fun r0 => [⟨.int .i64, r0⟩]
theorem box_IndexFuncO_ex : ∃ f : (List (Int × Int × (List Int))) → (Int × Int) → Option (Int), f = fun (x0 : List (Int × Int × (List Int))) (x1 : Int × Int) => funRun box_IndexFuncO_C 3 54 [(false, [(false, .slice (.pair (.int .i64) (.pair (.int .i64) (.slice (.int .u8)))))]), (false, [(false, .fn 44 (.pair (.ref (.int .i64)) (.ref (.int .i64))))])] [(false, [(false, .int .i64)])] box_IndexFuncO_un [⟨.slice (.pair (.int .i64) (.pair (.int .i64) (.slice (.int .u8)))), x0⟩, ⟨.fn 44 (.pair (.ref (.int .i64)) (.ref (.int .i64))), x1⟩] := ⟨_, rfl⟩
noncomputable def box_IndexFuncO : (List (Int × Int × (List Int))) → (Int × Int) → Option (Int) := box_IndexFuncO_ex.choose
theorem box_IndexFuncO_raw (x0 : List (Int × Int × (List Int))) (x1 : Int × Int) : box_IndexFuncO x0 x1 = funRun box_IndexFuncO_C 3 54 [(false, [(false, .slice (.pair (.int .i64) (.pair (.int .i64) (.slice (.int .u8)))))]), (false, [(false, .fn 44 (.pair (.ref (.int .i64)) (.ref (.int .i64))))])] [(false, [(false, .int .i64)])] box_IndexFuncO_un [⟨.slice (.pair (.int .i64) (.pair (.int .i64) (.slice (.int .u8)))), x0⟩, ⟨.fn 44 (.pair (.ref (.int .i64)) (.ref (.int .i64))), x1⟩] := congrFun (congrFun (box_IndexFuncO_ex.choose_spec) x0) x1
noncomputable def box_IndexFuncO_l0 (y0 : List ((Int) × ((Int) × (List (Int))))) (y1 : (Int)) (y2 : (Int)) (y3 : Int) (y4 : Int) : Option (Int) := loopAt box_IndexFuncO_C 3 54 [(false, [(false, .int .i64)])] box_IndexFuncO_un [true, false, true, false] (St.ofLists [(0, .fz ((Ty.int IntKind.i64).pair ((Ty.int IntKind.i64).pair (Ty.int IntKind.u8).slice)) y0 false false), (1, .func 44 [.fptr (Ty.int IntKind.i64) y1 0, .fptr (Ty.int IntKind.i64) y2 0]), (7, .int .i64 y3), (8, .int .i64 y4)] [] [])
theorem box_IndexFuncO_eq (x0 : List (Int × Int × (List Int))) (x1 : Int × Int) : box_IndexFuncO x0 x1 =
  box_IndexFuncO_l0 (x0) (x1.fst) (x1.snd) (ilen x0) (0) := (box_IndexFuncO_raw x0 x1).trans (by kernel_rfl)
theorem box_IndexFuncO_l0_eq (y0 : List ((Int) × ((Int) × (List (Int))))) (y1 : (Int)) (y2 : (Int)) (y3 : Int) (y4 : Int) : box_IndexFuncO_l0 y0 y1 y2 y3 y4 =
  bif decide (y4 < y3)
  then bif decide (0 ≤ y4)
    then (y0[y4.toNat]?).bind fun val4 =>
      bif val4.fst == y1
        then bif decide (val4.snd.fst ≤ y2)
          then some (y4)
          else box_IndexFuncO_l0 (y0) (y1) (y2) (y3) (IntKind.i64.wrap (y4 + 1))
        else box_IndexFuncO_l0 (y0) (y1) (y2) (y3) (IntKind.i64.wrap (y4 + 1))
    else none
  else some (-1) := (loopAt_step _ _ _ _ _ _ _).trans (by kernel_rfl)
noncomputable def box_IndexFuncO_sig : Sig := { pm := [(false, [(false, .slice (.pair (.int .i64) (.pair (.int .i64) (.slice (.int .u8)))))]), (false, [(false, .fn 44 (.pair (.ref (.int .i64)) (.ref (.int .i64))))])], rm := [(false, [(false, .int .i64)])], f := fun | [⟨.slice (.pair (.int .i64) (.pair (.int .i64) (.slice (.int .u8)))), x0⟩, ⟨.fn 44 (.pair (.ref (.int .i64)) (.ref (.int .i64))), x1⟩] => .yes _ (box_IndexFuncO x0 x1) box_IndexFuncO_mk | _ => .no }
theorem box_IndexFuncO_ok : SigOk Try.prog 54 box_IndexFuncO_sig := by
  refine contract_of (C := box_IndexFuncO_C) (d := 3) ⟨S18_ok, noPs⟩ (callable_ex (by kernel_rfl)) ?_
  intro dvs
  unfold box_IndexFuncO_sig
  dsimp only
  split
  · refine .inr ⟨_, box_IndexFuncO_un, box_IndexFuncO_mk, congrArg (fun o => Cl.yes _ o _) (box_IndexFuncO_raw _ _), ?_⟩
    intro ds x h
    unfold box_IndexFuncO_un at h
    split at h
    · cases h; rfl
    · cases h
  · exact .inl rfl
noncomputable def S19 : List (Nat × Sig) := (54, box_IndexFuncO_sig) :: S18
theorem S19_ok : ListOk Try.prog S19 := ListOk.cons S18_ok box_IndexFuncO_ok
noncomputable def box_DeleteFunc_C : Cfg := { P := Try.prog, sig := lookSig S19, hb := fun f b => bif Nat.beq f 43 && Nat.beq b 0 then some { tmps := [0, 1, 5, 6], obs := [0], nils := [], kl := [156] } else none, hr := fun _ _ => none }
noncomputable def box_DeleteFunc_un : List DV → Option ((List (Int × Int × (List Int)))) := fun | [⟨.slice (.pair (.int .i64) (.pair (.int .i64) (.slice (.int .u8)))), r0⟩] => some r0 | _ => none
noncomputable def box_DeleteFunc_mk : (List (Int × Int × (List Int))) → List DV := fun r0 => [⟨.slice (.pair (.int .i64) (.pair (.int .i64) (.slice (.int .u8)))), r0⟩]
theorem box_DeleteFunc_ex : ∃ f : (List (Int × Int × (List Int))) → (Int × Int) → Option ((List (Int × Int × (List Int)))), f = fun (x0 : List (Int × Int × (List Int))) (x1 : Int × Int) => funRun box_DeleteFunc_C 3 43 [(false, [(true, .slice (.pair (.int .i64) (.pair (.int .i64) (.slice (.int .u8)))))]), (false, [(false, .fn 44 (.pair (.ref (.int .i64)) (.ref (.int .i64))))])] [(false, [(true, .slice (.pair (.int .i64) (.pair (.int .i64) (.slice (.int .u8)))))])] box_DeleteFunc_un [⟨.slice (.pair (.int .i64) (.pair (.int .i64) (.slice (.int .u8)))), x0⟩, ⟨.fn 44 (.pair (.ref (.int .i64)) (.ref (.int .i64))), x1⟩] := ⟨_, rfl⟩
noncomputable def box_DeleteFunc : (List (Int × Int × (List Int))) → (Int × Int) → Option ((List (Int × Int × (List Int)))) := box_DeleteFunc_ex.choose
theorem box_DeleteFunc_raw (x0 : List (Int × Int × (List Int))) (x1 : Int × Int) : box_DeleteFunc x0 x1 = funRun box_DeleteFunc_C 3 43 [(false, [(true, .slice (.pair (.int .i64) (.pair (.int .i64) (.slice (.int .u8)))))]), (false, [(false, .fn 44 (.pair (.ref (.int .i64)) (.ref (.int .i64))))])] [(false, [(true, .slice (.pair (.int .i64) (.pair (.int .i64) (.slice (.int .u8)))))])] box_DeleteFunc_un [⟨.slice (.pair (.int .i64) (.pair (.int .i64) (.slice (.int .u8)))), x0⟩, ⟨.fn 44 (.pair (.ref (.int .i64)) (.ref (.int .i64))), x1⟩] := congrFun (congrFun (box_DeleteFunc_ex.choose_spec) x0) x1
noncomputable def box_DeleteFunc_l0 (y0 : (Int)) (y1 : (Int)) (y2 : Int) (y3 : Int) (y4 : List ((Int) × ((Int) × (List (Int))))) : Option ((List (Int × Int × (List Int)))) := loopAt box_DeleteFunc_C 3 43 [(false, [(true, .slice (.pair (.int .i64) (.pair (.int .i64) (.slice (.int .u8)))))])] box_DeleteFunc_un [true, true, true, false, true, false] (St.ofLists [(0, .ow 0), (1, .func 44 [.fptr (Ty.int IntKind.i64) y0 0, .fptr (Ty.int IntKind.i64) y1 0]), (5, .int .i64 y2), (6, .int .i64 y3)] [(0, some (.row ((Ty.int IntKind.i64).pair ((Ty.int IntKind.i64).pair (Ty.int IntKind.u8).slice)) y4 0 false))] [156])
theorem box_DeleteFunc_eq (x0 : List (Int × Int × (List Int))) (x1 : Int × Int) : box_DeleteFunc x0 x1 =
  (box_IndexFuncO x0 x1).bind fun val0 =>
  bif val0 == -1
    then some (x0)
    else box_DeleteFunc_l0 (x1.fst) (x1.snd) (val0) (IntKind.i64.wrap (val0 + 1)) (x0) := (box_DeleteFunc_raw x0 x1).trans (by kernel_rfl)
theorem box_DeleteFunc_l0_eq (y0 : (Int)) (y1 : (Int)) (y2 : Int) (y3 : Int) (y4 : List ((Int) × ((Int) × (List (Int))))) : box_DeleteFunc_l0 y0 y1 y2 y3 y4 =
  bif decide (y3 < ilen y4)
  then bif decide (0 ≤ y3)
    then bif decide (y3 < ilen y4)
      then (y4[y3.toNat]?).bind fun val6 =>
        bif val6.fst == y0
          then bif !decide (val6.snd.fst ≤ y1)
            then bif decide (0 ≤ y2)
              then bif decide (y2 < ilen y4)
                then (y4[y2.toNat]?).bind fun val16 =>
                  box_DeleteFunc_l0 (y0) (y1) (IntKind.i64.wrap (y2 + 1)) (IntKind.i64.wrap (y3 + 1)) (y4.set y2.toNat val6)
                else none
              else none
            else box_DeleteFunc_l0 (y0) (y1) (y2) (IntKind.i64.wrap (y3 + 1)) (y4)
          else bif decide (0 ≤ y2)
            then bif decide (y2 < ilen y4)
              then (y4[y2.toNat]?).bind fun val14 =>
                box_DeleteFunc_l0 (y0) (y1) (IntKind.i64.wrap (y2 + 1)) (IntKind.i64.wrap (y3 + 1)) (y4.set y2.toNat val6)
              else none
            else none
      else none
    else none
  else bif decide (0 ≤ y2)
    then bif decide (y2 ≤ ilen y4)
      then bif decide (ilen y4 ≤ ilen y4)
        then bif (y2.toNat + ((ilen y4).toNat - y2.toNat)).ble (max 0 y4.length)
          then bif decide (0 ≤ y2)
            then bif decide (y2 ≤ ilen (List.take y2.toNat y4 ++ List.replicate (min ((ilen y4).toNat - y2.toNat) (y4.length - y2.toNat)) (zeroOf ((Ty.int IntKind.i64).pair ((Ty.int IntKind.i64).pair (Ty.int IntKind.u8).slice))) ++ List.drop (y2.toNat + ((ilen y4).toNat - y2.toNat)) y4))
              then bif (y2.toNat - Int.toNat 0).ble (List.take y2.toNat y4 ++ List.replicate (min ((ilen y4).toNat - y2.toNat) (y4.length - y2.toNat)) (zeroOf ((Ty.int IntKind.i64).pair ((Ty.int IntKind.i64).pair (Ty.int IntKind.u8).slice))) ++ List.drop (y2.toNat + ((ilen y4).toNat - y2.toNat)) y4).length
                then some (List.take (y2.toNat - Int.toNat 0) (List.take y2.toNat y4 ++ List.replicate (min ((ilen y4).toNat - y2.toNat) (y4.length - y2.toNat)) (zeroOf ((Ty.int IntKind.i64).pair ((Ty.int IntKind.i64).pair (Ty.int IntKind.u8).slice))) ++ List.drop (y2.toNat + ((ilen y4).toNat - y2.toNat)) y4))
                else none
              else bif decide (y2 ≤ ↑0)
                then bif (y2.toNat - Int.toNat 0).ble (List.take y2.toNat y4 ++ List.replicate (min ((ilen y4).toNat - y2.toNat) (y4.length - y2.toNat)) (zeroOf ((Ty.int IntKind.i64).pair ((Ty.int IntKind.i64).pair (Ty.int IntKind.u8).slice))) ++ List.drop (y2.toNat + ((ilen y4).toNat - y2.toNat)) y4).length
                  then some (List.take (y2.toNat - Int.toNat 0) (List.take y2.toNat y4 ++ List.replicate (min ((ilen y4).toNat - y2.toNat) (y4.length - y2.toNat)) (zeroOf ((Ty.int IntKind.i64).pair ((Ty.int IntKind.i64).pair (Ty.int IntKind.u8).slice))) ++ List.drop (y2.toNat + ((ilen y4).toNat - y2.toNat)) y4))
                  else none
                else none
            else none
          else none
        else bif decide (ilen y4 ≤ ↑0)
          then bif (y2.toNat + ((ilen y4).toNat - y2.toNat)).ble (max 0 y4.length)
            then bif decide (0 ≤ y2)
              then bif decide (y2 ≤ ilen (List.take y2.toNat y4 ++ List.replicate (min ((ilen y4).toNat - y2.toNat) (y4.length - y2.toNat)) (zeroOf ((Ty.int IntKind.i64).pair ((Ty.int IntKind.i64).pair (Ty.int IntKind.u8).slice))) ++ List.drop (y2.toNat + ((ilen y4).toNat - y2.toNat)) y4))
                then bif (y2.toNat - Int.toNat 0).ble (List.take y2.toNat y4 ++ List.replicate (min ((ilen y4).toNat - y2.toNat) (y4.length - y2.toNat)) (zeroOf ((Ty.int IntKind.i64).pair ((Ty.int IntKind.i64).pair (Ty.int IntKind.u8).slice))) ++ List.drop (y2.toNat + ((ilen y4).toNat - y2.toNat)) y4).length
                  then some (List.take (y2.toNat - Int.toNat 0) (List.take y2.toNat y4 ++ List.replicate (min ((ilen y4).toNat - y2.toNat) (y4.length - y2.toNat)) (zeroOf ((Ty.int IntKind.i64).pair ((Ty.int IntKind.i64).pair (Ty.int IntKind.u8).slice))) ++ List.drop (y2.toNat + ((ilen y4).toNat - y2.toNat)) y4))
                  else none
                else bif decide (y2 ≤ ↑0)
                  then bif (y2.toNat - Int.toNat 0).ble (List.take y2.toNat y4 ++ List.replicate (min ((ilen y4).toNat - y2.toNat) (y4.length - y2.toNat)) (zeroOf ((Ty.int IntKind.i64).pair ((Ty.int IntKind.i64).pair (Ty.int IntKind.u8).slice))) ++ List.drop (y2.toNat + ((ilen y4).toNat - y2.toNat)) y4).length
                    then some (List.take (y2.toNat - Int.toNat 0) (List.take y2.toNat y4 ++ List.replicate (min ((ilen y4).toNat - y2.toNat) (y4.length - y2.toNat)) (zeroOf ((Ty.int IntKind.i64).pair ((Ty.int IntKind.i64).pair (Ty.int IntKind.u8).slice))) ++ List.drop (y2.toNat + ((ilen y4).toNat - y2.toNat)) y4))
                    else none
                  else none
              else none
            else none
          else none
      else none
    else none := (loopAt_step _ _ _ _ _ _ _).trans (by kernel_rfl)
noncomputable def box_DeleteFunc_sig : Sig := { pm := [(false, [(true, .slice (.pair (.int .i64) (.pair (.int .i64) (.slice (.int .u8)))))]), (false, [(false, .fn 44 (.pair (.ref (.int .i64)) (.ref (.int .i64))))])], rm := [(false, [(true, .slice (.pair (.int .i64) (.pair (.int .i64) (.slice (.int .u8)))))])], f := fun | [⟨.slice (.pair (.int .i64) (.pair (.int .i64) (.slice (.int .u8)))), x0⟩, ⟨.fn 44 (.pair (.ref (.int .i64)) (.ref (.int .i64))), x1⟩] => .yes _ (box_DeleteFunc x0 x1) box_DeleteFunc_mk | _ => .no }
theorem box_DeleteFunc_ok : SigOk Try.prog 43 box_DeleteFunc_sig := by
  refine contract_of (C := box_DeleteFunc_C) (d := 3) ⟨S19_ok, noPs⟩ (callable_ex (by kernel_rfl)) ?_
  intro dvs
  unfold box_DeleteFunc_sig
  dsimp only
  split
  · refine .inr ⟨_, box_DeleteFunc_un, box_DeleteFunc_mk, congrArg (fun o => Cl.yes _ o _) (box_DeleteFunc_raw _ _), ?_⟩
    intro ds x h
    unfold box_DeleteFunc_un at h
    split at h
    · cases h; rfl
    · cases h
  · exact .inl rfl
noncomputable def S20 : List (Nat × Sig) := (43, box_DeleteFunc_sig) :: S19
theorem S20_ok : ListOk Try.prog S20 := ListOk.cons S19_ok box_DeleteFunc_ok
noncomputable def box_Ack_C : Cfg := { P := Try.prog, sig := lookSig S20, hb := fun _ _ => none, hr := fun _ _ => none }
noncomputable def box_Ack_un : List DV → Option ((List Int) × (List (Int × Int × (List Int))) × (List Int) × Int) := fun | [⟨.slice (.int .i64), r0⟩, ⟨.slice (.pair (.int .i64) (.pair (.int .i64) (.slice (.int .u8)))), r1⟩, ⟨.slice (.int .i64), r2⟩, ⟨.int .i64, r3⟩] => some (r0, r1, r2, r3) | _ => none
noncomputable def box_Ack_mk : ((List Int) × (List (Int × Int × (List Int))) × (List Int) × Int) → List DV := fun ⟨r0, r1, r2, r3⟩ => [⟨.slice (.int .i64), r0⟩, ⟨.slice (.pair (.int .i64) (.pair (.int .i64) (.slice (.int .u8)))), r1⟩, ⟨.slice (.int .i64), r2⟩, ⟨.int .i64, r3⟩]
theorem box_Ack_ex : ∃ f : (List Int) → (List (Int × Int × (List Int))) → (List Int) → (Int) → (Int) → Option ((List Int) × (List (Int × Int × (List Int))) × (List Int) × Int), f = fun (x0 : List Int) (x1 : List (Int × Int × (List Int))) (x2 : List Int) (x3 : Int) (x4 : Int) => funRun box_Ack_C 3 22 [(true, [(false, .slice (.int .i64)), (false, .slice (.pair (.int .i64) (.pair (.int .i64) (.slice (.int .u8))))), (false, .slice (.int .i64))]), (false, [(false, .int .i64)]), (false, [(false, .int .i64)])] [(true, [(false, .slice (.int .i64)), (false, .slice (.pair (.int .i64) (.pair (.int .i64) (.slice (.int .u8))))), (false, .slice (.int .i64))]), (false, [(false, .int .i64)])] box_Ack_un [⟨.slice (.int .i64), x0⟩, ⟨.slice (.pair (.int .i64) (.pair (.int .i64) (.slice (.int .u8)))), x1⟩, ⟨.slice (.int .i64), x2⟩, ⟨.int .i64, x3⟩, ⟨.int .i64, x4⟩] := ⟨_, rfl⟩
noncomputable def box_Ack : (List Int) → (List (Int × Int × (List Int))) → (List Int) → (Int) → (Int) → Option ((List Int) × (List (Int × Int × (List Int))) × (List Int) × Int) := box_Ack_ex.choose
theorem box_Ack_raw (x0 : List Int) (x1 : List (Int × Int × (List Int))) (x2 : List Int) (x3 : Int) (x4 : Int) : box_Ack x0 x1 x2 x3 x4 = funRun box_Ack_C 3 22 [(true, [(false, .slice (.int .i64)), (false, .slice (.pair (.int .i64) (.pair (.int .i64) (.slice (.int .u8))))), (false, .slice (.int .i64))]), (false, [(false, .int .i64)]), (false, [(false, .int .i64)])] [(true, [(false, .slice (.int .i64)), (false, .slice (.pair (.int .i64) (.pair (.int .i64) (.slice (.int .u8))))), (false, .slice (.int .i64))]), (false, [(false, .int .i64)])] box_Ack_un [⟨.slice (.int .i64), x0⟩, ⟨.slice (.pair (.int .i64) (.pair (.int .i64) (.slice (.int .u8)))), x1⟩, ⟨.slice (.int .i64), x2⟩, ⟨.int .i64, x3⟩, ⟨.int .i64, x4⟩] := congrFun (congrFun (congrFun (congrFun (congrFun (box_Ack_ex.choose_spec) x0) x1) x2) x3) x4
theorem box_Ack_eq (x0 : List Int) (x1 : List (Int × Int × (List Int))) (x2 : List Int) (x3 : Int) (x4 : Int) : box_Ack x0 x1 x2 x3 x4 =
  bif decide (x3 < 0)
  then some (([]), (([]), (([]), (9))))
  else bif decide (x3 ≥ ilen x0)
    then some (([]), (([]), (([]), (9))))
    else bif decide (x4 < 0)
      then some (([]), (([]), (([]), (2))))
      else bif decide (0 ≤ x3)
        then (x0[x3.toNat]?).bind fun val8 =>
          bif decide (x4 > val8)
            then some (([]), (([]), (([]), (2))))
            else (box_Copy x0 x1 x2).bind fun val12 =>
              (box_DeleteFunc val12.2.1 (x3, x4)).bind fun val14 =>
                some ((val12.1), ((val14), ((val12.2.2), (0))))
        else none := (box_Ack_raw x0 x1 x2 x3 x4).trans (by kernel_rfl)
noncomputable def box_Ack_sig : Sig := { pm := [(true, [(false, .slice (.int .i64)), (false, .slice (.pair (.int .i64) (.pair (.int .i64) (.slice (.int .u8))))), (false, .slice (.int .i64))]), (false, [(false, .int .i64)]), (false, [(false, .int .i64)])], rm := [(true, [(false, .slice (.int .i64)), (false, .slice (.pair (.int .i64) (.pair (.int .i64) (.slice (.int .u8))))), (false, .slice (.int .i64))]), (false, [(false, .int .i64)])], f := fun | [⟨.slice (.int .i64), x0⟩, ⟨.slice (.pair (.int .i64) (.pair (.int .i64) (.slice (.int .u8)))), x1⟩, ⟨.slice (.int .i64), x2⟩, ⟨.int .i64, x3⟩, ⟨.int .i64, x4⟩] => .yes _ (box_Ack x0 x1 x2 x3 x4) box_Ack_mk | _ => .no }
theorem box_Ack_ok : SigOk Try.prog 22 box_Ack_sig := by
  refine contract_of (C := box_Ack_C) (d := 3) ⟨S20_ok, noPs⟩ (callable_ex (by kernel_rfl)) ?_
  intro dvs
  unfold box_Ack_sig
  dsimp only
  split
  · refine .inr ⟨_, box_Ack_un, box_Ack_mk, congrArg (fun o => Cl.yes _ o _) (box_Ack_raw _ _ _ _ _), ?_⟩
    intro ds x h
    unfold box_Ack_un at h
    split at h
    · cases h; rfl
    · cases h
  · exact .inl rfl
noncomputable def S21 : List (Nat × Sig) := (22, box_Ack_sig) :: S20
theorem S21_ok : ListOk Try.prog S21 := ListOk.cons S20_ok box_Ack_ok
noncomputable def box_Same_C : Cfg := { P := Try.prog, sig := lookSig S21, hb := fun _ _ => none, hr := fun _ _ => none }
noncomputable def box_Same_un : List DV → Option (Bool) := fun | [⟨.bool, r0⟩] => some r0 | _ => none
noncomputable def box_Same_mk : Bool → List DV := fun r0 => [⟨.bool, r0⟩]
theorem box_Same_ex : ∃ f : (List Int) → (List (Int × Int × (List Int))) → (List Int) → (List Int) → (List (Int × Int × (List Int))) → (List Int) → Option (Bool), f = fun (x0 : List Int) (x1 : List (Int × Int × (List Int))) (x2 : List Int) (x3 : List Int) (x4 : List (Int × Int × (List Int))) (x5 : List Int) => funRun box_Same_C 3 14 [(true, [(false, .slice (.int .i64)), (false, .slice (.pair (.int .i64) (.pair (.int .i64) (.slice (.int .u8))))), (false, .slice (.int .i64))]), (true, [(false, .slice (.int .i64)), (false, .slice (.pair (.int .i64) (.pair (.int .i64) (.slice (.int .u8))))), (false, .slice (.int .i64))])] [(false, [(false, .bool)])] box_Same_un [⟨.slice (.int .i64), x0⟩, ⟨.slice (.pair (.int .i64) (.pair (.int .i64) (.slice (.int .u8)))), x1⟩, ⟨.slice (.int .i64), x2⟩, ⟨.slice (.int .i64), x3⟩, ⟨.slice (.pair (.int .i64) (.pair (.int .i64) (.slice (.int .u8)))), x4⟩, ⟨.slice (.int .i64), x5⟩] := ⟨_, rfl⟩
noncomputable def box_Same : (List Int) → (List (Int × Int × (List Int))) → (List Int) → (List Int) → (List (Int × Int × (List Int))) → (List Int) → Option (Bool) := box_Same_ex.choose
theorem box_Same_raw (x0 : List Int) (x1 : List (Int × Int × (List Int))) (x2 : List Int) (x3 : List Int) (x4 : List (Int × Int × (List Int))) (x5 : List Int) : box_Same x0 x1 x2 x3 x4 x5 = funRun box_Same_C 3 14 [(true, [(false, .slice (.int .i64)), (false, .slice (.pair (.int .i64) (.pair (.int .i64) (.slice (.int .u8))))), (false, .slice (.int .i64))]), (true, [(false, .slice (.int .i64)), (false, .slice (.pair (.int .i64) (.pair (.int .i64) (.slice (.int .u8))))), (false, .slice (.int .i64))])] [(false, [(false, .bool)])] box_Same_un [⟨.slice (.int .i64), x0⟩, ⟨.slice (.pair (.int .i64) (.pair (.int .i64) (.slice (.int .u8)))), x1⟩, ⟨.slice (.int .i64), x2⟩, ⟨.slice (.int .i64), x3⟩, ⟨.slice (.pair (.int .i64) (.pair (.int .i64) (.slice (.int .u8)))), x4⟩, ⟨.slice (.int .i64), x5⟩] := congrFun (congrFun (congrFun (congrFun (congrFun (congrFun (box_Same_ex.choose_spec) x0) x1) x2) x3) x4) x5
theorem box_Same_eq (x0 : List Int) (x1 : List (Int × Int × (List Int))) (x2 : List Int) (x3 : List Int) (x4 : List (Int × Int × (List Int))) (x5 : List Int) : box_Same x0 x1 x2 x3 x4 x5 =
  (box_EqualI x0 x3).bind fun val0 =>
  bif val0
    then (box_EqualI x2 x5).bind fun val4 =>
      bif val4
        then (box_EqualFunc x1 x4).bind fun val8 =>
          some (val8)
        else some false
    else some false := (box_Same_raw x0 x1 x2 x3 x4 x5).trans (by kernel_rfl)
noncomputable def box_Same_sig : Sig := { pm := [(true, [(false, .slice (.int .i64)), (false, .slice (.pair (.int .i64) (.pair (.int .i64) (.slice (.int .u8))))), (false, .slice (.int .i64))]), (true, [(false, .slice (.int .i64)), (false, .slice (.pair (.int .i64) (.pair (.int .i64) (.slice (.int .u8))))), (false, .slice (.int .i64))])], rm := [(false, [(false, .bool)])], f := fun | [⟨.slice (.int .i64), x0⟩, ⟨.slice (.pair (.int .i64) (.pair (.int .i64) (.slice (.int .u8)))), x1⟩, ⟨.slice (.int .i64), x2⟩, ⟨.slice (.int .i64), x3⟩, ⟨.slice (.pair (.int .i64) (.pair (.int .i64) (.slice (.int .u8)))), x4⟩, ⟨.slice (.int .i64), x5⟩] => .yes _ (box_Same x0 x1 x2 x3 x4 x5) box_Same_mk | _ => .no }
theorem box_Same_ok : SigOk Try.prog 14 box_Same_sig := by
  refine contract_of (C := box_Same_C) (d := 3) ⟨S21_ok, noPs⟩ (callable_ex (by kernel_rfl)) ?_
  intro dvs
  unfold box_Same_sig
  dsimp only
  split
  · refine .inr ⟨_, box_Same_un, box_Same_mk, congrArg (fun o => Cl.yes _ o _) (box_Same_raw _ _ _ _ _ _), ?_⟩
    intro ds x h
    unfold box_Same_un at h
    split at h
    · cases h; rfl
    · cases h
  · exact .inl rfl
noncomputable def S22 : List (Nat × Sig) := (14, box_Same_sig) :: S21
theorem S22_ok : ListOk Try.prog S22 := ListOk.cons S21_ok box_Same_ok
noncomputable def box_Put_C : Cfg := { P := Try.prog, sig := lookSig S0, hb := fun _ _ => none, hr := fun _ _ => none, un := fun f b => bif Nat.beq f 32 && Nat.beq b 2 then 5 else bif Nat.beq f 32 && Nat.beq b 0 then 5 else bif Nat.beq f 48 && Nat.beq b 0 then 3 else 0 }
noncomputable def box_Put_un : List DV → Option ((List Int)) := fun | [⟨.slice (.int .u8), r0⟩] => some r0 | _ => none
noncomputable def box_Put_mk : (List Int) → List DV := fun r0 => [⟨.slice (.int .u8), r0⟩]
theorem box_Put_ex : ∃ f : (List Int) → (List Int) → (List (Int × Int × (List Int))) → (List Int) → Option ((List Int)), f = fun (x0 : List Int) (x1 : List Int) (x2 : List (Int × Int × (List Int))) (x3 : List Int) => funRun box_Put_C 8 32 [(false, [(true, .slice (.int .u8))]), (true, [(false, .slice (.int .i64)), (false, .slice (.pair (.int .i64) (.pair (.int .i64) (.slice (.int .u8))))), (false, .slice (.int .i64))])] [(false, [(true, .slice (.int .u8))])] box_Put_un [⟨.slice (.int .u8), x0⟩, ⟨.slice (.int .i64), x1⟩, ⟨.slice (.pair (.int .i64) (.pair (.int .i64) (.slice (.int .u8)))), x2⟩, ⟨.slice (.int .i64), x3⟩] := ⟨_, rfl⟩
noncomputable def box_Put : (List Int) → (List Int) → (List (Int × Int × (List Int))) → (List Int) → Option ((List Int)) := box_Put_ex.choose
theorem box_Put_raw (x0 : List Int) (x1 : List Int) (x2 : List (Int × Int × (List Int))) (x3 : List Int) : box_Put x0 x1 x2 x3 = funRun box_Put_C 8 32 [(false, [(true, .slice (.int .u8))]), (true, [(false, .slice (.int .i64)), (false, .slice (.pair (.int .i64) (.pair (.int .i64) (.slice (.int .u8))))), (false, .slice (.int .i64))])] [(false, [(true, .slice (.int .u8))])] box_Put_un [⟨.slice (.int .u8), x0⟩, ⟨.slice (.int .i64), x1⟩, ⟨.slice (.pair (.int .i64) (.pair (.int .i64) (.slice (.int .u8)))), x2⟩, ⟨.slice (.int .i64), x3⟩] := congrFun (congrFun (congrFun (congrFun (box_Put_ex.choose_spec) x0) x1) x2) x3
noncomputable def box_Put_sig : Sig := { pm := [(false, [(true, .slice (.int .u8))]), (true, [(false, .slice (.int .i64)), (false, .slice (.pair (.int .i64) (.pair (.int .i64) (.slice (.int .u8))))), (false, .slice (.int .i64))])], rm := [(false, [(true, .slice (.int .u8))])], f := fun | [⟨.slice (.int .u8), x0⟩, ⟨.slice (.int .i64), x1⟩, ⟨.slice (.pair (.int .i64) (.pair (.int .i64) (.slice (.int .u8)))), x2⟩, ⟨.slice (.int .i64), x3⟩] => .yes _ (box_Put x0 x1 x2 x3) box_Put_mk | _ => .no }
theorem box_Put_ok : SigOk Try.prog 32 box_Put_sig := by
  refine contract_of (C := box_Put_C) (d := 8) ⟨S0_ok, noPs⟩ (callable_ex (by kernel_rfl)) ?_
  intro dvs
  unfold box_Put_sig
  dsimp only
  split
  · refine .inr ⟨_, box_Put_un, box_Put_mk, congrArg (fun o => Cl.yes _ o _) (box_Put_raw _ _ _ _), ?_⟩
    intro ds x h
    unfold box_Put_un at h
    split at h
    · cases h; rfl
    · cases h
  · exact .inl rfl
noncomputable def S23 : List (Nat × Sig) := (32, box_Put_sig) :: S22
theorem S23_ok : ListOk Try.prog S23 := ListOk.cons S22_ok box_Put_ok
noncomputable def box_Read_C : Cfg := { P := Try.prog, sig := lookSig S4, hb := fun f b => bif Nat.beq f 31 && Nat.beq b 0 then some { tmps := [], obs := [], nils := [], cn := [(164, 0, 60, .int .i64), (164, 2, 61, .int .i64)], whole := true } else bif Nat.beq f 31 && Nat.beq b 2 then some { tmps := [], obs := [], nils := [], cn := [(164, 1, 62, .pair (.int .i64) (.pair (.int .i64) (.slice (.int .u8))))], whole := true } else none, hr := fun _ _ => none, un := fun f b => bif Nat.beq f 31 && Nat.beq b 2 then 5 else bif Nat.beq f 31 && Nat.beq b 0 then 5 else bif Nat.beq f 55 && Nat.beq b 0 then 4 else bif Nat.beq f 12 && Nat.beq b 2 then 5 else bif Nat.beq f 12 && Nat.beq b 0 then 5 else bif Nat.beq f 57 && Nat.beq b 0 then 5 else 0 }
noncomputable def box_Read_un : List DV → Option ((List Int) × (List (Int × Int × (List Int))) × (List Int) × (List Int) × Int) := fun | [⟨.slice (.int .i64), r0⟩, ⟨.slice (.pair (.int .i64) (.pair (.int .i64) (.slice (.int .u8)))), r1⟩, ⟨.slice (.int .i64), r2⟩, ⟨.slice (.int .u8), r3⟩, ⟨.int .i64, r4⟩] => some (r0, r1, r2, r3, r4) | _ => none
noncomputable def box_Read_mk : ((List Int) × (List (Int × Int × (List Int))) × (List Int) × (List Int) × Int) → List DV := fun ⟨r0, r1, r2, r3, r4⟩ => [⟨.slice (.int .i64), r0⟩, ⟨.slice (.pair (.int .i64) (.pair (.int .i64) (.slice (.int .u8)))), r1⟩, ⟨.slice (.int .i64), r2⟩, ⟨.slice (.int .u8), r3⟩, ⟨.int .i64, r4⟩]
theorem box_Read_ex : ∃ f : (List Int) → Option ((List Int) × (List (Int × Int × (List Int))) × (List Int) × (List Int) × Int), f = fun (x0 : List Int) => funRun box_Read_C 8 31 [(false, [(false, .slice (.int .u8))])] [(true, [(false, .slice (.int .i64)), (false, .slice (.pair (.int .i64) (.pair (.int .i64) (.slice (.int .u8))))), (false, .slice (.int .i64))]), (false, [(false, .slice (.int .u8))]), (false, [(false, .int .i64)])] box_Read_un [⟨.slice (.int .u8), x0⟩] := ⟨_, rfl⟩
noncomputable def box_Read : (List Int) → Option ((List Int) × (List (Int × Int × (List Int))) × (List Int) × (List Int) × Int) := box_Read_ex.choose
theorem box_Read_raw (x0 : List Int) : box_Read x0 = funRun box_Read_C 8 31 [(false, [(false, .slice (.int .u8))])] [(true, [(false, .slice (.int .i64)), (false, .slice (.pair (.int .i64) (.pair (.int .i64) (.slice (.int .u8))))), (false, .slice (.int .i64))]), (false, [(false, .slice (.int .u8))]), (false, [(false, .int .i64)])] box_Read_un [⟨.slice (.int .u8), x0⟩] := congrFun (box_Read_ex.choose_spec) x0
noncomputable def box_Read_sig : Sig := { pm := [(false, [(false, .slice (.int .u8))])], rm := [(true, [(false, .slice (.int .i64)), (false, .slice (.pair (.int .i64) (.pair (.int .i64) (.slice (.int .u8))))), (false, .slice (.int .i64))]), (false, [(false, .slice (.int .u8))]), (false, [(false, .int .i64)])], f := fun | [⟨.slice (.int .u8), x0⟩] => .yes _ (box_Read x0) box_Read_mk | _ => .no }
theorem box_Read_ok : SigOk Try.prog 31 box_Read_sig := by
  refine contract_of (C := box_Read_C) (d := 8) ⟨S4_ok, noPs⟩ (callable_ex (by kernel_rfl)) ?_
  intro dvs
  unfold box_Read_sig
  dsimp only
  split
  · refine .inr ⟨_, box_Read_un, box_Read_mk, congrArg (fun o => Cl.yes _ o _) (box_Read_raw _), ?_⟩
    intro ds x h
    unfold box_Read_un at h
    split at h
    · cases h; rfl
    · cases h
  · exact .inl rfl
noncomputable def S24 : List (Nat × Sig) := (31, box_Read_sig) :: S23
theorem S24_ok : ListOk Try.prog S24 := ListOk.cons S23_ok box_Read_ok
noncomputable def ref23_New_C : Cfg := { P := Try.prog, sig := lookSig S24, hb := fun f b => bif Nat.beq f 10 && Nat.beq b 0 then some { tmps := [0, 2, 4, 5], obs := [116, 132, 60, 61], nils := [], kl := [132, 116, 316, 308, 276, 268, 61, 60], cn := [(132, 0, 60, (.int .i64)), (132, 2, 61, (.int .i64))] } else none, hr := fun _ _ => none }
noncomputable def ref23_New_un : List DV → Option ((List Int) × (List (Int × Int × (List Int))) × (List Int) × Int) := fun | [⟨.slice (.int .i64), r0⟩, ⟨.slice (.pair (.int .i64) (.pair (.int .i64) (.slice (.int .u8)))), r1⟩, ⟨.slice (.int .i64), r2⟩, ⟨.int .i64, r3⟩] => some (r0, r1, r2, r3) | _ => none
noncomputable def ref23_New_mk : ((List Int) × (List (Int × Int × (List Int))) × (List Int) × Int) → List DV := fun ⟨r0, r1, r2, r3⟩ => [⟨.slice (.int .i64), r0⟩, ⟨.slice (.pair (.int .i64) (.pair (.int .i64) (.slice (.int .u8)))), r1⟩, ⟨.slice (.int .i64), r2⟩, ⟨.int .i64, r3⟩]
theorem ref23_New_ex : ∃ f : (Int) → Option ((List Int) × (List (Int × Int × (List Int))) × (List Int) × Int), f = fun (x0 : Int) => funRun ref23_New_C 3 10 [(false, [(false, .int .i64)])] [(true, [(false, .slice (.int .i64)), (false, .slice (.pair (.int .i64) (.pair (.int .i64) (.slice (.int .u8))))), (false, .slice (.int .i64))]), (false, [(false, .int .i64)])] ref23_New_un [⟨.int .i64, x0⟩] := ⟨_, rfl⟩
noncomputable def ref23_New : (Int) → Option ((List Int) × (List (Int × Int × (List Int))) × (List Int) × Int) := ref23_New_ex.choose
theorem ref23_New_raw (x0 : Int) : ref23_New x0 = funRun ref23_New_C 3 10 [(false, [(false, .int .i64)])] [(true, [(false, .slice (.int .i64)), (false, .slice (.pair (.int .i64) (.pair (.int .i64) (.slice (.int .u8))))), (false, .slice (.int .i64))]), (false, [(false, .int .i64)])] ref23_New_un [⟨.int .i64, x0⟩] := congrFun (ref23_New_ex.choose_spec) x0
noncomputable def ref23_New_l0 (y0 : Int) (y1 : Int) (y2 : List (Int)) (y3 : List (Int)) : Option ((List Int) × (List (Int × Int × (List Int))) × (List Int) × Int) := loopAt ref23_New_C 3 10 [(true, [(false, .slice (.int .i64)), (false, .slice (.pair (.int .i64) (.pair (.int .i64) (.slice (.int .u8))))), (false, .slice (.int .i64))]), (false, [(false, .int .i64)])] ref23_New_un [true, true, true, false, true, false] (St.ofLists [(0, .int .i64 y0), (2, .ptr 116 0), (4, .ptr 132 0), (5, .int .i64 y1)] [(116, some (.cells [.nils, .nils, .nils])), (132, some (.cells [.ow 60, .nils, .ow 61])), (60, some (.row (Ty.int IntKind.i64) y2 0 false)), (61, some (.row (Ty.int IntKind.i64) y3 0 false))] [132, 116, 316, 308, 276, 268, 61, 60])
theorem ref23_New_eq (x0 : Int) : ref23_New x0 =
  bif decide (x0 < 1)
  then some (([]), (([]), (([]), (2))))
  else bif decide (x0 > 64)
    then some (([]), (([]), (([]), (2))))
    else ref23_New_l0 (x0) (0) ([]) ([]) := (ref23_New_raw x0).trans (by kernel_rfl)
theorem ref23_New_l0_eq (y0 : Int) (y1 : Int) (y2 : List (Int)) (y3 : List (Int)) : ref23_New_l0 y0 y1 y2 y3 =
  bif decide (y1 < y0)
  then bif decide ((ilen y2 + ilen [0]) * 8 ≤ room)
    then bif decide ((ilen y3 + ilen [0]) * 8 ≤ room)
      then ref23_New_l0 (y0) (IntKind.i64.wrap (y1 + 1)) (y2 ++ [0]) (y3 ++ [0])
      else none
    else none
  else some ((y2), (([]), ((y3), (0)))) := (loopAt_step _ _ _ _ _ _ _).trans (by kernel_rfl)
noncomputable def ref23_New_sig : Sig := { pm := [(false, [(false, .int .i64)])], rm := [(true, [(false, .slice (.int .i64)), (false, .slice (.pair (.int .i64) (.pair (.int .i64) (.slice (.int .u8))))), (false, .slice (.int .i64))]), (false, [(false, .int .i64)])], f := fun | [⟨.int .i64, x0⟩] => .yes _ (ref23_New x0) ref23_New_mk | _ => .no }
theorem ref23_New_ok : SigOk Try.prog 10 ref23_New_sig := by
  refine contract_of (C := ref23_New_C) (d := 3) ⟨S24_ok, noPs⟩ (callable_ex (by kernel_rfl)) ?_
  intro dvs
  unfold ref23_New_sig
  dsimp only
  split
  · refine .inr ⟨_, ref23_New_un, ref23_New_mk, congrArg (fun o => Cl.yes _ o _) (ref23_New_raw _), ?_⟩
    intro ds x h
    unfold ref23_New_un at h
    split at h
    · cases h; rfl
    · cases h
  · exact .inl rfl
noncomputable def S25 : List (Nat × Sig) := (10, ref23_New_sig) :: S24
theorem S25_ok : ListOk Try.prog S25 := ListOk.cons S24_ok ref23_New_ok
noncomputable def ref23_Check_C : Cfg := { P := Try.prog, sig := lookSig S25, hb := fun f b => bif Nat.beq f 13 && Nat.beq b 0 then some { tmps := [1, 3], obs := [108], nils := [], kl := [108] } else bif Nat.beq f 13 && Nat.beq b 2 then some { tmps := [1, 4], obs := [108], nils := [], kl := [108, 140] } else none, hr := fun _ _ => none }
noncomputable def ref23_Check_un : List DV → Option (Int) := fun | [⟨.int .i64, r0⟩] => some r0 | _ => none
noncomputable def ref23_Check_mk : Int → List DV := fun r0 => [⟨.int .i64, r0⟩]
theorem ref23_Check_ex : ∃ f : (List Int) → (List (Int × Int × (List Int))) → (List Int) → Option (Int), f = fun (x0 : List Int) (x1 : List (Int × Int × (List Int))) (x2 : List Int) => funRun ref23_Check_C 3 13 [(true, [(false, .slice (.int .i64)), (false, .slice (.pair (.int .i64) (.pair (.int .i64) (.slice (.int .u8))))), (false, .slice (.int .i64))])] [(false, [(false, .int .i64)])] ref23_Check_un [⟨.slice (.int .i64), x0⟩, ⟨.slice (.pair (.int .i64) (.pair (.int .i64) (.slice (.int .u8)))), x1⟩, ⟨.slice (.int .i64), x2⟩] := ⟨_, rfl⟩
noncomputable def ref23_Check : (List Int) → (List (Int × Int × (List Int))) → (List Int) → Option (Int) := ref23_Check_ex.choose
theorem ref23_Check_raw (x0 : List Int) (x1 : List (Int × Int × (List Int))) (x2 : List Int) : ref23_Check x0 x1 x2 = funRun ref23_Check_C 3 13 [(true, [(false, .slice (.int .i64)), (false, .slice (.pair (.int .i64) (.pair (.int .i64) (.slice (.int .u8))))), (false, .slice (.int .i64))])] [(false, [(false, .int .i64)])] ref23_Check_un [⟨.slice (.int .i64), x0⟩, ⟨.slice (.pair (.int .i64) (.pair (.int .i64) (.slice (.int .u8)))), x1⟩, ⟨.slice (.int .i64), x2⟩] := congrFun (congrFun (congrFun (ref23_Check_ex.choose_spec) x0) x1) x2
noncomputable def ref23_Check_l0 (y0 : Int) (y1 : List (Int)) (y2 : List ((Int) × ((Int) × (List (Int))))) (y3 : List (Int)) : Option (Int) := loopAt ref23_Check_C 3 13 [(false, [(false, .int .i64)])] ref23_Check_un [true, true, false, true, false] (St.ofLists [(1, .ptr 108 0), (3, .int .i64 y0)] [(108, some (.cells [.fz (Ty.int IntKind.i64) y1 false false, .fz ((Ty.int IntKind.i64).pair ((Ty.int IntKind.i64).pair (Ty.int IntKind.u8).slice)) y2 false false, .fz (Ty.int IntKind.i64) y3 false false]))] [108])
noncomputable def ref23_Check_l2 (y0 : Int) (y1 : List (Int)) (y2 : List ((Int) × ((Int) × (List (Int))))) (y3 : List (Int)) : Option (Int) := loopAt ref23_Check_C 3 13 [(false, [(false, .int .i64)])] ref23_Check_un [true, true, true, true, false, true, false] (St.ofLists [(1, .ptr 108 0), (4, .int .i64 y0)] [(108, some (.cells [.fz (Ty.int IntKind.i64) y1 false false, .fz ((Ty.int IntKind.i64).pair ((Ty.int IntKind.i64).pair (Ty.int IntKind.u8).slice)) y2 false false, .fz (Ty.int IntKind.i64) y3 false false]))] [108, 140])
theorem ref23_Check_eq (x0 : List Int) (x1 : List (Int × Int × (List Int))) (x2 : List Int) : ref23_Check x0 x1 x2 =
  bif decide (ilen x0 < 1)
  then some (1)
  else bif decide (ilen x0 > 64)
    then some (1)
    else bif ilen x2 != ilen x0
      then some (1)
      else ref23_Check_l0 (0) (x0) (x1) (x2) := (ref23_Check_raw x0 x1 x2).trans (by kernel_rfl)
theorem ref23_Check_l0_eq (y0 : Int) (y1 : List (Int)) (y2 : List ((Int) × ((Int) × (List (Int))))) (y3 : List (Int)) : ref23_Check_l0 y0 y1 y2 y3 =
  bif decide (y0 < ilen y1)
  then bif decide (0 ≤ y0)
    then (y1[y0.toNat]?).bind fun val4 =>
      bif decide (val4 < 0)
        then some (1)
        else bif decide (0 ≤ y0)
          then (y1[y0.toNat]?).bind fun val10 =>
            bif decide (val10 > 1099511627776)
              then some (1)
              else bif decide (0 ≤ y0)
                then (y3[y0.toNat]?).bind fun val16 =>
                  bif decide (val16 < 0)
                    then some (1)
                    else bif decide (0 ≤ y0)
                      then (y3[y0.toNat]?).bind fun val22 =>
                        bif decide (val22 > 1099511627776)
                          then some (1)
                          else ref23_Check_l0 (IntKind.i64.wrap (y0 + 1)) (y1) (y2) (y3)
                      else none
                else none
          else none
    else none
  else bif decide (ilen y2 > 256)
    then some (6)
    else ref23_Check_l2 (0) (y1) (y2) (y3) := (loopAt_step _ _ _ _ _ _ _).trans (by kernel_rfl)
theorem ref23_Check_l2_eq (y0 : Int) (y1 : List (Int)) (y2 : List ((Int) × ((Int) × (List (Int))))) (y3 : List (Int)) : ref23_Check_l2 y0 y1 y2 y3 =
  bif decide (y0 < ilen y2)
  then bif decide (0 ≤ y0)
    then (y2[y0.toNat]?).bind fun val4 =>
      bif decide (val4.fst < 0)
        then some (1)
        else bif decide (val4.fst ≥ ilen y1)
          then some (1)
          else bif decide (val4.snd.fst < 1)
            then some (1)
            else bif decide (ilen val4.snd.snd > 65536)
              then some (1)
              else bif decide (y0 > 0)
                then bif decide (0 ≤ IntKind.i64.wrap (y0 - 1))
                  then (y2[(IntKind.i64.wrap (y0 - 1)).toNat]?).bind fun val18 =>
                    bif decide (val18.fst > val4.fst)
                      then some (1)
                      else bif decide (0 ≤ IntKind.i64.wrap (y0 - 1))
                        then (y2[(IntKind.i64.wrap (y0 - 1)).toNat]?).bind fun val24 =>
                          bif val24.fst == val4.fst
                            then bif decide (0 ≤ IntKind.i64.wrap (y0 - 1))
                              then (y2[(IntKind.i64.wrap (y0 - 1)).toNat]?).bind fun val30 =>
                                bif IntKind.i64.wrap (val30.snd.fst + 1) != val4.snd.fst
                                  then some (1)
                                  else bif y0 == IntKind.i64.wrap (ilen y2 - 1)
                                    then bif decide (0 ≤ val4.fst)
                                      then (y1[Int.toNat val4.fst]?).bind fun val38 =>
                                        bif val4.snd.fst != val38
                                          then some (1)
                                          else ref23_Check_l2 (IntKind.i64.wrap (y0 + 1)) (y1) (y2) (y3)
                                      else none
                                    else bif decide (0 ≤ IntKind.i64.wrap (y0 + 1))
                                      then (y2[(IntKind.i64.wrap (y0 + 1)).toNat]?).bind fun val38 =>
                                        bif val38.fst != val4.fst
                                          then bif decide (0 ≤ val4.fst)
                                            then (y1[Int.toNat val4.fst]?).bind fun val44 =>
                                              bif val4.snd.fst != val44
                                                then some (1)
                                                else ref23_Check_l2 (IntKind.i64.wrap (y0 + 1)) (y1) (y2) (y3)
                                            else none
                                          else ref23_Check_l2 (IntKind.i64.wrap (y0 + 1)) (y1) (y2) (y3)
                                      else none
                              else none
                            else bif y0 == IntKind.i64.wrap (ilen y2 - 1)
                              then bif decide (0 ≤ val4.fst)
                                then (y1[Int.toNat val4.fst]?).bind fun val32 =>
                                  bif val4.snd.fst != val32
                                    then some (1)
                                    else ref23_Check_l2 (IntKind.i64.wrap (y0 + 1)) (y1) (y2) (y3)
                                else none
                              else bif decide (0 ≤ IntKind.i64.wrap (y0 + 1))
                                then (y2[(IntKind.i64.wrap (y0 + 1)).toNat]?).bind fun val32 =>
                                  bif val32.fst != val4.fst
                                    then bif decide (0 ≤ val4.fst)
                                      then (y1[Int.toNat val4.fst]?).bind fun val38 =>
                                        bif val4.snd.fst != val38
                                          then some (1)
                                          else ref23_Check_l2 (IntKind.i64.wrap (y0 + 1)) (y1) (y2) (y3)
                                      else none
                                    else ref23_Check_l2 (IntKind.i64.wrap (y0 + 1)) (y1) (y2) (y3)
                                else none
                        else none
                  else none
                else bif y0 == IntKind.i64.wrap (ilen y2 - 1)
                  then bif decide (0 ≤ val4.fst)
                    then (y1[Int.toNat val4.fst]?).bind fun val20 =>
                      bif val4.snd.fst != val20
                        then some (1)
                        else ref23_Check_l2 (IntKind.i64.wrap (y0 + 1)) (y1) (y2) (y3)
                    else none
                  else bif decide (0 ≤ IntKind.i64.wrap (y0 + 1))
                    then (y2[(IntKind.i64.wrap (y0 + 1)).toNat]?).bind fun val20 =>
                      bif val20.fst != val4.fst
                        then bif decide (0 ≤ val4.fst)
                          then (y1[Int.toNat val4.fst]?).bind fun val26 =>
                            bif val4.snd.fst != val26
                              then some (1)
                              else ref23_Check_l2 (IntKind.i64.wrap (y0 + 1)) (y1) (y2) (y3)
                          else none
                        else ref23_Check_l2 (IntKind.i64.wrap (y0 + 1)) (y1) (y2) (y3)
                    else none
    else none
  else some (0) := (loopAt_step _ _ _ _ _ _ _).trans (by kernel_rfl)
noncomputable def ref23_Check_sig : Sig := { pm := [(true, [(false, .slice (.int .i64)), (false, .slice (.pair (.int .i64) (.pair (.int .i64) (.slice (.int .u8))))), (false, .slice (.int .i64))])], rm := [(false, [(false, .int .i64)])], f := fun | [⟨.slice (.int .i64), x0⟩, ⟨.slice (.pair (.int .i64) (.pair (.int .i64) (.slice (.int .u8)))), x1⟩, ⟨.slice (.int .i64), x2⟩] => .yes _ (ref23_Check x0 x1 x2) ref23_Check_mk | _ => .no }
theorem ref23_Check_ok : SigOk Try.prog 13 ref23_Check_sig := by
  refine contract_of (C := ref23_Check_C) (d := 3) ⟨S25_ok, noPs⟩ (callable_ex (by kernel_rfl)) ?_
  intro dvs
  unfold ref23_Check_sig
  dsimp only
  split
  · refine .inr ⟨_, ref23_Check_un, ref23_Check_mk, congrArg (fun o => Cl.yes _ o _) (ref23_Check_raw _ _ _), ?_⟩
    intro ds x h
    unfold ref23_Check_un at h
    split at h
    · cases h; rfl
    · cases h
  · exact .inl rfl
noncomputable def S26 : List (Nat × Sig) := (13, ref23_Check_sig) :: S25
theorem S26_ok : ListOk Try.prog S26 := ListOk.cons S25_ok ref23_Check_ok
noncomputable def ref23_Send_C : Cfg := { P := Try.prog, sig := lookSig S26, hb := fun f b => bif Nat.beq f 18 && Nat.beq b 0 then some { tmps := [1, 2, 3, 6, 9, 10], obs := [124, 148, 172, 62, 63], nils := [], kl := [172, 148, 124, 908, 900, 612, 604, 61, 63, 62, 61, 60, 60, 812, 804, 67, 66, 65, 66, 64, 65, 64], cn := [(172, 0, 61, (.int .i64)), (172, 1, 62, (.pair (.int .i64) (.pair (.int .i64) (.slice (.int .u8))))), (172, 0, 63, (.int .i64))] } else bif Nat.beq f 18 && Nat.beq b 2 then some { tmps := [1, 2, 3, 6, 9, 10, 11, 12], obs := [124, 148, 172, 60, 67], nils := [], kl := [612, 604, 172, 148, 124, 812, 804, 62, 60, 63, 908, 900, 66, 67, 65, 66, 64, 65, 64, 61, 61], cn := [(172, 1, 60, (.pair (.int .i64) (.pair (.int .i64) (.slice (.int .u8))))), (172, 0, 64, (.int .i64)), (172, 0, 65, (.int .i64)), (172, 0, 66, (Ty.int IntKind.i64)), (172, 0, 67, (Ty.int IntKind.i64))] } else none, hr := fun _ _ => none }
noncomputable def ref23_Send_un : List DV → Option ((List Int) × (List (Int × Int × (List Int))) × (List Int) × Int × Int) := fun | [⟨.slice (.int .i64), r0⟩, ⟨.slice (.pair (.int .i64) (.pair (.int .i64) (.slice (.int .u8)))), r1⟩, ⟨.slice (.int .i64), r2⟩, ⟨.int .i64, r3⟩, ⟨.int .i64, r4⟩] => some (r0, r1, r2, r3, r4) | _ => none
noncomputable def ref23_Send_mk : ((List Int) × (List (Int × Int × (List Int))) × (List Int) × Int × Int) → List DV := fun ⟨r0, r1, r2, r3, r4⟩ => [⟨.slice (.int .i64), r0⟩, ⟨.slice (.pair (.int .i64) (.pair (.int .i64) (.slice (.int .u8)))), r1⟩, ⟨.slice (.int .i64), r2⟩, ⟨.int .i64, r3⟩, ⟨.int .i64, r4⟩]
theorem ref23_Send_ex : ∃ f : (List Int) → (List (Int × Int × (List Int))) → (List Int) → (Int) → (List Int) → Option ((List Int) × (List (Int × Int × (List Int))) × (List Int) × Int × Int), f = fun (x0 : List Int) (x1 : List (Int × Int × (List Int))) (x2 : List Int) (x3 : Int) (x4 : List Int) => funRun ref23_Send_C 3 18 [(true, [(false, .slice (.int .i64)), (false, .slice (.pair (.int .i64) (.pair (.int .i64) (.slice (.int .u8))))), (false, .slice (.int .i64))]), (false, [(false, .int .i64)]), (false, [(false, .slice (.int .u8))])] [(true, [(false, .slice (.int .i64)), (false, .slice (.pair (.int .i64) (.pair (.int .i64) (.slice (.int .u8))))), (false, .slice (.int .i64))]), (false, [(false, .int .i64)]), (false, [(false, .int .i64)])] ref23_Send_un [⟨.slice (.int .i64), x0⟩, ⟨.slice (.pair (.int .i64) (.pair (.int .i64) (.slice (.int .u8)))), x1⟩, ⟨.slice (.int .i64), x2⟩, ⟨.int .i64, x3⟩, ⟨.slice (.int .u8), x4⟩] := ⟨_, rfl⟩
noncomputable def ref23_Send : (List Int) → (List (Int × Int × (List Int))) → (List Int) → (Int) → (List Int) → Option ((List Int) × (List (Int × Int × (List Int))) × (List Int) × Int × Int) := ref23_Send_ex.choose
theorem ref23_Send_raw (x0 : List Int) (x1 : List (Int × Int × (List Int))) (x2 : List Int) (x3 : Int) (x4 : List Int) : ref23_Send x0 x1 x2 x3 x4 = funRun ref23_Send_C 3 18 [(true, [(false, .slice (.int .i64)), (false, .slice (.pair (.int .i64) (.pair (.int .i64) (.slice (.int .u8))))), (false, .slice (.int .i64))]), (false, [(false, .int .i64)]), (false, [(false, .slice (.int .u8))])] [(true, [(false, .slice (.int .i64)), (false, .slice (.pair (.int .i64) (.pair (.int .i64) (.slice (.int .u8))))), (false, .slice (.int .i64))]), (false, [(false, .int .i64)]), (false, [(false, .int .i64)])] ref23_Send_un [⟨.slice (.int .i64), x0⟩, ⟨.slice (.pair (.int .i64) (.pair (.int .i64) (.slice (.int .u8)))), x1⟩, ⟨.slice (.int .i64), x2⟩, ⟨.int .i64, x3⟩, ⟨.slice (.int .u8), x4⟩] := congrFun (congrFun (congrFun (congrFun (congrFun (ref23_Send_ex.choose_spec) x0) x1) x2) x3) x4
noncomputable def ref23_Send_l0 (y0 : Int) (y1 : List (Int)) (y2 : Int) (y3 : List (Int)) (y4 : List ((Int) × ((Int) × (List (Int))))) (y5 : List (Int)) (y6 : List (Int)) (y7 : List ((Int) × ((Int) × (List (Int))))) (y8 : List (Int)) : Option ((List Int) × (List (Int × Int × (List Int))) × (List Int) × Int × Int) := loopAt ref23_Send_C 3 18 [(true, [(false, .slice (.int .i64)), (false, .slice (.pair (.int .i64) (.pair (.int .i64) (.slice (.int .u8))))), (false, .slice (.int .i64))]), (false, [(false, .int .i64)]), (false, [(false, .int .i64)])] ref23_Send_un [true, true, true, true, true, false, true, false] (St.ofLists [(1, .int .i64 y0), (2, .fz (Ty.int IntKind.u8) y1 false false), (3, .ptr 124 0), (6, .ptr 148 0), (9, .ptr 172 0), (10, .int .i64 y2)] [(124, some (.cells [.fz (Ty.int IntKind.i64) y3 false false, .fz ((Ty.int IntKind.i64).pair ((Ty.int IntKind.i64).pair (Ty.int IntKind.u8).slice)) y4 false false, .fz (Ty.int IntKind.i64) y5 false false])), (148, some (.cells [.nils, .nils, .nils])), (172, some (.cells [.ow 63, .ow 62, .fz (Ty.int IntKind.i64) y6 false false])), (62, some (.row ((Ty.int IntKind.i64).pair ((Ty.int IntKind.i64).pair (Ty.int IntKind.u8).slice)) y7 0 false)), (63, some (.row (Ty.int IntKind.i64) y8 0 false))] [172, 148, 124, 908, 900, 612, 604, 61, 63, 62, 61, 60, 60, 812, 804, 67, 66, 65, 66, 64, 65, 64])
noncomputable def ref23_Send_l2 (y0 : Int) (y1 : List (Int)) (y2 : Int) (y3 : Int) (y4 : Int) (y5 : List (Int)) (y6 : List ((Int) × ((Int) × (List (Int))))) (y7 : List (Int)) (y8 : List (Int)) (y9 : List ((Int) × ((Int) × (List (Int))))) (y10 : List (Int)) : Option ((List Int) × (List (Int × Int × (List Int))) × (List Int) × Int × Int) := loopAt ref23_Send_C 3 18 [(true, [(false, .slice (.int .i64)), (false, .slice (.pair (.int .i64) (.pair (.int .i64) (.slice (.int .u8))))), (false, .slice (.int .i64))]), (false, [(false, .int .i64)]), (false, [(false, .int .i64)])] ref23_Send_un [true, true, true, true, true, false, true, false, false, true, false, false, true, true, true, false, true, false] (St.ofLists [(1, .int .i64 y0), (2, .fz (Ty.int IntKind.u8) y1 false false), (3, .ptr 124 0), (6, .ptr 148 0), (9, .ptr 172 0), (10, .int .i64 y2), (11, .int .i64 y3), (12, .int .i64 y4)] [(124, some (.cells [.fz (Ty.int IntKind.i64) y5 false false, .fz ((Ty.int IntKind.i64).pair ((Ty.int IntKind.i64).pair (Ty.int IntKind.u8).slice)) y6 false false, .fz (Ty.int IntKind.i64) y7 false false])), (148, some (.cells [.nils, .nils, .nils])), (172, some (.cells [.ow 67, .ow 60, .fz (Ty.int IntKind.i64) y8 false false])), (60, some (.row ((Ty.int IntKind.i64).pair ((Ty.int IntKind.i64).pair (Ty.int IntKind.u8).slice)) y9 0 false)), (67, some (.row (Ty.int IntKind.i64) y10 0 false))] [612, 604, 172, 148, 124, 812, 804, 62, 60, 63, 908, 900, 66, 67, 65, 66, 64, 65, 64, 61, 61])
theorem ref23_Send_eq (x0 : List Int) (x1 : List (Int × Int × (List Int))) (x2 : List Int) (x3 : Int) (x4 : List Int) : ref23_Send x0 x1 x2 x3 x4 =
  bif decide (x3 < 0)
  then some (([]), (([]), (([]), ((0), (9)))))
  else bif decide (x3 ≥ ilen x0)
    then some (([]), (([]), (([]), ((0), (9)))))
    else bif decide (ilen x4 > 65536)
      then some (([]), (([]), (([]), ((0), (6)))))
      else bif decide (ilen x1 ≥ 256)
        then some (([]), (([]), (([]), ((0), (14)))))
        else bif decide (0 ≤ x3)
          then (x0[x3.toNat]?).bind fun val10 =>
            bif decide (val10 ≥ 1099511627776)
              then some (([]), (([]), (([]), ((0), (14)))))
              else ref23_Send_l0 (x3) (x4) (0) (x0) (x1) (x2) (x2) ([]) ([])
          else none := (ref23_Send_raw x0 x1 x2 x3 x4).trans (by kernel_rfl)
theorem ref23_Send_l0_eq (y0 : Int) (y1 : List (Int)) (y2 : Int) (y3 : List (Int)) (y4 : List ((Int) × ((Int) × (List (Int))))) (y5 : List (Int)) (y6 : List (Int)) (y7 : List ((Int) × ((Int) × (List (Int))))) (y8 : List (Int)) : ref23_Send_l0 y0 y1 y2 y3 y4 y5 y6 y7 y8 =
  bif decide (y2 < ilen y3)
  then bif decide (0 ≤ y2)
    then (y3[y2.toNat]?).bind fun val4 =>
      bif y2 == y0
        then bif decide ((ilen y8 + ilen [IntKind.i64.wrap (val4 + 1)]) * 8 ≤ room)
          then ref23_Send_l2 (y0) (y1) (y2) (IntKind.i64.wrap (val4 + 1)) (0) (y3) (y4) (y5) (y6) (y7) (y8 ++ [IntKind.i64.wrap (val4 + 1)])
          else none
        else bif decide ((ilen y8 + ilen [val4]) * 8 ≤ room)
          then ref23_Send_l2 (y0) (y1) (y2) (val4) (0) (y3) (y4) (y5) (y6) (y7) (y8 ++ [val4])
          else none
    else none
  else bif decide (0 ≤ y0)
    then bif decide (y0 < ilen y8)
      then (y8[y0.toNat]?).bind fun val6 =>
        some ((y8), ((y7), ((y6), ((val6), (0)))))
      else none
    else none := (loopAt_step _ _ _ _ _ _ _).trans (by kernel_rfl)
theorem ref23_Send_l2_eq (y0 : Int) (y1 : List (Int)) (y2 : Int) (y3 : Int) (y4 : Int) (y5 : List (Int)) (y6 : List ((Int) × ((Int) × (List (Int))))) (y7 : List (Int)) (y8 : List (Int)) (y9 : List ((Int) × ((Int) × (List (Int))))) (y10 : List (Int)) : ref23_Send_l2 y0 y1 y2 y3 y4 y5 y6 y7 y8 y9 y10 =
  bif decide (y4 < ilen y6)
  then bif decide (0 ≤ y4)
    then (y6[y4.toNat]?).bind fun val4 =>
      bif val4.fst == y2
        then bif decide (0 ≤ y4)
          then (y6[y4.toNat]?).bind fun val10 =>
            bif decide ((ilen y9 + ilen [val10]) * 40 ≤ room)
              then ref23_Send_l2 (y0) (y1) (y2) (y3) (IntKind.i64.wrap (y4 + 1)) (y5) (y6) (y7) (y8) (y9 ++ [val10]) (y10)
              else none
          else none
        else ref23_Send_l2 (y0) (y1) (y2) (y3) (IntKind.i64.wrap (y4 + 1)) (y5) (y6) (y7) (y8) (y9) (y10)
    else none
  else bif y2 == y0
    then bif decide ((ilen y9 + ilen [(y0, y3, y1)]) * 40 ≤ room)
      then ref23_Send_l0 (y0) (y1) (IntKind.i64.wrap (y2 + 1)) (y5) (y6) (y7) (y8) (y9 ++ [(y0, y3, y1)]) (y10)
      else none
    else ref23_Send_l0 (y0) (y1) (IntKind.i64.wrap (y2 + 1)) (y5) (y6) (y7) (y8) (y9) (y10) := (loopAt_step _ _ _ _ _ _ _).trans (by kernel_rfl)
noncomputable def ref23_Send_sig : Sig := { pm := [(true, [(false, .slice (.int .i64)), (false, .slice (.pair (.int .i64) (.pair (.int .i64) (.slice (.int .u8))))), (false, .slice (.int .i64))]), (false, [(false, .int .i64)]), (false, [(false, .slice (.int .u8))])], rm := [(true, [(false, .slice (.int .i64)), (false, .slice (.pair (.int .i64) (.pair (.int .i64) (.slice (.int .u8))))), (false, .slice (.int .i64))]), (false, [(false, .int .i64)]), (false, [(false, .int .i64)])], f := fun | [⟨.slice (.int .i64), x0⟩, ⟨.slice (.pair (.int .i64) (.pair (.int .i64) (.slice (.int .u8)))), x1⟩, ⟨.slice (.int .i64), x2⟩, ⟨.int .i64, x3⟩, ⟨.slice (.int .u8), x4⟩] => .yes _ (ref23_Send x0 x1 x2 x3 x4) ref23_Send_mk | _ => .no }
theorem ref23_Send_ok : SigOk Try.prog 18 ref23_Send_sig := by
  refine contract_of (C := ref23_Send_C) (d := 3) ⟨S26_ok, noPs⟩ (callable_ex (by kernel_rfl)) ?_
  intro dvs
  unfold ref23_Send_sig
  dsimp only
  split
  · refine .inr ⟨_, ref23_Send_un, ref23_Send_mk, congrArg (fun o => Cl.yes _ o _) (ref23_Send_raw _ _ _ _ _), ?_⟩
    intro ds x h
    unfold ref23_Send_un at h
    split at h
    · cases h; rfl
    · cases h
  · exact .inl rfl
noncomputable def S27 : List (Nat × Sig) := (18, ref23_Send_sig) :: S26
theorem S27_ok : ListOk Try.prog S27 := ListOk.cons S26_ok ref23_Send_ok
noncomputable def ref23_Pending_C : Cfg := { P := Try.prog, sig := lookSig S27, hb := fun f b => bif Nat.beq f 26 && Nat.beq b 0 then some { tmps := [1, 2, 3, 7, 8], obs := [124, 60], nils := [(7, 60, (.pair (.int .i64) (.pair (.int .i64) (.slice (.int .u8)))))], kl := [124, 396, 388, 60] } else none, hr := fun _ _ => none }
noncomputable def ref23_Pending_un : List DV → Option ((List (Int × Int × (List Int)))) := fun | [⟨.slice (.pair (.int .i64) (.pair (.int .i64) (.slice (.int .u8)))), r0⟩] => some r0 | _ => none
noncomputable def ref23_Pending_mk : (List (Int × Int × (List Int))) → List DV := fun r0 => [⟨.slice (.pair (.int .i64) (.pair (.int .i64) (.slice (.int .u8)))), r0⟩]
theorem ref23_Pending_ex : ∃ f : (List Int) → (List (Int × Int × (List Int))) → (List Int) → (Int) → (Int) → Option ((List (Int × Int × (List Int)))), f = fun (x0 : List Int) (x1 : List (Int × Int × (List Int))) (x2 : List Int) (x3 : Int) (x4 : Int) => funRun ref23_Pending_C 3 26 [(true, [(false, .slice (.int .i64)), (false, .slice (.pair (.int .i64) (.pair (.int .i64) (.slice (.int .u8))))), (false, .slice (.int .i64))]), (false, [(false, .int .i64)]), (false, [(false, .int .i64)])] [(false, [(false, .slice (.pair (.int .i64) (.pair (.int .i64) (.slice (.int .u8)))))])] ref23_Pending_un [⟨.slice (.int .i64), x0⟩, ⟨.slice (.pair (.int .i64) (.pair (.int .i64) (.slice (.int .u8)))), x1⟩, ⟨.slice (.int .i64), x2⟩, ⟨.int .i64, x3⟩, ⟨.int .i64, x4⟩] := ⟨_, rfl⟩
noncomputable def ref23_Pending : (List Int) → (List (Int × Int × (List Int))) → (List Int) → (Int) → (Int) → Option ((List (Int × Int × (List Int)))) := ref23_Pending_ex.choose
theorem ref23_Pending_raw (x0 : List Int) (x1 : List (Int × Int × (List Int))) (x2 : List Int) (x3 : Int) (x4 : Int) : ref23_Pending x0 x1 x2 x3 x4 = funRun ref23_Pending_C 3 26 [(true, [(false, .slice (.int .i64)), (false, .slice (.pair (.int .i64) (.pair (.int .i64) (.slice (.int .u8))))), (false, .slice (.int .i64))]), (false, [(false, .int .i64)]), (false, [(false, .int .i64)])] [(false, [(false, .slice (.pair (.int .i64) (.pair (.int .i64) (.slice (.int .u8)))))])] ref23_Pending_un [⟨.slice (.int .i64), x0⟩, ⟨.slice (.pair (.int .i64) (.pair (.int .i64) (.slice (.int .u8)))), x1⟩, ⟨.slice (.int .i64), x2⟩, ⟨.int .i64, x3⟩, ⟨.int .i64, x4⟩] := congrFun (congrFun (congrFun (congrFun (congrFun (ref23_Pending_ex.choose_spec) x0) x1) x2) x3) x4
noncomputable def ref23_Pending_l0 (y0 : Int) (y1 : Int) (y2 : Int) (y3 : List (Int)) (y4 : List ((Int) × ((Int) × (List (Int))))) (y5 : List (Int)) (y6 : List ((Int) × ((Int) × (List (Int))))) : Option ((List (Int × Int × (List Int)))) := loopAt ref23_Pending_C 3 26 [(false, [(false, .slice (.pair (.int .i64) (.pair (.int .i64) (.slice (.int .u8)))))])] ref23_Pending_un [true, true, false, true, false] (St.ofLists [(1, .int .i64 y0), (2, .int .i64 y1), (3, .ptr 124 0), (7, .ow 60), (8, .int .i64 y2)] [(124, some (.cells [.fz (Ty.int IntKind.i64) y3 false false, .fz ((Ty.int IntKind.i64).pair ((Ty.int IntKind.i64).pair (Ty.int IntKind.u8).slice)) y4 false false, .fz (Ty.int IntKind.i64) y5 false false])), (60, some (.row ((Ty.int IntKind.i64).pair ((Ty.int IntKind.i64).pair (Ty.int IntKind.u8).slice)) y6 0 false))] [124, 396, 388, 60])
theorem ref23_Pending_eq (x0 : List Int) (x1 : List (Int × Int × (List Int))) (x2 : List Int) (x3 : Int) (x4 : Int) : ref23_Pending x0 x1 x2 x3 x4 =
  ref23_Pending_l0 (x3) (x4) (0) (x0) (x1) (x2) ([]) := (ref23_Pending_raw x0 x1 x2 x3 x4).trans (by kernel_rfl)
theorem ref23_Pending_l0_eq (y0 : Int) (y1 : Int) (y2 : Int) (y3 : List (Int)) (y4 : List ((Int) × ((Int) × (List (Int))))) (y5 : List (Int)) (y6 : List ((Int) × ((Int) × (List (Int))))) : ref23_Pending_l0 y0 y1 y2 y3 y4 y5 y6 =
  bif decide (y2 < ilen y4)
  then bif decide (ilen y6 < y1)
    then bif decide (0 ≤ y2)
      then (y4[y2.toNat]?).bind fun val6 =>
        bif val6.fst == y0
          then bif decide (0 ≤ y2)
            then (y4[y2.toNat]?).bind fun val12 =>
              bif decide ((ilen y6 + ilen [val12]) * 40 ≤ room)
                then ref23_Pending_l0 (y0) (y1) (IntKind.i64.wrap (y2 + 1)) (y3) (y4) (y5) (y6 ++ [val12])
                else none
            else none
          else ref23_Pending_l0 (y0) (y1) (IntKind.i64.wrap (y2 + 1)) (y3) (y4) (y5) (y6)
      else none
    else ref23_Pending_l0 (y0) (y1) (IntKind.i64.wrap (y2 + 1)) (y3) (y4) (y5) (y6)
  else some (y6) := (loopAt_step _ _ _ _ _ _ _).trans (by kernel_rfl)
noncomputable def ref23_Pending_sig : Sig := { pm := [(true, [(false, .slice (.int .i64)), (false, .slice (.pair (.int .i64) (.pair (.int .i64) (.slice (.int .u8))))), (false, .slice (.int .i64))]), (false, [(false, .int .i64)]), (false, [(false, .int .i64)])], rm := [(false, [(false, .slice (.pair (.int .i64) (.pair (.int .i64) (.slice (.int .u8)))))])], f := fun | [⟨.slice (.int .i64), x0⟩, ⟨.slice (.pair (.int .i64) (.pair (.int .i64) (.slice (.int .u8)))), x1⟩, ⟨.slice (.int .i64), x2⟩, ⟨.int .i64, x3⟩, ⟨.int .i64, x4⟩] => .yes _ (ref23_Pending x0 x1 x2 x3 x4) ref23_Pending_mk | _ => .no }
theorem ref23_Pending_ok : SigOk Try.prog 26 ref23_Pending_sig := by
  refine contract_of (C := ref23_Pending_C) (d := 3) ⟨S27_ok, noPs⟩ (callable_ex (by kernel_rfl)) ?_
  intro dvs
  unfold ref23_Pending_sig
  dsimp only
  split
  · refine .inr ⟨_, ref23_Pending_un, ref23_Pending_mk, congrArg (fun o => Cl.yes _ o _) (ref23_Pending_raw _ _ _ _ _), ?_⟩
    intro ds x h
    unfold ref23_Pending_un at h
    split at h
    · cases h; rfl
    · cases h
  · exact .inl rfl
noncomputable def S28 : List (Nat × Sig) := (26, ref23_Pending_sig) :: S27
theorem S28_ok : ListOk Try.prog S28 := ListOk.cons S27_ok ref23_Pending_ok
noncomputable def ref23_Take_C : Cfg := { P := Try.prog, sig := lookSig S28, hb := fun _ _ => none, hr := fun _ _ => none }
noncomputable def ref23_Take_un : List DV → Option ((List Int) × (List (Int × Int × (List Int))) × (List Int) × Bool × Int) := fun | [⟨.slice (.int .i64), r0⟩, ⟨.slice (.pair (.int .i64) (.pair (.int .i64) (.slice (.int .u8)))), r1⟩, ⟨.slice (.int .i64), r2⟩, ⟨.bool, r3⟩, ⟨.int .i64, r4⟩] => some (r0, r1, r2, r3, r4) | _ => none
noncomputable def ref23_Take_mk : ((List Int) × (List (Int × Int × (List Int))) × (List Int) × Bool × Int) → List DV := fun ⟨r0, r1, r2, r3, r4⟩ => [⟨.slice (.int .i64), r0⟩, ⟨.slice (.pair (.int .i64) (.pair (.int .i64) (.slice (.int .u8)))), r1⟩, ⟨.slice (.int .i64), r2⟩, ⟨.bool, r3⟩, ⟨.int .i64, r4⟩]
theorem ref23_Take_ex : ∃ f : (List Int) → (List (Int × Int × (List Int))) → (List Int) → (Int) → (Int) → Option ((List Int) × (List (Int × Int × (List Int))) × (List Int) × Bool × Int), f = fun (x0 : List Int) (x1 : List (Int × Int × (List Int))) (x2 : List Int) (x3 : Int) (x4 : Int) => funRun ref23_Take_C 3 21 [(true, [(false, .slice (.int .i64)), (false, .slice (.pair (.int .i64) (.pair (.int .i64) (.slice (.int .u8))))), (false, .slice (.int .i64))]), (false, [(false, .int .i64)]), (false, [(false, .int .i64)])] [(true, [(false, .slice (.int .i64)), (false, .slice (.pair (.int .i64) (.pair (.int .i64) (.slice (.int .u8))))), (false, .slice (.int .i64))]), (false, [(false, .bool)]), (false, [(false, .int .i64)])] ref23_Take_un [⟨.slice (.int .i64), x0⟩, ⟨.slice (.pair (.int .i64) (.pair (.int .i64) (.slice (.int .u8)))), x1⟩, ⟨.slice (.int .i64), x2⟩, ⟨.int .i64, x3⟩, ⟨.int .i64, x4⟩] := ⟨_, rfl⟩
noncomputable def ref23_Take : (List Int) → (List (Int × Int × (List Int))) → (List Int) → (Int) → (Int) → Option ((List Int) × (List (Int × Int × (List Int))) × (List Int) × Bool × Int) := ref23_Take_ex.choose
theorem ref23_Take_raw (x0 : List Int) (x1 : List (Int × Int × (List Int))) (x2 : List Int) (x3 : Int) (x4 : Int) : ref23_Take x0 x1 x2 x3 x4 = funRun ref23_Take_C 3 21 [(true, [(false, .slice (.int .i64)), (false, .slice (.pair (.int .i64) (.pair (.int .i64) (.slice (.int .u8))))), (false, .slice (.int .i64))]), (false, [(false, .int .i64)]), (false, [(false, .int .i64)])] [(true, [(false, .slice (.int .i64)), (false, .slice (.pair (.int .i64) (.pair (.int .i64) (.slice (.int .u8))))), (false, .slice (.int .i64))]), (false, [(false, .bool)]), (false, [(false, .int .i64)])] ref23_Take_un [⟨.slice (.int .i64), x0⟩, ⟨.slice (.pair (.int .i64) (.pair (.int .i64) (.slice (.int .u8)))), x1⟩, ⟨.slice (.int .i64), x2⟩, ⟨.int .i64, x3⟩, ⟨.int .i64, x4⟩] := congrFun (congrFun (congrFun (congrFun (congrFun (ref23_Take_ex.choose_spec) x0) x1) x2) x3) x4
theorem ref23_Take_eq (x0 : List Int) (x1 : List (Int × Int × (List Int))) (x2 : List Int) (x3 : Int) (x4 : Int) : ref23_Take x0 x1 x2 x3 x4 =
  bif decide (x3 < 0)
  then some (([]), (([]), (([]), (false, (9)))))
  else bif decide (x3 ≥ ilen x2)
    then some (([]), (([]), (([]), (false, (9)))))
    else bif decide (x4 < 1)
      then some (([]), (([]), (([]), (false, (2)))))
      else bif decide (x4 > 1099511627776)
        then some (([]), (([]), (([]), (false, (2)))))
        else bif decide (0 ≤ x3)
          then (x2[x3.toNat]?).bind fun val10 =>
            bif decide (IntKind.i64.wrap (x4 - 1) > val10)
              then some (([]), (([]), (([]), (false, (11)))))
              else bif decide (0 ≤ x3)
                then (x2[x3.toNat]?).bind fun val16 =>
                  bif decide (x4 ≤ val16)
                    then some ((x0), ((x1), ((x2), (false, (0)))))
                    else bif decide ((0 + ilen x2) * 8 ≤ room)
                      then bif decide (0 ≤ x3)
                        then bif decide (x3 < ilen ([] ++ x2))
                          then (([] ++ x2)[x3.toNat]?).bind fun val26 =>
                            some ((x0), ((x1), ((([] ++ x2).set x3.toNat x4), (true, (0)))))
                          else none
                        else none
                      else none
                else none
          else none := (ref23_Take_raw x0 x1 x2 x3 x4).trans (by kernel_rfl)
noncomputable def ref23_Take_sig : Sig := { pm := [(true, [(false, .slice (.int .i64)), (false, .slice (.pair (.int .i64) (.pair (.int .i64) (.slice (.int .u8))))), (false, .slice (.int .i64))]), (false, [(false, .int .i64)]), (false, [(false, .int .i64)])], rm := [(true, [(false, .slice (.int .i64)), (false, .slice (.pair (.int .i64) (.pair (.int .i64) (.slice (.int .u8))))), (false, .slice (.int .i64))]), (false, [(false, .bool)]), (false, [(false, .int .i64)])], f := fun | [⟨.slice (.int .i64), x0⟩, ⟨.slice (.pair (.int .i64) (.pair (.int .i64) (.slice (.int .u8)))), x1⟩, ⟨.slice (.int .i64), x2⟩, ⟨.int .i64, x3⟩, ⟨.int .i64, x4⟩] => .yes _ (ref23_Take x0 x1 x2 x3 x4) ref23_Take_mk | _ => .no }
theorem ref23_Take_ok : SigOk Try.prog 21 ref23_Take_sig := by
  refine contract_of (C := ref23_Take_C) (d := 3) ⟨S28_ok, noPs⟩ (callable_ex (by kernel_rfl)) ?_
  intro dvs
  unfold ref23_Take_sig
  dsimp only
  split
  · refine .inr ⟨_, ref23_Take_un, ref23_Take_mk, congrArg (fun o => Cl.yes _ o _) (ref23_Take_raw _ _ _ _ _), ?_⟩
    intro ds x h
    unfold ref23_Take_un at h
    split at h
    · cases h; rfl
    · cases h
  · exact .inl rfl
noncomputable def S29 : List (Nat × Sig) := (21, ref23_Take_sig) :: S28
theorem S29_ok : ListOk Try.prog S29 := ListOk.cons S28_ok ref23_Take_ok
noncomputable def ref23_Ack_C : Cfg := { P := Try.prog, sig := lookSig S29, hb := fun f b => bif Nat.beq f 23 && Nat.beq b 0 then some { tmps := [1, 2, 3, 6, 8, 9], obs := [124, 148, 164, 61], nils := [], kl := [164, 148, 124, 660, 652, 60, 61, 60], cn := [(164, 1, 60, (.pair (.int .i64) (.pair (.int .i64) (.slice (.int .u8))))), (164, 1, 61, (.pair (.int .i64) (.pair (.int .i64) (.slice (.int .u8)))))] } else none, hr := fun _ _ => none }
noncomputable def ref23_Ack_un : List DV → Option ((List Int) × (List (Int × Int × (List Int))) × (List Int) × Int) := fun | [⟨.slice (.int .i64), r0⟩, ⟨.slice (.pair (.int .i64) (.pair (.int .i64) (.slice (.int .u8)))), r1⟩, ⟨.slice (.int .i64), r2⟩, ⟨.int .i64, r3⟩] => some (r0, r1, r2, r3) | _ => none
noncomputable def ref23_Ack_mk : ((List Int) × (List (Int × Int × (List Int))) × (List Int) × Int) → List DV := fun ⟨r0, r1, r2, r3⟩ => [⟨.slice (.int .i64), r0⟩, ⟨.slice (.pair (.int .i64) (.pair (.int .i64) (.slice (.int .u8)))), r1⟩, ⟨.slice (.int .i64), r2⟩, ⟨.int .i64, r3⟩]
theorem ref23_Ack_ex : ∃ f : (List Int) → (List (Int × Int × (List Int))) → (List Int) → (Int) → (Int) → Option ((List Int) × (List (Int × Int × (List Int))) × (List Int) × Int), f = fun (x0 : List Int) (x1 : List (Int × Int × (List Int))) (x2 : List Int) (x3 : Int) (x4 : Int) => funRun ref23_Ack_C 3 23 [(true, [(false, .slice (.int .i64)), (false, .slice (.pair (.int .i64) (.pair (.int .i64) (.slice (.int .u8))))), (false, .slice (.int .i64))]), (false, [(false, .int .i64)]), (false, [(false, .int .i64)])] [(true, [(false, .slice (.int .i64)), (false, .slice (.pair (.int .i64) (.pair (.int .i64) (.slice (.int .u8))))), (false, .slice (.int .i64))]), (false, [(false, .int .i64)])] ref23_Ack_un [⟨.slice (.int .i64), x0⟩, ⟨.slice (.pair (.int .i64) (.pair (.int .i64) (.slice (.int .u8)))), x1⟩, ⟨.slice (.int .i64), x2⟩, ⟨.int .i64, x3⟩, ⟨.int .i64, x4⟩] := ⟨_, rfl⟩
noncomputable def ref23_Ack : (List Int) → (List (Int × Int × (List Int))) → (List Int) → (Int) → (Int) → Option ((List Int) × (List (Int × Int × (List Int))) × (List Int) × Int) := ref23_Ack_ex.choose
theorem ref23_Ack_raw (x0 : List Int) (x1 : List (Int × Int × (List Int))) (x2 : List Int) (x3 : Int) (x4 : Int) : ref23_Ack x0 x1 x2 x3 x4 = funRun ref23_Ack_C 3 23 [(true, [(false, .slice (.int .i64)), (false, .slice (.pair (.int .i64) (.pair (.int .i64) (.slice (.int .u8))))), (false, .slice (.int .i64))]), (false, [(false, .int .i64)]), (false, [(false, .int .i64)])] [(true, [(false, .slice (.int .i64)), (false, .slice (.pair (.int .i64) (.pair (.int .i64) (.slice (.int .u8))))), (false, .slice (.int .i64))]), (false, [(false, .int .i64)])] ref23_Ack_un [⟨.slice (.int .i64), x0⟩, ⟨.slice (.pair (.int .i64) (.pair (.int .i64) (.slice (.int .u8)))), x1⟩, ⟨.slice (.int .i64), x2⟩, ⟨.int .i64, x3⟩, ⟨.int .i64, x4⟩] := congrFun (congrFun (congrFun (congrFun (congrFun (ref23_Ack_ex.choose_spec) x0) x1) x2) x3) x4
noncomputable def ref23_Ack_l0 (y0 : Int) (y1 : Int) (y2 : Int) (y3 : List (Int)) (y4 : List ((Int) × ((Int) × (List (Int))))) (y5 : List (Int)) (y6 : List (Int)) (y7 : List (Int)) (y8 : List ((Int) × ((Int) × (List (Int))))) : Option ((List Int) × (List (Int × Int × (List Int))) × (List Int) × Int) := loopAt ref23_Ack_C 3 23 [(true, [(false, .slice (.int .i64)), (false, .slice (.pair (.int .i64) (.pair (.int .i64) (.slice (.int .u8))))), (false, .slice (.int .i64))]), (false, [(false, .int .i64)])] ref23_Ack_un [true, true, true, true, false, true, false] (St.ofLists [(1, .int .i64 y0), (2, .int .i64 y1), (3, .ptr 124 0), (6, .ptr 148 0), (8, .ptr 164 0), (9, .int .i64 y2)] [(124, some (.cells [.fz (Ty.int IntKind.i64) y3 false false, .fz ((Ty.int IntKind.i64).pair ((Ty.int IntKind.i64).pair (Ty.int IntKind.u8).slice)) y4 false false, .fz (Ty.int IntKind.i64) y5 false false])), (148, some (.cells [.nils, .nils, .nils])), (164, some (.cells [.fz (Ty.int IntKind.i64) y6 false false, .ow 61, .fz (Ty.int IntKind.i64) y7 false false])), (61, some (.row ((Ty.int IntKind.i64).pair ((Ty.int IntKind.i64).pair (Ty.int IntKind.u8).slice)) y8 0 false))] [164, 148, 124, 660, 652, 60, 61, 60])
theorem ref23_Ack_eq (x0 : List Int) (x1 : List (Int × Int × (List Int))) (x2 : List Int) (x3 : Int) (x4 : Int) : ref23_Ack x0 x1 x2 x3 x4 =
  bif decide (x3 < 0)
  then some (([]), (([]), (([]), (9))))
  else bif decide (x3 ≥ ilen x0)
    then some (([]), (([]), (([]), (9))))
    else bif decide (x4 < 0)
      then some (([]), (([]), (([]), (2))))
      else bif decide (0 ≤ x3)
        then (x0[x3.toNat]?).bind fun val8 =>
          bif decide (x4 > val8)
            then some (([]), (([]), (([]), (2))))
            else ref23_Ack_l0 (x3) (x4) (0) (x0) (x1) (x2) (x0) (x2) ([])
        else none := (ref23_Ack_raw x0 x1 x2 x3 x4).trans (by kernel_rfl)
theorem ref23_Ack_l0_eq (y0 : Int) (y1 : Int) (y2 : Int) (y3 : List (Int)) (y4 : List ((Int) × ((Int) × (List (Int))))) (y5 : List (Int)) (y6 : List (Int)) (y7 : List (Int)) (y8 : List ((Int) × ((Int) × (List (Int))))) : ref23_Ack_l0 y0 y1 y2 y3 y4 y5 y6 y7 y8 =
  bif decide (y2 < ilen y4)
  then bif decide (0 ≤ y2)
    then (y4[y2.toNat]?).bind fun val4 =>
      bif val4.fst != y0
        then bif decide (0 ≤ y2)
          then (y4[y2.toNat]?).bind fun val10 =>
            bif decide ((ilen y8 + ilen [val10]) * 40 ≤ room)
              then ref23_Ack_l0 (y0) (y1) (IntKind.i64.wrap (y2 + 1)) (y3) (y4) (y5) (y6) (y7) (y8 ++ [val10])
              else none
          else none
        else bif decide (0 ≤ y2)
          then (y4[y2.toNat]?).bind fun val10 =>
            bif decide (val10.snd.fst > y1)
              then bif decide (0 ≤ y2)
                then (y4[y2.toNat]?).bind fun val16 =>
                  bif decide ((ilen y8 + ilen [val16]) * 40 ≤ room)
                    then ref23_Ack_l0 (y0) (y1) (IntKind.i64.wrap (y2 + 1)) (y3) (y4) (y5) (y6) (y7) (y8 ++ [val16])
                    else none
                else none
              else ref23_Ack_l0 (y0) (y1) (IntKind.i64.wrap (y2 + 1)) (y3) (y4) (y5) (y6) (y7) (y8)
          else none
    else none
  else some ((y6), ((y8), ((y7), (0)))) := (loopAt_step _ _ _ _ _ _ _).trans (by kernel_rfl)
noncomputable def ref23_Ack_sig : Sig := { pm := [(true, [(false, .slice (.int .i64)), (false, .slice (.pair (.int .i64) (.pair (.int .i64) (.slice (.int .u8))))), (false, .slice (.int .i64))]), (false, [(false, .int .i64)]), (false, [(false, .int .i64)])], rm := [(true, [(false, .slice (.int .i64)), (false, .slice (.pair (.int .i64) (.pair (.int .i64) (.slice (.int .u8))))), (false, .slice (.int .i64))]), (false, [(false, .int .i64)])], f := fun | [⟨.slice (.int .i64), x0⟩, ⟨.slice (.pair (.int .i64) (.pair (.int .i64) (.slice (.int .u8)))), x1⟩, ⟨.slice (.int .i64), x2⟩, ⟨.int .i64, x3⟩, ⟨.int .i64, x4⟩] => .yes _ (ref23_Ack x0 x1 x2 x3 x4) ref23_Ack_mk | _ => .no }
theorem ref23_Ack_ok : SigOk Try.prog 23 ref23_Ack_sig := by
  refine contract_of (C := ref23_Ack_C) (d := 3) ⟨S29_ok, noPs⟩ (callable_ex (by kernel_rfl)) ?_
  intro dvs
  unfold ref23_Ack_sig
  dsimp only
  split
  · refine .inr ⟨_, ref23_Ack_un, ref23_Ack_mk, congrArg (fun o => Cl.yes _ o _) (ref23_Ack_raw _ _ _ _ _), ?_⟩
    intro ds x h
    unfold ref23_Ack_un at h
    split at h
    · cases h; rfl
    · cases h
  · exact .inl rfl
noncomputable def S30 : List (Nat × Sig) := (23, ref23_Ack_sig) :: S29
theorem S30_ok : ListOk Try.prog S30 := ListOk.cons S29_ok ref23_Ack_ok
noncomputable def ref23_ints_C : Cfg := { P := Try.prog, sig := lookSig S30, hb := fun f b => bif Nat.beq f 33 && Nat.beq b 0 then some { tmps := [0, 1, 5], obs := [], nils := [], kl := [] } else none, hr := fun _ _ => none }
noncomputable def ref23_ints_un : List DV → Option (Bool) := fun | [⟨.bool, r0⟩] => some r0 | _ => none
noncomputable def ref23_ints_mk : Bool → List DV := fun r0 => [⟨.bool, r0⟩]
theorem ref23_ints_ex : ∃ f : (List Int) → (List Int) → Option (Bool), f = fun (x0 : List Int) (x1 : List Int) => funRun ref23_ints_C 3 33 [(false, [(false, .slice (.int .i64))]), (false, [(false, .slice (.int .i64))])] [(false, [(false, .bool)])] ref23_ints_un [⟨.slice (.int .i64), x0⟩, ⟨.slice (.int .i64), x1⟩] := ⟨_, rfl⟩
noncomputable def ref23_ints : (List Int) → (List Int) → Option (Bool) := ref23_ints_ex.choose
theorem ref23_ints_raw (x0 : List Int) (x1 : List Int) : ref23_ints x0 x1 = funRun ref23_ints_C 3 33 [(false, [(false, .slice (.int .i64))]), (false, [(false, .slice (.int .i64))])] [(false, [(false, .bool)])] ref23_ints_un [⟨.slice (.int .i64), x0⟩, ⟨.slice (.int .i64), x1⟩] := congrFun (congrFun (ref23_ints_ex.choose_spec) x0) x1
noncomputable def ref23_ints_l0 (y0 : List (Int)) (y1 : List (Int)) (y2 : Int) : Option (Bool) := loopAt ref23_ints_C 3 33 [(false, [(false, .bool)])] ref23_ints_un [true, true, false, true, false] (St.ofLists [(0, .fz (Ty.int IntKind.i64) y0 false false), (1, .fz (Ty.int IntKind.i64) y1 false false), (5, .int .i64 y2)] [] [])
theorem ref23_ints_eq (x0 : List Int) (x1 : List Int) : ref23_ints x0 x1 =
  bif ilen x0 != ilen x1
  then some false
  else ref23_ints_l0 (x0) (x1) (0) := (ref23_ints_raw x0 x1).trans (by kernel_rfl)
theorem ref23_ints_l0_eq (y0 : List (Int)) (y1 : List (Int)) (y2 : Int) : ref23_ints_l0 y0 y1 y2 =
  bif decide (y2 < ilen y0)
  then bif decide (0 ≤ y2)
    then (y0[y2.toNat]?).bind fun val4 =>
      bif decide (0 ≤ y2)
        then (y1[y2.toNat]?).bind fun val8 =>
          bif val4 != val8
            then some false
            else ref23_ints_l0 (y0) (y1) (IntKind.i64.wrap (y2 + 1))
        else none
    else none
  else some true := (loopAt_step _ _ _ _ _ _ _).trans (by kernel_rfl)
noncomputable def ref23_ints_sig : Sig := { pm := [(false, [(false, .slice (.int .i64))]), (false, [(false, .slice (.int .i64))])], rm := [(false, [(false, .bool)])], f := fun | [⟨.slice (.int .i64), x0⟩, ⟨.slice (.int .i64), x1⟩] => .yes _ (ref23_ints x0 x1) ref23_ints_mk | _ => .no }
theorem ref23_ints_ok : SigOk Try.prog 33 ref23_ints_sig := by
  refine contract_of (C := ref23_ints_C) (d := 3) ⟨S30_ok, noPs⟩ (callable_ex (by kernel_rfl)) ?_
  intro dvs
  unfold ref23_ints_sig
  dsimp only
  split
  · refine .inr ⟨_, ref23_ints_un, ref23_ints_mk, congrArg (fun o => Cl.yes _ o _) (ref23_ints_raw _ _), ?_⟩
    intro ds x h
    unfold ref23_ints_un at h
    split at h
    · cases h; rfl
    · cases h
  · exact .inl rfl
noncomputable def S31 : List (Nat × Sig) := (33, ref23_ints_sig) :: S30
theorem S31_ok : ListOk Try.prog S31 := ListOk.cons S30_ok ref23_ints_ok
noncomputable def ref23_Outs_C : Cfg := { P := Try.prog, sig := lookSig S31, hb := fun f b => bif Nat.beq f 24 && Nat.beq b 0 then some { tmps := [0, 1, 5], obs := [], nils := [], kl := [] } else none, hr := fun _ _ => none }
noncomputable def ref23_Outs_un : List DV → Option (Bool) := fun | [⟨.bool, r0⟩] => some r0 | _ => none
noncomputable def ref23_Outs_mk : Bool → List DV := fun r0 => [⟨.bool, r0⟩]
theorem ref23_Outs_ex : ∃ f : (List (Int × Int × (List Int))) → (List (Int × Int × (List Int))) → Option (Bool), f = fun (x0 : List (Int × Int × (List Int))) (x1 : List (Int × Int × (List Int))) => funRun ref23_Outs_C 3 24 [(false, [(false, .slice (.pair (.int .i64) (.pair (.int .i64) (.slice (.int .u8)))))]), (false, [(false, .slice (.pair (.int .i64) (.pair (.int .i64) (.slice (.int .u8)))))])] [(false, [(false, .bool)])] ref23_Outs_un [⟨.slice (.pair (.int .i64) (.pair (.int .i64) (.slice (.int .u8)))), x0⟩, ⟨.slice (.pair (.int .i64) (.pair (.int .i64) (.slice (.int .u8)))), x1⟩] := ⟨_, rfl⟩
noncomputable def ref23_Outs : (List (Int × Int × (List Int))) → (List (Int × Int × (List Int))) → Option (Bool) := ref23_Outs_ex.choose
theorem ref23_Outs_raw (x0 : List (Int × Int × (List Int))) (x1 : List (Int × Int × (List Int))) : ref23_Outs x0 x1 = funRun ref23_Outs_C 3 24 [(false, [(false, .slice (.pair (.int .i64) (.pair (.int .i64) (.slice (.int .u8)))))]), (false, [(false, .slice (.pair (.int .i64) (.pair (.int .i64) (.slice (.int .u8)))))])] [(false, [(false, .bool)])] ref23_Outs_un [⟨.slice (.pair (.int .i64) (.pair (.int .i64) (.slice (.int .u8)))), x0⟩, ⟨.slice (.pair (.int .i64) (.pair (.int .i64) (.slice (.int .u8)))), x1⟩] := congrFun (congrFun (ref23_Outs_ex.choose_spec) x0) x1
noncomputable def ref23_Outs_l0 (y0 : List ((Int) × ((Int) × (List (Int))))) (y1 : List ((Int) × ((Int) × (List (Int))))) (y2 : Int) : Option (Bool) := loopAt ref23_Outs_C 3 24 [(false, [(false, .bool)])] ref23_Outs_un [true, true, false, true, false] (St.ofLists [(0, .fz ((Ty.int IntKind.i64).pair ((Ty.int IntKind.i64).pair (Ty.int IntKind.u8).slice)) y0 false false), (1, .fz ((Ty.int IntKind.i64).pair ((Ty.int IntKind.i64).pair (Ty.int IntKind.u8).slice)) y1 false false), (5, .int .i64 y2)] [] [])
theorem ref23_Outs_eq (x0 : List (Int × Int × (List Int))) (x1 : List (Int × Int × (List Int))) : ref23_Outs x0 x1 =
  bif ilen x0 != ilen x1
  then some false
  else ref23_Outs_l0 (x0) (x1) (0) := (ref23_Outs_raw x0 x1).trans (by kernel_rfl)
theorem ref23_Outs_l0_eq (y0 : List ((Int) × ((Int) × (List (Int))))) (y1 : List ((Int) × ((Int) × (List (Int))))) (y2 : Int) : ref23_Outs_l0 y0 y1 y2 =
  bif decide (y2 < ilen y0)
  then bif decide (0 ≤ y2)
    then (y0[y2.toNat]?).bind fun val4 =>
      bif decide (0 ≤ y2)
        then (y1[y2.toNat]?).bind fun val8 =>
          bif val4.fst != val8.fst
            then some false
            else bif decide (0 ≤ y2)
              then (y0[y2.toNat]?).bind fun val14 =>
                bif decide (0 ≤ y2)
                  then (y1[y2.toNat]?).bind fun val18 =>
                    bif val14.snd.fst != val18.snd.fst
                      then some false
                      else bif decide (0 ≤ y2)
                        then (y0[y2.toNat]?).bind fun val24 =>
                          bif decide (0 ≤ y2)
                            then (y1[y2.toNat]?).bind fun val28 =>
                              bif !(strOf val24.snd.snd).toList == (strOf val28.snd.snd).toList
                                then some false
                                else ref23_Outs_l0 (y0) (y1) (IntKind.i64.wrap (y2 + 1))
                            else none
                        else none
                  else none
              else none
        else none
    else none
  else some true := (loopAt_step _ _ _ _ _ _ _).trans (by kernel_rfl)
noncomputable def ref23_Outs_sig : Sig := { pm := [(false, [(false, .slice (.pair (.int .i64) (.pair (.int .i64) (.slice (.int .u8)))))]), (false, [(false, .slice (.pair (.int .i64) (.pair (.int .i64) (.slice (.int .u8)))))])], rm := [(false, [(false, .bool)])], f := fun | [⟨.slice (.pair (.int .i64) (.pair (.int .i64) (.slice (.int .u8)))), x0⟩, ⟨.slice (.pair (.int .i64) (.pair (.int .i64) (.slice (.int .u8)))), x1⟩] => .yes _ (ref23_Outs x0 x1) ref23_Outs_mk | _ => .no }
theorem ref23_Outs_ok : SigOk Try.prog 24 ref23_Outs_sig := by
  refine contract_of (C := ref23_Outs_C) (d := 3) ⟨S31_ok, noPs⟩ (callable_ex (by kernel_rfl)) ?_
  intro dvs
  unfold ref23_Outs_sig
  dsimp only
  split
  · refine .inr ⟨_, ref23_Outs_un, ref23_Outs_mk, congrArg (fun o => Cl.yes _ o _) (ref23_Outs_raw _ _), ?_⟩
    intro ds x h
    unfold ref23_Outs_un at h
    split at h
    · cases h; rfl
    · cases h
  · exact .inl rfl
noncomputable def S32 : List (Nat × Sig) := (24, ref23_Outs_sig) :: S31
theorem S32_ok : ListOk Try.prog S32 := ListOk.cons S31_ok ref23_Outs_ok
noncomputable def ref23_Same_C : Cfg := { P := Try.prog, sig := lookSig S32, hb := fun _ _ => none, hr := fun _ _ => none }
noncomputable def ref23_Same_un : List DV → Option (Bool) := fun | [⟨.bool, r0⟩] => some r0 | _ => none
noncomputable def ref23_Same_mk : Bool → List DV := fun r0 => [⟨.bool, r0⟩]
theorem ref23_Same_ex : ∃ f : (List Int) → (List (Int × Int × (List Int))) → (List Int) → (List Int) → (List (Int × Int × (List Int))) → (List Int) → Option (Bool), f = fun (x0 : List Int) (x1 : List (Int × Int × (List Int))) (x2 : List Int) (x3 : List Int) (x4 : List (Int × Int × (List Int))) (x5 : List Int) => funRun ref23_Same_C 3 11 [(true, [(false, .slice (.int .i64)), (false, .slice (.pair (.int .i64) (.pair (.int .i64) (.slice (.int .u8))))), (false, .slice (.int .i64))]), (true, [(false, .slice (.int .i64)), (false, .slice (.pair (.int .i64) (.pair (.int .i64) (.slice (.int .u8))))), (false, .slice (.int .i64))])] [(false, [(false, .bool)])] ref23_Same_un [⟨.slice (.int .i64), x0⟩, ⟨.slice (.pair (.int .i64) (.pair (.int .i64) (.slice (.int .u8)))), x1⟩, ⟨.slice (.int .i64), x2⟩, ⟨.slice (.int .i64), x3⟩, ⟨.slice (.pair (.int .i64) (.pair (.int .i64) (.slice (.int .u8)))), x4⟩, ⟨.slice (.int .i64), x5⟩] := ⟨_, rfl⟩
noncomputable def ref23_Same : (List Int) → (List (Int × Int × (List Int))) → (List Int) → (List Int) → (List (Int × Int × (List Int))) → (List Int) → Option (Bool) := ref23_Same_ex.choose
theorem ref23_Same_raw (x0 : List Int) (x1 : List (Int × Int × (List Int))) (x2 : List Int) (x3 : List Int) (x4 : List (Int × Int × (List Int))) (x5 : List Int) : ref23_Same x0 x1 x2 x3 x4 x5 = funRun ref23_Same_C 3 11 [(true, [(false, .slice (.int .i64)), (false, .slice (.pair (.int .i64) (.pair (.int .i64) (.slice (.int .u8))))), (false, .slice (.int .i64))]), (true, [(false, .slice (.int .i64)), (false, .slice (.pair (.int .i64) (.pair (.int .i64) (.slice (.int .u8))))), (false, .slice (.int .i64))])] [(false, [(false, .bool)])] ref23_Same_un [⟨.slice (.int .i64), x0⟩, ⟨.slice (.pair (.int .i64) (.pair (.int .i64) (.slice (.int .u8)))), x1⟩, ⟨.slice (.int .i64), x2⟩, ⟨.slice (.int .i64), x3⟩, ⟨.slice (.pair (.int .i64) (.pair (.int .i64) (.slice (.int .u8)))), x4⟩, ⟨.slice (.int .i64), x5⟩] := congrFun (congrFun (congrFun (congrFun (congrFun (congrFun (ref23_Same_ex.choose_spec) x0) x1) x2) x3) x4) x5
theorem ref23_Same_eq (x0 : List Int) (x1 : List (Int × Int × (List Int))) (x2 : List Int) (x3 : List Int) (x4 : List (Int × Int × (List Int))) (x5 : List Int) : ref23_Same x0 x1 x2 x3 x4 x5 =
  (ref23_ints x0 x3).bind fun val0 =>
  bif val0
    then (ref23_ints x2 x5).bind fun val4 =>
      bif val4
        then (ref23_Outs x1 x4).bind fun val8 =>
          some (val8)
        else some false
    else some false := (ref23_Same_raw x0 x1 x2 x3 x4 x5).trans (by kernel_rfl)
noncomputable def ref23_Same_sig : Sig := { pm := [(true, [(false, .slice (.int .i64)), (false, .slice (.pair (.int .i64) (.pair (.int .i64) (.slice (.int .u8))))), (false, .slice (.int .i64))]), (true, [(false, .slice (.int .i64)), (false, .slice (.pair (.int .i64) (.pair (.int .i64) (.slice (.int .u8))))), (false, .slice (.int .i64))])], rm := [(false, [(false, .bool)])], f := fun | [⟨.slice (.int .i64), x0⟩, ⟨.slice (.pair (.int .i64) (.pair (.int .i64) (.slice (.int .u8)))), x1⟩, ⟨.slice (.int .i64), x2⟩, ⟨.slice (.int .i64), x3⟩, ⟨.slice (.pair (.int .i64) (.pair (.int .i64) (.slice (.int .u8)))), x4⟩, ⟨.slice (.int .i64), x5⟩] => .yes _ (ref23_Same x0 x1 x2 x3 x4 x5) ref23_Same_mk | _ => .no }
theorem ref23_Same_ok : SigOk Try.prog 11 ref23_Same_sig := by
  refine contract_of (C := ref23_Same_C) (d := 3) ⟨S32_ok, noPs⟩ (callable_ex (by kernel_rfl)) ?_
  intro dvs
  unfold ref23_Same_sig
  dsimp only
  split
  · refine .inr ⟨_, ref23_Same_un, ref23_Same_mk, congrArg (fun o => Cl.yes _ o _) (ref23_Same_raw _ _ _ _ _ _), ?_⟩
    intro ds x h
    unfold ref23_Same_un at h
    split at h
    · cases h; rfl
    · cases h
  · exact .inl rfl
noncomputable def S33 : List (Nat × Sig) := (11, ref23_Same_sig) :: S32
theorem S33_ok : ListOk Try.prog S33 := ListOk.cons S32_ok ref23_Same_ok
noncomputable def ref23_Weight_C : Cfg := { P := Try.prog, sig := lookSig S33, hb := fun f b => bif Nat.beq f 30 && Nat.beq b 0 then some { tmps := [1, 2, 5, 6], obs := [116], nils := [], kl := [116] } else none, hr := fun _ _ => none }
noncomputable def ref23_Weight_un : List DV → Option (Int) := fun | [⟨.int .i64, r0⟩] => some r0 | _ => none
noncomputable def ref23_Weight_mk : Int → List DV := fun r0 => [⟨.int .i64, r0⟩]
theorem ref23_Weight_ex : ∃ f : (List Int) → (List (Int × Int × (List Int))) → (List Int) → (Int) → Option (Int), f = fun (x0 : List Int) (x1 : List (Int × Int × (List Int))) (x2 : List Int) (x3 : Int) => funRun ref23_Weight_C 3 30 [(true, [(false, .slice (.int .i64)), (false, .slice (.pair (.int .i64) (.pair (.int .i64) (.slice (.int .u8))))), (false, .slice (.int .i64))]), (false, [(false, .int .i64)])] [(false, [(false, .int .i64)])] ref23_Weight_un [⟨.slice (.int .i64), x0⟩, ⟨.slice (.pair (.int .i64) (.pair (.int .i64) (.slice (.int .u8)))), x1⟩, ⟨.slice (.int .i64), x2⟩, ⟨.int .i64, x3⟩] := ⟨_, rfl⟩
noncomputable def ref23_Weight : (List Int) → (List (Int × Int × (List Int))) → (List Int) → (Int) → Option (Int) := ref23_Weight_ex.choose
theorem ref23_Weight_raw (x0 : List Int) (x1 : List (Int × Int × (List Int))) (x2 : List Int) (x3 : Int) : ref23_Weight x0 x1 x2 x3 = funRun ref23_Weight_C 3 30 [(true, [(false, .slice (.int .i64)), (false, .slice (.pair (.int .i64) (.pair (.int .i64) (.slice (.int .u8))))), (false, .slice (.int .i64))]), (false, [(false, .int .i64)])] [(false, [(false, .int .i64)])] ref23_Weight_un [⟨.slice (.int .i64), x0⟩, ⟨.slice (.pair (.int .i64) (.pair (.int .i64) (.slice (.int .u8)))), x1⟩, ⟨.slice (.int .i64), x2⟩, ⟨.int .i64, x3⟩] := congrFun (congrFun (congrFun (congrFun (ref23_Weight_ex.choose_spec) x0) x1) x2) x3
noncomputable def ref23_Weight_l0 (y0 : Int) (y1 : Int) (y2 : Int) (y3 : List (Int)) (y4 : List ((Int) × ((Int) × (List (Int))))) (y5 : List (Int)) : Option (Int) := loopAt ref23_Weight_C 3 30 [(false, [(false, .int .i64)])] ref23_Weight_un [true, true, false, true, false] (St.ofLists [(1, .int .i64 y0), (2, .ptr 116 0), (5, .int .i64 y1), (6, .int .i64 y2)] [(116, some (.cells [.fz (Ty.int IntKind.i64) y3 false false, .fz ((Ty.int IntKind.i64).pair ((Ty.int IntKind.i64).pair (Ty.int IntKind.u8).slice)) y4 false false, .fz (Ty.int IntKind.i64) y5 false false]))] [116])
theorem ref23_Weight_eq (x0 : List Int) (x1 : List (Int × Int × (List Int))) (x2 : List Int) (x3 : Int) : ref23_Weight x0 x1 x2 x3 =
  ref23_Weight_l0 (x3) (IntKind.i64.wrap (ilen x0 + ilen x2)) (0) (x0) (x1) (x2) := (ref23_Weight_raw x0 x1 x2 x3).trans (by kernel_rfl)
theorem ref23_Weight_l0_eq (y0 : Int) (y1 : Int) (y2 : Int) (y3 : List (Int)) (y4 : List ((Int) × ((Int) × (List (Int))))) (y5 : List (Int)) : ref23_Weight_l0 y0 y1 y2 y3 y4 y5 =
  bif decide (y2 < ilen y4)
  then bif decide (y1 ≤ y0)
    then bif decide (0 ≤ y2)
      then (y4[y2.toNat]?).bind fun val6 =>
        ref23_Weight_l0 (y0) (IntKind.i64.wrap (IntKind.i64.wrap (y1 + 1) + IntKind.i64.wrap ((ilen val6.snd.snd).tdiv 20))) (IntKind.i64.wrap (y2 + 1)) (y3) (y4) (y5)
      else none
    else some (y1)
  else some (y1) := (loopAt_step _ _ _ _ _ _ _).trans (by kernel_rfl)
noncomputable def ref23_Weight_sig : Sig := { pm := [(true, [(false, .slice (.int .i64)), (false, .slice (.pair (.int .i64) (.pair (.int .i64) (.slice (.int .u8))))), (false, .slice (.int .i64))]), (false, [(false, .int .i64)])], rm := [(false, [(false, .int .i64)])], f := fun | [⟨.slice (.int .i64), x0⟩, ⟨.slice (.pair (.int .i64) (.pair (.int .i64) (.slice (.int .u8)))), x1⟩, ⟨.slice (.int .i64), x2⟩, ⟨.int .i64, x3⟩] => .yes _ (ref23_Weight x0 x1 x2 x3) ref23_Weight_mk | _ => .no }
theorem ref23_Weight_ok : SigOk Try.prog 30 ref23_Weight_sig := by
  refine contract_of (C := ref23_Weight_C) (d := 3) ⟨S33_ok, noPs⟩ (callable_ex (by kernel_rfl)) ?_
  intro dvs
  unfold ref23_Weight_sig
  dsimp only
  split
  · refine .inr ⟨_, ref23_Weight_un, ref23_Weight_mk, congrArg (fun o => Cl.yes _ o _) (ref23_Weight_raw _ _ _ _), ?_⟩
    intro ds x h
    unfold ref23_Weight_un at h
    split at h
    · cases h; rfl
    · cases h
  · exact .inl rfl
noncomputable def S34 : List (Nat × Sig) := (30, ref23_Weight_sig) :: S33
theorem S34_ok : ListOk Try.prog S34 := ListOk.cons S33_ok ref23_Weight_ok
noncomputable def law23_light_C : Cfg := { P := Try.prog, sig := lookSig S34, hb := fun _ _ => none, hr := fun _ _ => none }
noncomputable def law23_light_un : List DV → Option (Bool) := fun | [⟨.bool, r0⟩] => some r0 | _ => none
noncomputable def law23_light_mk : Bool → List DV := fun r0 => [⟨.bool, r0⟩]
theorem law23_light_ex : ∃ f : (List Int) → (List (Int × Int × (List Int))) → (List Int) → Option (Bool), f = fun (x0 : List Int) (x1 : List (Int × Int × (List Int))) (x2 : List Int) => funRun law23_light_C 3 7 [(true, [(false, .slice (.int .i64)), (false, .slice (.pair (.int .i64) (.pair (.int .i64) (.slice (.int .u8))))), (false, .slice (.int .i64))])] [(false, [(false, .bool)])] law23_light_un [⟨.slice (.int .i64), x0⟩, ⟨.slice (.pair (.int .i64) (.pair (.int .i64) (.slice (.int .u8)))), x1⟩, ⟨.slice (.int .i64), x2⟩] := ⟨_, rfl⟩
noncomputable def law23_light : (List Int) → (List (Int × Int × (List Int))) → (List Int) → Option (Bool) := law23_light_ex.choose
theorem law23_light_raw (x0 : List Int) (x1 : List (Int × Int × (List Int))) (x2 : List Int) : law23_light x0 x1 x2 = funRun law23_light_C 3 7 [(true, [(false, .slice (.int .i64)), (false, .slice (.pair (.int .i64) (.pair (.int .i64) (.slice (.int .u8))))), (false, .slice (.int .i64))])] [(false, [(false, .bool)])] law23_light_un [⟨.slice (.int .i64), x0⟩, ⟨.slice (.pair (.int .i64) (.pair (.int .i64) (.slice (.int .u8)))), x1⟩, ⟨.slice (.int .i64), x2⟩] := congrFun (congrFun (congrFun (law23_light_ex.choose_spec) x0) x1) x2
theorem law23_light_eq (x0 : List Int) (x1 : List (Int × Int × (List Int))) (x2 : List Int) : law23_light x0 x1 x2 =
  (ref23_Weight x0 x1 x2 400).bind fun val0 =>
  some (decide (val0 ≤ 400)) := (law23_light_raw x0 x1 x2).trans (by kernel_rfl)
noncomputable def law23_light_sig : Sig := { pm := [(true, [(false, .slice (.int .i64)), (false, .slice (.pair (.int .i64) (.pair (.int .i64) (.slice (.int .u8))))), (false, .slice (.int .i64))])], rm := [(false, [(false, .bool)])], f := fun | [⟨.slice (.int .i64), x0⟩, ⟨.slice (.pair (.int .i64) (.pair (.int .i64) (.slice (.int .u8)))), x1⟩, ⟨.slice (.int .i64), x2⟩] => .yes _ (law23_light x0 x1 x2) law23_light_mk | _ => .no }
theorem law23_light_ok : SigOk Try.prog 7 law23_light_sig := by
  refine contract_of (C := law23_light_C) (d := 3) ⟨S34_ok, noPs⟩ (callable_ex (by kernel_rfl)) ?_
  intro dvs
  unfold law23_light_sig
  dsimp only
  split
  · refine .inr ⟨_, law23_light_un, law23_light_mk, congrArg (fun o => Cl.yes _ o _) (law23_light_raw _ _ _), ?_⟩
    intro ds x h
    unfold law23_light_un at h
    split at h
    · cases h; rfl
    · cases h
  · exact .inl rfl
noncomputable def S35 : List (Nat × Sig) := (7, law23_light_sig) :: S34
theorem S35_ok : ListOk Try.prog S35 := ListOk.cons S34_ok law23_light_ok
noncomputable def law23_may_C : Cfg := { P := Try.prog, sig := lookSig S35, hb := fun _ _ => none, hr := fun _ _ => none }
noncomputable def law23_may_un : List DV → Option (Bool) := fun | [⟨.bool, r0⟩] => some r0 | _ => none
noncomputable def law23_may_mk : Bool → List DV := fun r0 => [⟨.bool, r0⟩]
theorem law23_may_ex : ∃ f : (List Int) → (List (Int × Int × (List Int))) → (List Int) → Option (Bool), f = fun (x0 : List Int) (x1 : List (Int × Int × (List Int))) (x2 : List Int) => funRun law23_may_C 3 16 [(true, [(false, .slice (.int .i64)), (false, .slice (.pair (.int .i64) (.pair (.int .i64) (.slice (.int .u8))))), (false, .slice (.int .i64))])] [(false, [(false, .bool)])] law23_may_un [⟨.slice (.int .i64), x0⟩, ⟨.slice (.pair (.int .i64) (.pair (.int .i64) (.slice (.int .u8)))), x1⟩, ⟨.slice (.int .i64), x2⟩] := ⟨_, rfl⟩
noncomputable def law23_may : (List Int) → (List (Int × Int × (List Int))) → (List Int) → Option (Bool) := law23_may_ex.choose
theorem law23_may_raw (x0 : List Int) (x1 : List (Int × Int × (List Int))) (x2 : List Int) : law23_may x0 x1 x2 = funRun law23_may_C 3 16 [(true, [(false, .slice (.int .i64)), (false, .slice (.pair (.int .i64) (.pair (.int .i64) (.slice (.int .u8))))), (false, .slice (.int .i64))])] [(false, [(false, .bool)])] law23_may_un [⟨.slice (.int .i64), x0⟩, ⟨.slice (.pair (.int .i64) (.pair (.int .i64) (.slice (.int .u8)))), x1⟩, ⟨.slice (.int .i64), x2⟩] := congrFun (congrFun (congrFun (law23_may_ex.choose_spec) x0) x1) x2
theorem law23_may_eq (x0 : List Int) (x1 : List (Int × Int × (List Int))) (x2 : List Int) : law23_may x0 x1 x2 =
  (law23_light x0 x1 x2).bind fun val0 =>
  bif val0
    then (ref23_Check x0 x1 x2).bind fun val4 =>
      some (val4 == 0)
    else some false := (law23_may_raw x0 x1 x2).trans (by kernel_rfl)
noncomputable def law23_may_sig : Sig := { pm := [(true, [(false, .slice (.int .i64)), (false, .slice (.pair (.int .i64) (.pair (.int .i64) (.slice (.int .u8))))), (false, .slice (.int .i64))])], rm := [(false, [(false, .bool)])], f := fun | [⟨.slice (.int .i64), x0⟩, ⟨.slice (.pair (.int .i64) (.pair (.int .i64) (.slice (.int .u8)))), x1⟩, ⟨.slice (.int .i64), x2⟩] => .yes _ (law23_may x0 x1 x2) law23_may_mk | _ => .no }
theorem law23_may_ok : SigOk Try.prog 16 law23_may_sig := by
  refine contract_of (C := law23_may_C) (d := 3) ⟨S35_ok, noPs⟩ (callable_ex (by kernel_rfl)) ?_
  intro dvs
  unfold law23_may_sig
  dsimp only
  split
  · refine .inr ⟨_, law23_may_un, law23_may_mk, congrArg (fun o => Cl.yes _ o _) (law23_may_raw _ _ _), ?_⟩
    intro ds x h
    unfold law23_may_un at h
    split at h
    · cases h; rfl
    · cases h
  · exact .inl rfl
noncomputable def S36 : List (Nat × Sig) := (16, law23_may_sig) :: S35
theorem S36_ok : ListOk Try.prog S36 := ListOk.cons S35_ok law23_may_ok
noncomputable def law23_works_C : Cfg := { P := Try.prog, sig := lookSig S36, hb := fun _ _ => none, hr := fun _ _ => none }
noncomputable def law23_works_un : List DV → Option (Bool) := fun | [⟨.bool, r0⟩] => some r0 | _ => none
noncomputable def law23_works_mk : Bool → List DV := fun r0 => [⟨.bool, r0⟩]
theorem law23_works_ex : ∃ f : Option (Bool), f = funRun law23_works_C 3 8 [] [(false, [(false, .bool)])] law23_works_un [] := ⟨_, rfl⟩
noncomputable def law23_works : Option (Bool) := law23_works_ex.choose
theorem law23_works_raw  : law23_works = funRun law23_works_C 3 8 [] [(false, [(false, .bool)])] law23_works_un [] := law23_works_ex.choose_spec
theorem law23_works_eq  : law23_works =
  (box_New 3).bind fun val0 =>
  (box_Send val0.1 val0.2.1 val0.2.2.1 2 [7]).bind fun val2 =>
    (box_Take val2.1 val2.2.1 val2.2.2.1 1 1).bind fun val4 =>
      (box_Take val4.1 val4.2.1 val4.2.2.1 1 1).bind fun val6 =>
        (box_Take val4.1 val4.2.1 val4.2.2.1 1 3).bind fun val8 =>
          (box_Ack val4.1 val4.2.1 val4.2.2.1 2 1).bind fun val10 =>
            (box_Put [] val4.1 val4.2.1 val4.2.2.1).bind fun val12 =>
              bif decide ((ilen val12 + ilen [9]) * 1 ≤ room)
                then (box_Read (val12 ++ [9])).bind fun val16 =>
                  (box_New 65).bind fun val18 =>
                    bif val0.2.2.2 == 0
                      then bif val2.2.2.2.2 == 0
                        then bif val2.2.2.2.1 == 1
                          then bif val4.2.2.2.1
                            then bif val4.2.2.2.2 == 0
                              then bif !val6.2.2.2.1
                                then bif val6.2.2.2.2 == 0
                                  then bif val8.2.2.2.2 == 11
                                    then bif val10.2.2.2 == 0
                                      then bif ilen val10.2.1 == 0
                                        then (box_Pending val4.1 val4.2.1 val4.2.2.1 2 5).bind fun val40 =>
                                          bif ilen val40 == 1
                                            then bif val16.2.2.2.2 == 0
                                              then bif ilen val16.2.2.2.1 == 1
                                                then (box_Same val16.1 val16.2.1 val16.2.2.1 val4.1 val4.2.1 val4.2.2.1).bind fun val48 =>
                                                  bif val48
                                                    then bif val18.2.2.2 == 2
                                                      then (box_Check val4.1 val4.2.1 val4.2.2.1).bind fun val54 =>
                                                        bif val54 == 0
                                                          then (box_Copy val4.1 val4.2.1 val4.2.2.1).bind fun val58 =>
                                                            (box_Same val4.1 val4.2.1 val4.2.2.1 val58.1 val58.2.1 val58.2.2).bind fun val60 =>
                                                              bif val60
                                                                then (box_Room val10.1 val10.2.1 val10.2.2.1).bind fun val64 =>
                                                                  some (val64 == 256)
                                                                else some false
                                                          else some false
                                                      else some false
                                                    else some false
                                                else some false
                                              else some false
                                            else some false
                                        else some false
                                      else some false
                                    else some false
                                  else some false
                                else some false
                              else some false
                            else some false
                          else some false
                        else some false
                      else some false
                else none := (law23_works_raw).trans (by kernel_rfl)
noncomputable def law23_works_sig : Sig := { pm := [], rm := [(false, [(false, .bool)])], f := fun | [] => .yes _ (law23_works) law23_works_mk | _ => .no }
theorem law23_works_ok : SigOk Try.prog 8 law23_works_sig := by
  refine contract_of (C := law23_works_C) (d := 3) ⟨S36_ok, noPs⟩ (callable_ex (by kernel_rfl)) ?_
  intro dvs
  unfold law23_works_sig
  dsimp only
  split
  · refine .inr ⟨_, law23_works_un, law23_works_mk, congrArg (fun o => Cl.yes _ o _) (law23_works_raw), ?_⟩
    intro ds x h
    unfold law23_works_un at h
    split at h
    · cases h; rfl
    · cases h
  · exact .inl rfl
noncomputable def S37 : List (Nat × Sig) := (8, law23_works_sig) :: S36
theorem S37_ok : ListOk Try.prog S37 := ListOk.cons S36_ok law23_works_ok
noncomputable def law23_seen_C : Cfg := { P := Try.prog, sig := lookSig S37, hb := fun _ _ => none, hr := fun _ _ => none }
noncomputable def law23_seen_un : List DV → Option (Int) := fun | [⟨.int .i64, r0⟩] => some r0 | _ => none
noncomputable def law23_seen_mk : Int → List DV := fun r0 => [⟨.int .i64, r0⟩]
theorem law23_seen_ex : ∃ f : (List Int) → (List (Int × Int × (List Int))) → (List Int) → Option (Int), f = fun (x0 : List Int) (x1 : List (Int × Int × (List Int))) (x2 : List Int) => funRun law23_seen_C 3 28 [(true, [(false, .slice (.int .i64)), (false, .slice (.pair (.int .i64) (.pair (.int .i64) (.slice (.int .u8))))), (false, .slice (.int .i64))])] [(false, [(false, .int .i64)])] law23_seen_un [⟨.slice (.int .i64), x0⟩, ⟨.slice (.pair (.int .i64) (.pair (.int .i64) (.slice (.int .u8)))), x1⟩, ⟨.slice (.int .i64), x2⟩] := ⟨_, rfl⟩
noncomputable def law23_seen : (List Int) → (List (Int × Int × (List Int))) → (List Int) → Option (Int) := law23_seen_ex.choose
theorem law23_seen_raw (x0 : List Int) (x1 : List (Int × Int × (List Int))) (x2 : List Int) : law23_seen x0 x1 x2 = funRun law23_seen_C 3 28 [(true, [(false, .slice (.int .i64)), (false, .slice (.pair (.int .i64) (.pair (.int .i64) (.slice (.int .u8))))), (false, .slice (.int .i64))])] [(false, [(false, .int .i64)])] law23_seen_un [⟨.slice (.int .i64), x0⟩, ⟨.slice (.pair (.int .i64) (.pair (.int .i64) (.slice (.int .u8)))), x1⟩, ⟨.slice (.int .i64), x2⟩] := congrFun (congrFun (congrFun (law23_seen_ex.choose_spec) x0) x1) x2
theorem law23_seen_eq (x0 : List Int) (x1 : List (Int × Int × (List Int))) (x2 : List Int) : law23_seen x0 x1 x2 =
  bif ilen x2 == 0
  then some (0)
  else (x2[Int.toNat 0]?).bind fun val2 =>
    some (val2) := (law23_seen_raw x0 x1 x2).trans (by kernel_rfl)
noncomputable def law23_seen_sig : Sig := { pm := [(true, [(false, .slice (.int .i64)), (false, .slice (.pair (.int .i64) (.pair (.int .i64) (.slice (.int .u8))))), (false, .slice (.int .i64))])], rm := [(false, [(false, .int .i64)])], f := fun | [⟨.slice (.int .i64), x0⟩, ⟨.slice (.pair (.int .i64) (.pair (.int .i64) (.slice (.int .u8)))), x1⟩, ⟨.slice (.int .i64), x2⟩] => .yes _ (law23_seen x0 x1 x2) law23_seen_mk | _ => .no }
theorem law23_seen_ok : SigOk Try.prog 28 law23_seen_sig := by
  refine contract_of (C := law23_seen_C) (d := 3) ⟨S37_ok, noPs⟩ (callable_ex (by kernel_rfl)) ?_
  intro dvs
  unfold law23_seen_sig
  dsimp only
  split
  · refine .inr ⟨_, law23_seen_un, law23_seen_mk, congrArg (fun o => Cl.yes _ o _) (law23_seen_raw _ _ _), ?_⟩
    intro ds x h
    unfold law23_seen_un at h
    split at h
    · cases h; rfl
    · cases h
  · exact .inl rfl
noncomputable def S38 : List (Nat × Sig) := (28, law23_seen_sig) :: S37
theorem S38_ok : ListOk Try.prog S38 := ListOk.cons S37_ok law23_seen_ok
noncomputable def law23_take_C : Cfg := { P := Try.prog, sig := lookSig S38, hb := fun _ _ => none, hr := fun _ _ => none, mv := true }
noncomputable def law23_take_un : List DV → Option ((List Int) × (List (Int × Int × (List Int))) × (List Int) × (List (List Int))) := fun | [⟨.slice (.int .i64), r0⟩, ⟨.slice (.pair (.int .i64) (.pair (.int .i64) (.slice (.int .u8)))), r1⟩, ⟨.slice (.int .i64), r2⟩, ⟨.slice (.slice (.int .u8)), r3⟩] => some (r0, r1, r2, r3) | _ => none
noncomputable def law23_take_mk : ((List Int) × (List (Int × Int × (List Int))) × (List Int) × (List (List Int))) → List DV := fun ⟨r0, r1, r2, r3⟩ => [⟨.slice (.int .i64), r0⟩, ⟨.slice (.pair (.int .i64) (.pair (.int .i64) (.slice (.int .u8)))), r1⟩, ⟨.slice (.int .i64), r2⟩, ⟨.slice (.slice (.int .u8)), r3⟩]
theorem law23_take_ex : ∃ f : (List Int) → (List (Int × Int × (List Int))) → (List Int) → (Int) → (Int) → (List Int) → (List (List Int)) → Option ((List Int) × (List (Int × Int × (List Int))) × (List Int) × (List (List Int))), f = fun (x0 : List Int) (x1 : List (Int × Int × (List Int))) (x2 : List Int) (x3 : Int) (x4 : Int) (x5 : List Int) (x6 : List (List Int)) => funRun law23_take_C 3 27 [(true, [(false, .slice (.int .i64)), (false, .slice (.pair (.int .i64) (.pair (.int .i64) (.slice (.int .u8))))), (false, .slice (.int .i64))]), (true, [(false, .int .i64), (false, .int .i64), (false, .slice (.int .u8))]), (false, [(true, .slice (.slice (.int .u8)))])] [(true, [(false, .slice (.int .i64)), (false, .slice (.pair (.int .i64) (.pair (.int .i64) (.slice (.int .u8))))), (false, .slice (.int .i64))]), (false, [(true, .slice (.slice (.int .u8)))])] law23_take_un [⟨.slice (.int .i64), x0⟩, ⟨.slice (.pair (.int .i64) (.pair (.int .i64) (.slice (.int .u8)))), x1⟩, ⟨.slice (.int .i64), x2⟩, ⟨.int .i64, x3⟩, ⟨.int .i64, x4⟩, ⟨.slice (.int .u8), x5⟩, ⟨.slice (.slice (.int .u8)), x6⟩] := ⟨_, rfl⟩
noncomputable def law23_take : (List Int) → (List (Int × Int × (List Int))) → (List Int) → (Int) → (Int) → (List Int) → (List (List Int)) → Option ((List Int) × (List (Int × Int × (List Int))) × (List Int) × (List (List Int))) := law23_take_ex.choose
theorem law23_take_raw (x0 : List Int) (x1 : List (Int × Int × (List Int))) (x2 : List Int) (x3 : Int) (x4 : Int) (x5 : List Int) (x6 : List (List Int)) : law23_take x0 x1 x2 x3 x4 x5 x6 = funRun law23_take_C 3 27 [(true, [(false, .slice (.int .i64)), (false, .slice (.pair (.int .i64) (.pair (.int .i64) (.slice (.int .u8))))), (false, .slice (.int .i64))]), (true, [(false, .int .i64), (false, .int .i64), (false, .slice (.int .u8))]), (false, [(true, .slice (.slice (.int .u8)))])] [(true, [(false, .slice (.int .i64)), (false, .slice (.pair (.int .i64) (.pair (.int .i64) (.slice (.int .u8))))), (false, .slice (.int .i64))]), (false, [(true, .slice (.slice (.int .u8)))])] law23_take_un [⟨.slice (.int .i64), x0⟩, ⟨.slice (.pair (.int .i64) (.pair (.int .i64) (.slice (.int .u8)))), x1⟩, ⟨.slice (.int .i64), x2⟩, ⟨.int .i64, x3⟩, ⟨.int .i64, x4⟩, ⟨.slice (.int .u8), x5⟩, ⟨.slice (.slice (.int .u8)), x6⟩] := congrFun (congrFun (congrFun (congrFun (congrFun (congrFun (congrFun (law23_take_ex.choose_spec) x0) x1) x2) x3) x4) x5) x6
theorem law23_take_eq (x0 : List Int) (x1 : List (Int × Int × (List Int))) (x2 : List Int) (x3 : Int) (x4 : Int) (x5 : List Int) (x6 : List (List Int)) : law23_take x0 x1 x2 x3 x4 x5 x6 =
  (box_Take x0 x1 x2 0 x4).bind fun val0 =>
  bif val0.2.2.2.2 != 0
    then some ((x0), ((x1), ((x2), (x6))))
    else bif val0.2.2.2.1
      then bif decide ((ilen x6 + ilen [x5]) * 24 ≤ room)
        then some ((val0.1), ((val0.2.1), ((val0.2.2.1), (x6 ++ [x5]))))
        else none
      else some ((val0.1), ((val0.2.1), ((val0.2.2.1), (x6)))) := (law23_take_raw x0 x1 x2 x3 x4 x5 x6).trans (by kernel_rfl)
noncomputable def law23_take_sig : Sig := { pm := [(true, [(false, .slice (.int .i64)), (false, .slice (.pair (.int .i64) (.pair (.int .i64) (.slice (.int .u8))))), (false, .slice (.int .i64))]), (true, [(false, .int .i64), (false, .int .i64), (false, .slice (.int .u8))]), (false, [(true, .slice (.slice (.int .u8)))])], rm := [(true, [(false, .slice (.int .i64)), (false, .slice (.pair (.int .i64) (.pair (.int .i64) (.slice (.int .u8))))), (false, .slice (.int .i64))]), (false, [(true, .slice (.slice (.int .u8)))])], f := fun | [⟨.slice (.int .i64), x0⟩, ⟨.slice (.pair (.int .i64) (.pair (.int .i64) (.slice (.int .u8)))), x1⟩, ⟨.slice (.int .i64), x2⟩, ⟨.int .i64, x3⟩, ⟨.int .i64, x4⟩, ⟨.slice (.int .u8), x5⟩, ⟨.slice (.slice (.int .u8)), x6⟩] => .yes _ (law23_take x0 x1 x2 x3 x4 x5 x6) law23_take_mk | _ => .no }
theorem law23_take_ok : SigOk Try.prog 27 law23_take_sig := by
  refine contract_of (C := law23_take_C) (d := 3) ⟨S38_ok, noPs⟩ (callable_ex (by kernel_rfl)) ?_
  intro dvs
  unfold law23_take_sig
  dsimp only
  split
  · refine .inr ⟨_, law23_take_un, law23_take_mk, congrArg (fun o => Cl.yes _ o _) (law23_take_raw _ _ _ _ _ _ _), ?_⟩
    intro ds x h
    unfold law23_take_un at h
    split at h
    · cases h; rfl
    · cases h
  · exact .inl rfl
noncomputable def S39 : List (Nat × Sig) := (27, law23_take_sig) :: S38
theorem S39_ok : ListOk Try.prog S39 := ListOk.cons S38_ok law23_take_ok
noncomputable def law23_begins_C : Cfg := { P := Try.prog, sig := lookSig S39, hb := fun f b => bif Nat.beq f 29 && Nat.beq b 0 then some { tmps := [0, 1, 5], obs := [], nils := [], kl := [] } else none, hr := fun _ _ => none }
noncomputable def law23_begins_un : List DV → Option (Bool) := fun | [⟨.bool, r0⟩] => some r0 | _ => none
noncomputable def law23_begins_mk : Bool → List DV := fun r0 => [⟨.bool, r0⟩]
theorem law23_begins_ex : ∃ f : (List (List Int)) → (List (List Int)) → Option (Bool), f = fun (x0 : List (List Int)) (x1 : List (List Int)) => funRun law23_begins_C 3 29 [(false, [(false, .slice (.slice (.int .u8)))]), (false, [(false, .slice (.slice (.int .u8)))])] [(false, [(false, .bool)])] law23_begins_un [⟨.slice (.slice (.int .u8)), x0⟩, ⟨.slice (.slice (.int .u8)), x1⟩] := ⟨_, rfl⟩
noncomputable def law23_begins : (List (List Int)) → (List (List Int)) → Option (Bool) := law23_begins_ex.choose
theorem law23_begins_raw (x0 : List (List Int)) (x1 : List (List Int)) : law23_begins x0 x1 = funRun law23_begins_C 3 29 [(false, [(false, .slice (.slice (.int .u8)))]), (false, [(false, .slice (.slice (.int .u8)))])] [(false, [(false, .bool)])] law23_begins_un [⟨.slice (.slice (.int .u8)), x0⟩, ⟨.slice (.slice (.int .u8)), x1⟩] := congrFun (congrFun (law23_begins_ex.choose_spec) x0) x1
noncomputable def law23_begins_l0 (y0 : List (List (Int))) (y1 : List (List (Int))) (y2 : Int) : Option (Bool) := loopAt law23_begins_C 3 29 [(false, [(false, .bool)])] law23_begins_un [true, true, false, true, false] (St.ofLists [(0, .fz ((Ty.int IntKind.u8).slice) y0 false false), (1, .fz ((Ty.int IntKind.u8).slice) y1 false false), (5, .int .i64 y2)] [] [])
theorem law23_begins_eq (x0 : List (List Int)) (x1 : List (List Int)) : law23_begins x0 x1 =
  bif decide (ilen x0 > ilen x1)
  then some false
  else law23_begins_l0 (x0) (x1) (0) := (law23_begins_raw x0 x1).trans (by kernel_rfl)
theorem law23_begins_l0_eq (y0 : List (List (Int))) (y1 : List (List (Int))) (y2 : Int) : law23_begins_l0 y0 y1 y2 =
  bif decide (y2 < ilen y0)
  then bif decide (0 ≤ y2)
    then (y0[y2.toNat]?).bind fun val4 =>
      bif decide (0 ≤ y2)
        then (y1[y2.toNat]?).bind fun val8 =>
          (ref02_Same val4 val8).bind fun val10 =>
            bif !val10
              then some false
              else law23_begins_l0 (y0) (y1) (IntKind.i64.wrap (y2 + 1))
        else none
    else none
  else some true := (loopAt_step _ _ _ _ _ _ _).trans (by kernel_rfl)
noncomputable def law23_begins_sig : Sig := { pm := [(false, [(false, .slice (.slice (.int .u8)))]), (false, [(false, .slice (.slice (.int .u8)))])], rm := [(false, [(false, .bool)])], f := fun | [⟨.slice (.slice (.int .u8)), x0⟩, ⟨.slice (.slice (.int .u8)), x1⟩] => .yes _ (law23_begins x0 x1) law23_begins_mk | _ => .no }
theorem law23_begins_ok : SigOk Try.prog 29 law23_begins_sig := by
  refine contract_of (C := law23_begins_C) (d := 3) ⟨S39_ok, noPs⟩ (callable_ex (by kernel_rfl)) ?_
  intro dvs
  unfold law23_begins_sig
  dsimp only
  split
  · refine .inr ⟨_, law23_begins_un, law23_begins_mk, congrArg (fun o => Cl.yes _ o _) (law23_begins_raw _ _), ?_⟩
    intro ds x h
    unfold law23_begins_un at h
    split at h
    · cases h; rfl
    · cases h
  · exact .inl rfl
noncomputable def S40 : List (Nat × Sig) := (29, law23_begins_sig) :: S39
theorem S40_ok : ListOk Try.prog S40 := ListOk.cons S39_ok law23_begins_ok
noncomputable def law23_BoxChecks_C : Cfg := { P := Try.prog, sig := lookSig S40, hb := fun _ _ => none, hr := fun _ _ => none }
noncomputable def law23_BoxChecks_un : List DV → Option (Bool) := fun | [⟨.bool, r0⟩] => some r0 | _ => none
noncomputable def law23_BoxChecks_mk : Bool → List DV := fun r0 => [⟨.bool, r0⟩]
theorem law23_BoxChecks_ex : ∃ f : (List Int) → (List (Int × Int × (List Int))) → (List Int) → (List Int) → (List (Int × Int × (List Int))) → (List Int) → (Int) → Option (Bool), f = fun (x0 : List Int) (x1 : List (Int × Int × (List Int))) (x2 : List Int) (x3 : List Int) (x4 : List (Int × Int × (List Int))) (x5 : List Int) (x6 : Int) => funRun law23_BoxChecks_C 3 3 [(true, [(false, .slice (.int .i64)), (false, .slice (.pair (.int .i64) (.pair (.int .i64) (.slice (.int .u8))))), (false, .slice (.int .i64))]), (true, [(false, .slice (.int .i64)), (false, .slice (.pair (.int .i64) (.pair (.int .i64) (.slice (.int .u8))))), (false, .slice (.int .i64))]), (false, [(false, .int .i64)])] [(false, [(false, .bool)])] law23_BoxChecks_un [⟨.slice (.int .i64), x0⟩, ⟨.slice (.pair (.int .i64) (.pair (.int .i64) (.slice (.int .u8)))), x1⟩, ⟨.slice (.int .i64), x2⟩, ⟨.slice (.int .i64), x3⟩, ⟨.slice (.pair (.int .i64) (.pair (.int .i64) (.slice (.int .u8)))), x4⟩, ⟨.slice (.int .i64), x5⟩, ⟨.int .i64, x6⟩] := ⟨_, rfl⟩
noncomputable def law23_BoxChecks : (List Int) → (List (Int × Int × (List Int))) → (List Int) → (List Int) → (List (Int × Int × (List Int))) → (List Int) → (Int) → Option (Bool) := law23_BoxChecks_ex.choose
theorem law23_BoxChecks_raw (x0 : List Int) (x1 : List (Int × Int × (List Int))) (x2 : List Int) (x3 : List Int) (x4 : List (Int × Int × (List Int))) (x5 : List Int) (x6 : Int) : law23_BoxChecks x0 x1 x2 x3 x4 x5 x6 = funRun law23_BoxChecks_C 3 3 [(true, [(false, .slice (.int .i64)), (false, .slice (.pair (.int .i64) (.pair (.int .i64) (.slice (.int .u8))))), (false, .slice (.int .i64))]), (true, [(false, .slice (.int .i64)), (false, .slice (.pair (.int .i64) (.pair (.int .i64) (.slice (.int .u8))))), (false, .slice (.int .i64))]), (false, [(false, .int .i64)])] [(false, [(false, .bool)])] law23_BoxChecks_un [⟨.slice (.int .i64), x0⟩, ⟨.slice (.pair (.int .i64) (.pair (.int .i64) (.slice (.int .u8)))), x1⟩, ⟨.slice (.int .i64), x2⟩, ⟨.slice (.int .i64), x3⟩, ⟨.slice (.pair (.int .i64) (.pair (.int .i64) (.slice (.int .u8)))), x4⟩, ⟨.slice (.int .i64), x5⟩, ⟨.int .i64, x6⟩] := congrFun (congrFun (congrFun (congrFun (congrFun (congrFun (congrFun (law23_BoxChecks_ex.choose_spec) x0) x1) x2) x3) x4) x5) x6
theorem law23_BoxChecks_eq (x0 : List Int) (x1 : List (Int × Int × (List Int))) (x2 : List Int) (x3 : List Int) (x4 : List (Int × Int × (List Int))) (x5 : List Int) (x6 : Int) : law23_BoxChecks x0 x1 x2 x3 x4 x5 x6 =
  (law23_light x0 x1 x2).bind fun val0 =>
  bif !val0
    then (law23_works).bind fun val4 =>
      some (val4)
    else (law23_light x3 x4 x5).bind fun val4 =>
      bif !val4
        then (law23_works).bind fun val8 =>
          some (val8)
        else (box_New x6).bind fun val8 =>
          (ref23_New x6).bind fun val10 =>
            bif val8.2.2.2 == val10.2.2.2
              then (ref23_Same val8.1 val8.2.1 val8.2.2.1 val10.1 val10.2.1 val10.2.2.1).bind fun val14 =>
                bif val14
                  then (box_Check x0 x1 x2).bind fun val18 =>
                    (ref23_Check x0 x1 x2).bind fun val20 =>
                      bif val18 == val20
                        then (box_Same x0 x1 x2 x3 x4 x5).bind fun val24 =>
                          (ref23_Same x0 x1 x2 x3 x4 x5).bind fun val26 =>
                            bif val24 == val26
                              then (box_Copy x0 x1 x2).bind fun val30 =>
                                (ref23_Same val30.1 val30.2.1 val30.2.2 x0 x1 x2).bind fun val32 =>
                                  bif val32
                                    then (law23_works).bind fun val36 =>
                                      some (val36)
                                    else some false
                              else some false
                        else some false
                  else some false
              else some false := (law23_BoxChecks_raw x0 x1 x2 x3 x4 x5 x6).trans (by kernel_rfl)
noncomputable def law23_BoxChecks_sig : Sig := { pm := [(true, [(false, .slice (.int .i64)), (false, .slice (.pair (.int .i64) (.pair (.int .i64) (.slice (.int .u8))))), (false, .slice (.int .i64))]), (true, [(false, .slice (.int .i64)), (false, .slice (.pair (.int .i64) (.pair (.int .i64) (.slice (.int .u8))))), (false, .slice (.int .i64))]), (false, [(false, .int .i64)])], rm := [(false, [(false, .bool)])], f := fun | [⟨.slice (.int .i64), x0⟩, ⟨.slice (.pair (.int .i64) (.pair (.int .i64) (.slice (.int .u8)))), x1⟩, ⟨.slice (.int .i64), x2⟩, ⟨.slice (.int .i64), x3⟩, ⟨.slice (.pair (.int .i64) (.pair (.int .i64) (.slice (.int .u8)))), x4⟩, ⟨.slice (.int .i64), x5⟩, ⟨.int .i64, x6⟩] => .yes _ (law23_BoxChecks x0 x1 x2 x3 x4 x5 x6) law23_BoxChecks_mk | _ => .no }
theorem law23_BoxChecks_ok : SigOk Try.prog 3 law23_BoxChecks_sig := by
  refine contract_of (C := law23_BoxChecks_C) (d := 3) ⟨S40_ok, noPs⟩ (callable_ex (by kernel_rfl)) ?_
  intro dvs
  unfold law23_BoxChecks_sig
  dsimp only
  split
  · refine .inr ⟨_, law23_BoxChecks_un, law23_BoxChecks_mk, congrArg (fun o => Cl.yes _ o _) (law23_BoxChecks_raw _ _ _ _ _ _ _), ?_⟩
    intro ds x h
    unfold law23_BoxChecks_un at h
    split at h
    · cases h; rfl
    · cases h
  · exact .inl rfl
noncomputable def S41 : List (Nat × Sig) := (3, law23_BoxChecks_sig) :: S40
theorem S41_ok : ListOk Try.prog S41 := ListOk.cons S40_ok law23_BoxChecks_ok
noncomputable def law23_BoxDoes_C : Cfg := { P := Try.prog, sig := lookSig S41, hb := fun _ _ => none, hr := fun _ _ => none }
noncomputable def law23_BoxDoes_un : List DV → Option (Bool) := fun | [⟨.bool, r0⟩] => some r0 | _ => none
noncomputable def law23_BoxDoes_mk : Bool → List DV := fun r0 => [⟨.bool, r0⟩]
theorem law23_BoxDoes_ex : ∃ f : (List Int) → (List (Int × Int × (List Int))) → (List Int) → (Int) → (Int) → (List Int) → (Int) → Option (Bool), f = fun (x0 : List Int) (x1 : List (Int × Int × (List Int))) (x2 : List Int) (x3 : Int) (x4 : Int) (x5 : List Int) (x6 : Int) => funRun law23_BoxDoes_C 3 4 [(true, [(false, .slice (.int .i64)), (false, .slice (.pair (.int .i64) (.pair (.int .i64) (.slice (.int .u8))))), (false, .slice (.int .i64))]), (false, [(false, .int .i64)]), (false, [(false, .int .i64)]), (false, [(false, .slice (.int .u8))]), (false, [(false, .int .i64)])] [(false, [(false, .bool)])] law23_BoxDoes_un [⟨.slice (.int .i64), x0⟩, ⟨.slice (.pair (.int .i64) (.pair (.int .i64) (.slice (.int .u8)))), x1⟩, ⟨.slice (.int .i64), x2⟩, ⟨.int .i64, x3⟩, ⟨.int .i64, x4⟩, ⟨.slice (.int .u8), x5⟩, ⟨.int .i64, x6⟩] := ⟨_, rfl⟩
noncomputable def law23_BoxDoes : (List Int) → (List (Int × Int × (List Int))) → (List Int) → (Int) → (Int) → (List Int) → (Int) → Option (Bool) := law23_BoxDoes_ex.choose
theorem law23_BoxDoes_raw (x0 : List Int) (x1 : List (Int × Int × (List Int))) (x2 : List Int) (x3 : Int) (x4 : Int) (x5 : List Int) (x6 : Int) : law23_BoxDoes x0 x1 x2 x3 x4 x5 x6 = funRun law23_BoxDoes_C 3 4 [(true, [(false, .slice (.int .i64)), (false, .slice (.pair (.int .i64) (.pair (.int .i64) (.slice (.int .u8))))), (false, .slice (.int .i64))]), (false, [(false, .int .i64)]), (false, [(false, .int .i64)]), (false, [(false, .slice (.int .u8))]), (false, [(false, .int .i64)])] [(false, [(false, .bool)])] law23_BoxDoes_un [⟨.slice (.int .i64), x0⟩, ⟨.slice (.pair (.int .i64) (.pair (.int .i64) (.slice (.int .u8)))), x1⟩, ⟨.slice (.int .i64), x2⟩, ⟨.int .i64, x3⟩, ⟨.int .i64, x4⟩, ⟨.slice (.int .u8), x5⟩, ⟨.int .i64, x6⟩] := congrFun (congrFun (congrFun (congrFun (congrFun (congrFun (congrFun (law23_BoxDoes_ex.choose_spec) x0) x1) x2) x3) x4) x5) x6
theorem law23_BoxDoes_eq (x0 : List Int) (x1 : List (Int × Int × (List Int))) (x2 : List Int) (x3 : Int) (x4 : Int) (x5 : List Int) (x6 : Int) : law23_BoxDoes x0 x1 x2 x3 x4 x5 x6 =
  (law23_may x0 x1 x2).bind fun val0 =>
  bif !val0
    then (law23_works).bind fun val4 =>
      some (val4)
    else bif decide (ilen x5 > 400)
      then (law23_works).bind fun val6 =>
        some (val6)
      else (box_Send x0 x1 x2 x3 x5).bind fun val6 =>
        (ref23_Send x0 x1 x2 x3 x5).bind fun val8 =>
          bif val6.2.2.2.2 != val8.2.2.2.2
            then some false
            else bif val6.2.2.2.1 != val8.2.2.2.1
              then some false
              else (ref23_Same val6.1 val6.2.1 val6.2.2.1 val8.1 val8.2.1 val8.2.2.1).bind fun val14 =>
                bif !val14
                  then some false
                  else (box_Room x0 x1 x2).bind fun val18 =>
                    bif val18 != IntKind.i64.wrap (256 - ilen x1)
                      then some false
                      else (box_Take x0 x1 x2 x3 x4).bind fun val22 =>
                        (ref23_Take x0 x1 x2 x3 x4).bind fun val24 =>
                          bif val22.2.2.2.2 != val24.2.2.2.2
                            then some false
                            else bif !val22.2.2.2.1 == val24.2.2.2.1
                              then some false
                              else (ref23_Same val22.1 val22.2.1 val22.2.2.1 val24.1 val24.2.1 val24.2.2.1).bind fun val30 =>
                                bif !val30
                                  then some false
                                  else (box_Ack x0 x1 x2 x3 x4).bind fun val34 =>
                                    (ref23_Ack x0 x1 x2 x3 x4).bind fun val36 =>
                                      bif val34.2.2.2 == val36.2.2.2
                                        then (ref23_Same val34.1 val34.2.1 val34.2.2.1 val36.1 val36.2.1 val36.2.2.1).bind fun val40 =>
                                          bif val40
                                            then (box_Pending x0 x1 x2 x3 x6).bind fun val44 =>
                                              (ref23_Pending x0 x1 x2 x3 x6).bind fun val46 =>
                                                (ref23_Outs val44 val46).bind fun val48 =>
                                                  bif val48
                                                    then (law23_works).bind fun val52 =>
                                                      some (val52)
                                                    else some false
                                            else some false
                                        else some false := (law23_BoxDoes_raw x0 x1 x2 x3 x4 x5 x6).trans (by kernel_rfl)
noncomputable def law23_BoxDoes_sig : Sig := { pm := [(true, [(false, .slice (.int .i64)), (false, .slice (.pair (.int .i64) (.pair (.int .i64) (.slice (.int .u8))))), (false, .slice (.int .i64))]), (false, [(false, .int .i64)]), (false, [(false, .int .i64)]), (false, [(false, .slice (.int .u8))]), (false, [(false, .int .i64)])], rm := [(false, [(false, .bool)])], f := fun | [⟨.slice (.int .i64), x0⟩, ⟨.slice (.pair (.int .i64) (.pair (.int .i64) (.slice (.int .u8)))), x1⟩, ⟨.slice (.int .i64), x2⟩, ⟨.int .i64, x3⟩, ⟨.int .i64, x4⟩, ⟨.slice (.int .u8), x5⟩, ⟨.int .i64, x6⟩] => .yes _ (law23_BoxDoes x0 x1 x2 x3 x4 x5 x6) law23_BoxDoes_mk | _ => .no }
theorem law23_BoxDoes_ok : SigOk Try.prog 4 law23_BoxDoes_sig := by
  refine contract_of (C := law23_BoxDoes_C) (d := 3) ⟨S41_ok, noPs⟩ (callable_ex (by kernel_rfl)) ?_
  intro dvs
  unfold law23_BoxDoes_sig
  dsimp only
  split
  · refine .inr ⟨_, law23_BoxDoes_un, law23_BoxDoes_mk, congrArg (fun o => Cl.yes _ o _) (law23_BoxDoes_raw _ _ _ _ _ _ _), ?_⟩
    intro ds x h
    unfold law23_BoxDoes_un at h
    split at h
    · cases h; rfl
    · cases h
  · exact .inl rfl
noncomputable def S42 : List (Nat × Sig) := (4, law23_BoxDoes_sig) :: S41
theorem S42_ok : ListOk Try.prog S42 := ListOk.cons S41_ok law23_BoxDoes_ok
noncomputable def law23_BoxStays_C : Cfg := { P := Try.prog, sig := lookSig S42, hb := fun _ _ => none, hr := fun _ _ => none }
noncomputable def law23_BoxStays_un : List DV → Option (Bool) := fun | [⟨.bool, r0⟩] => some r0 | _ => none
noncomputable def law23_BoxStays_mk : Bool → List DV := fun r0 => [⟨.bool, r0⟩]
theorem law23_BoxStays_ex : ∃ f : (List Int) → (List (Int × Int × (List Int))) → (List Int) → (Int) → (Int) → (List Int) → Option (Bool), f = fun (x0 : List Int) (x1 : List (Int × Int × (List Int))) (x2 : List Int) (x3 : Int) (x4 : Int) (x5 : List Int) => funRun law23_BoxStays_C 3 5 [(true, [(false, .slice (.int .i64)), (false, .slice (.pair (.int .i64) (.pair (.int .i64) (.slice (.int .u8))))), (false, .slice (.int .i64))]), (false, [(false, .int .i64)]), (false, [(false, .int .i64)]), (false, [(false, .slice (.int .u8))])] [(false, [(false, .bool)])] law23_BoxStays_un [⟨.slice (.int .i64), x0⟩, ⟨.slice (.pair (.int .i64) (.pair (.int .i64) (.slice (.int .u8)))), x1⟩, ⟨.slice (.int .i64), x2⟩, ⟨.int .i64, x3⟩, ⟨.int .i64, x4⟩, ⟨.slice (.int .u8), x5⟩] := ⟨_, rfl⟩
noncomputable def law23_BoxStays : (List Int) → (List (Int × Int × (List Int))) → (List Int) → (Int) → (Int) → (List Int) → Option (Bool) := law23_BoxStays_ex.choose
theorem law23_BoxStays_raw (x0 : List Int) (x1 : List (Int × Int × (List Int))) (x2 : List Int) (x3 : Int) (x4 : Int) (x5 : List Int) : law23_BoxStays x0 x1 x2 x3 x4 x5 = funRun law23_BoxStays_C 3 5 [(true, [(false, .slice (.int .i64)), (false, .slice (.pair (.int .i64) (.pair (.int .i64) (.slice (.int .u8))))), (false, .slice (.int .i64))]), (false, [(false, .int .i64)]), (false, [(false, .int .i64)]), (false, [(false, .slice (.int .u8))])] [(false, [(false, .bool)])] law23_BoxStays_un [⟨.slice (.int .i64), x0⟩, ⟨.slice (.pair (.int .i64) (.pair (.int .i64) (.slice (.int .u8)))), x1⟩, ⟨.slice (.int .i64), x2⟩, ⟨.int .i64, x3⟩, ⟨.int .i64, x4⟩, ⟨.slice (.int .u8), x5⟩] := congrFun (congrFun (congrFun (congrFun (congrFun (congrFun (law23_BoxStays_ex.choose_spec) x0) x1) x2) x3) x4) x5
theorem law23_BoxStays_eq (x0 : List Int) (x1 : List (Int × Int × (List Int))) (x2 : List Int) (x3 : Int) (x4 : Int) (x5 : List Int) : law23_BoxStays x0 x1 x2 x3 x4 x5 =
  (law23_may x0 x1 x2).bind fun val0 =>
  bif !val0
    then (law23_works).bind fun val4 =>
      some (val4)
    else bif decide (ilen x5 > 400)
      then (law23_works).bind fun val6 =>
        some (val6)
      else (box_Send x0 x1 x2 x3 x5).bind fun val6 =>
        bif val6.2.2.2.2 == 0
          then (box_Check val6.1 val6.2.1 val6.2.2.1).bind fun val10 =>
            bif val10 != 0
              then some false
              else (box_Take x0 x1 x2 x3 x4).bind fun val14 =>
                bif val14.2.2.2.2 == 0
                  then (box_Check val14.1 val14.2.1 val14.2.2.1).bind fun val18 =>
                    bif val18 != 0
                      then some false
                      else (box_Ack x0 x1 x2 x3 x4).bind fun val22 =>
                        bif val22.2.2.2 != 0
                          then (law23_works).bind fun val26 =>
                            some (val26)
                          else (box_Check val22.1 val22.2.1 val22.2.2.1).bind fun val26 =>
                            bif val26 == 0
                              then (law23_works).bind fun val30 =>
                                some (val30)
                              else some false
                  else (box_Ack x0 x1 x2 x3 x4).bind fun val18 =>
                    bif val18.2.2.2 != 0
                      then (law23_works).bind fun val22 =>
                        some (val22)
                      else (box_Check val18.1 val18.2.1 val18.2.2.1).bind fun val22 =>
                        bif val22 == 0
                          then (law23_works).bind fun val26 =>
                            some (val26)
                          else some false
          else (box_Take x0 x1 x2 x3 x4).bind fun val10 =>
            bif val10.2.2.2.2 == 0
              then (box_Check val10.1 val10.2.1 val10.2.2.1).bind fun val14 =>
                bif val14 != 0
                  then some false
                  else (box_Ack x0 x1 x2 x3 x4).bind fun val18 =>
                    bif val18.2.2.2 != 0
                      then (law23_works).bind fun val22 =>
                        some (val22)
                      else (box_Check val18.1 val18.2.1 val18.2.2.1).bind fun val22 =>
                        bif val22 == 0
                          then (law23_works).bind fun val26 =>
                            some (val26)
                          else some false
              else (box_Ack x0 x1 x2 x3 x4).bind fun val14 =>
                bif val14.2.2.2 != 0
                  then (law23_works).bind fun val18 =>
                    some (val18)
                  else (box_Check val14.1 val14.2.1 val14.2.2.1).bind fun val18 =>
                    bif val18 == 0
                      then (law23_works).bind fun val22 =>
                        some (val22)
                      else some false := (law23_BoxStays_raw x0 x1 x2 x3 x4 x5).trans (by kernel_rfl)
noncomputable def law23_BoxStays_sig : Sig := { pm := [(true, [(false, .slice (.int .i64)), (false, .slice (.pair (.int .i64) (.pair (.int .i64) (.slice (.int .u8))))), (false, .slice (.int .i64))]), (false, [(false, .int .i64)]), (false, [(false, .int .i64)]), (false, [(false, .slice (.int .u8))])], rm := [(false, [(false, .bool)])], f := fun | [⟨.slice (.int .i64), x0⟩, ⟨.slice (.pair (.int .i64) (.pair (.int .i64) (.slice (.int .u8)))), x1⟩, ⟨.slice (.int .i64), x2⟩, ⟨.int .i64, x3⟩, ⟨.int .i64, x4⟩, ⟨.slice (.int .u8), x5⟩] => .yes _ (law23_BoxStays x0 x1 x2 x3 x4 x5) law23_BoxStays_mk | _ => .no }
theorem law23_BoxStays_ok : SigOk Try.prog 5 law23_BoxStays_sig := by
  refine contract_of (C := law23_BoxStays_C) (d := 3) ⟨S42_ok, noPs⟩ (callable_ex (by kernel_rfl)) ?_
  intro dvs
  unfold law23_BoxStays_sig
  dsimp only
  split
  · refine .inr ⟨_, law23_BoxStays_un, law23_BoxStays_mk, congrArg (fun o => Cl.yes _ o _) (law23_BoxStays_raw _ _ _ _ _ _), ?_⟩
    intro ds x h
    unfold law23_BoxStays_un at h
    split at h
    · cases h; rfl
    · cases h
  · exact .inl rfl
noncomputable def S43 : List (Nat × Sig) := (5, law23_BoxStays_sig) :: S42
theorem S43_ok : ListOk Try.prog S43 := ListOk.cons S42_ok law23_BoxStays_ok
noncomputable def law23_BoxOnce_C : Cfg := { P := Try.prog, sig := lookSig S43, hb := fun f b => bif Nat.beq f 6 && Nat.beq b 0 then some { tmps := [0, 3, 5, 7, 8, 9, 10], obs := [124, 140], nils := [], kl := [140, 124] } else bif Nat.beq f 6 && Nat.beq b 2 then some { tmps := [0, 3, 5, 7, 8, 9, 11], obs := [124, 140, 60, 61, 63], nils := [(7, 60, (.slice (.int .u8))), (8, 61, (.slice (.int .u8))), (9, 62, (.int .i64)), (9, 63, (.int .i64))], kl := [140, 124, 772, 764, 204, 196, 1004, 996, 948, 236, 62, 63, 62, 61, 60, 252] } else bif Nat.beq f 6 && Nat.beq b 5 then some { tmps := [5, 7, 8, 21, 22], obs := [140, 64, 66], nils := [(7, 64, (.slice (.int .u8))), (8, 65, (.slice (.int .u8))), (8, 66, (.slice (.int .u8)))], kl := [140, 124, 772, 764, 204, 196, 1004, 996, 948, 236, 1452, 65, 66, 61, 65, 60, 64, 62, 63, 62, 61, 60, 252] } else none, hr := fun _ _ => none }
noncomputable def law23_BoxOnce_un : List DV → Option (Bool) := fun | [⟨.bool, r0⟩] => some r0 | _ => none
noncomputable def law23_BoxOnce_mk : Bool → List DV := fun r0 => [⟨.bool, r0⟩]
theorem law23_BoxOnce_ex : ∃ f : (List (Int × Int × (List Int))) → Option (Bool), f = fun (x0 : List (Int × Int × (List Int))) => funRun law23_BoxOnce_C 3 6 [(false, [(false, .slice (.pair (.int .i64) (.pair (.int .i64) (.slice (.int .u8)))))])] [(false, [(false, .bool)])] law23_BoxOnce_un [⟨.slice (.pair (.int .i64) (.pair (.int .i64) (.slice (.int .u8)))), x0⟩] := ⟨_, rfl⟩
noncomputable def law23_BoxOnce : (List (Int × Int × (List Int))) → Option (Bool) := law23_BoxOnce_ex.choose
theorem law23_BoxOnce_raw (x0 : List (Int × Int × (List Int))) : law23_BoxOnce x0 = funRun law23_BoxOnce_C 3 6 [(false, [(false, .slice (.pair (.int .i64) (.pair (.int .i64) (.slice (.int .u8)))))])] [(false, [(false, .bool)])] law23_BoxOnce_un [⟨.slice (.pair (.int .i64) (.pair (.int .i64) (.slice (.int .u8)))), x0⟩] := congrFun (law23_BoxOnce_ex.choose_spec) x0
noncomputable def law23_BoxOnce_l0 (y0 : List ((Int) × ((Int) × (List (Int))))) (y1 : Int) (y2 : List (Int)) (y3 : List ((Int) × ((Int) × (List (Int))))) (y4 : List (Int)) (y5 : List (Int)) (y6 : List ((Int) × ((Int) × (List (Int))))) (y7 : List (Int)) : Option (Bool) := loopAt law23_BoxOnce_C 3 6 [(false, [(false, .bool)])] law23_BoxOnce_un [true, true, true, true, true, true, true, false, true, false] (St.ofLists [(0, .fz ((Ty.int IntKind.i64).pair ((Ty.int IntKind.i64).pair (Ty.int IntKind.u8).slice)) y0 false false), (3, .ptr 124 0), (5, .ptr 140 0), (7, .nils), (8, .nils), (9, .nils), (10, .int .i64 y1)] [(124, some (.cells [.fz (Ty.int IntKind.i64) y2 false false, .fz ((Ty.int IntKind.i64).pair ((Ty.int IntKind.i64).pair (Ty.int IntKind.u8).slice)) y3 false false, .fz (Ty.int IntKind.i64) y4 false false])), (140, some (.cells [.fz (Ty.int IntKind.i64) y5 false false, .fz ((Ty.int IntKind.i64).pair ((Ty.int IntKind.i64).pair (Ty.int IntKind.u8).slice)) y6 false false, .fz (Ty.int IntKind.i64) y7 false false]))] [140, 124])
noncomputable def law23_BoxOnce_l2 (y0 : List ((Int) × ((Int) × (List (Int))))) (y1 : Int) (y2 : List (Int)) (y3 : List ((Int) × ((Int) × (List (Int))))) (y4 : List (Int)) (y5 : List (Int)) (y6 : List ((Int) × ((Int) × (List (Int))))) (y7 : List (Int)) (y8 : List (List (Int))) (y9 : List (List (Int))) (y10 : List (Int)) : Option (Bool) := loopAt law23_BoxOnce_C 3 6 [(false, [(false, .bool)])] law23_BoxOnce_un [true, true, true, true, true, true, true, true, false, true, false] (St.ofLists [(0, .fz ((Ty.int IntKind.i64).pair ((Ty.int IntKind.i64).pair (Ty.int IntKind.u8).slice)) y0 false false), (3, .ptr 124 0), (5, .ptr 140 0), (7, .ow 60), (8, .ow 61), (9, .ow 63), (11, .int .i64 y1)] [(124, some (.cells [.fz (Ty.int IntKind.i64) y2 false false, .fz ((Ty.int IntKind.i64).pair ((Ty.int IntKind.i64).pair (Ty.int IntKind.u8).slice)) y3 false false, .fz (Ty.int IntKind.i64) y4 false false])), (140, some (.cells [.fz (Ty.int IntKind.i64) y5 false false, .fz ((Ty.int IntKind.i64).pair ((Ty.int IntKind.i64).pair (Ty.int IntKind.u8).slice)) y6 false false, .fz (Ty.int IntKind.i64) y7 false false])), (60, some (.row ((Ty.int IntKind.u8).slice) y8 0 false)), (61, some (.row ((Ty.int IntKind.u8).slice) y9 0 false)), (63, some (.row (Ty.int IntKind.i64) y10 0 false))] [140, 124, 772, 764, 204, 196, 1004, 996, 948, 236, 62, 63, 62, 61, 60, 252])
noncomputable def law23_BoxOnce_l5 (y0 : List ((Int) × ((Int) × (List (Int))))) (y1 : Int) (y2 : List (Int)) (y3 : List ((Int) × ((Int) × (List (Int))))) (y4 : List (Int)) (y5 : List (List (Int))) (y6 : List (List (Int))) : Option (Bool) := loopAt law23_BoxOnce_C 3 6 [(false, [(false, .bool)])] law23_BoxOnce_un [true, true, true, true, true, true, true, true, true, true, false, true, false] (St.ofLists [(5, .ptr 140 0), (7, .ow 64), (8, .ow 66), (21, .fz ((Ty.int IntKind.i64).pair ((Ty.int IntKind.i64).pair (Ty.int IntKind.u8).slice)) y0 false false), (22, .int .i64 y1)] [(140, some (.cells [.fz (Ty.int IntKind.i64) y2 false false, .fz ((Ty.int IntKind.i64).pair ((Ty.int IntKind.i64).pair (Ty.int IntKind.u8).slice)) y3 false false, .fz (Ty.int IntKind.i64) y4 false false])), (64, some (.row ((Ty.int IntKind.u8).slice) y5 0 false)), (66, some (.row ((Ty.int IntKind.u8).slice) y6 0 false))] [140, 124, 772, 764, 204, 196, 1004, 996, 948, 236, 1452, 65, 66, 61, 65, 60, 64, 62, 63, 62, 61, 60, 252])
theorem law23_BoxOnce_eq (x0 : List (Int × Int × (List Int))) : law23_BoxOnce x0 =
  bif decide (ilen x0 > 200)
  then (law23_works).bind fun val2 =>
    some (val2)
  else (box_New 2).bind fun val2 =>
    (box_New 2).bind fun val4 =>
      bif val2.2.2.2 != 0
        then some false
        else bif val4.2.2.2 != 0
          then some false
          else law23_BoxOnce_l0 (x0) (0) (val2.1) (val2.2.1) (val2.2.2.1) (val4.1) (val4.2.1) (val4.2.2.1) := (law23_BoxOnce_raw x0).trans (by kernel_rfl)
theorem law23_BoxOnce_l0_eq (y0 : List ((Int) × ((Int) × (List (Int))))) (y1 : Int) (y2 : List (Int)) (y3 : List ((Int) × ((Int) × (List (Int))))) (y4 : List (Int)) (y5 : List (Int)) (y6 : List ((Int) × ((Int) × (List (Int))))) (y7 : List (Int)) : law23_BoxOnce_l0 y0 y1 y2 y3 y4 y5 y6 y7 =
  bif decide (y1 < ilen y0)
  then bif decide (0 ≤ y1)
    then (y0[y1.toNat]?).bind fun val4 =>
      bif decide (ilen val4.snd.snd > 30)
        then (law23_works).bind fun val8 =>
          some (val8)
        else law23_BoxOnce_l0 (y0) (IntKind.i64.wrap (y1 + 1)) (y2) (y3) (y4) (y5) (y6) (y7)
    else none
  else law23_BoxOnce_l2 (y0) (0) (y2) (y3) (y4) (y5) (y6) (y7) ([]) ([]) ([]) := (loopAt_step _ _ _ _ _ _ _).trans (by kernel_rfl)
theorem law23_BoxOnce_l2_eq (y0 : List ((Int) × ((Int) × (List (Int))))) (y1 : Int) (y2 : List (Int)) (y3 : List ((Int) × ((Int) × (List (Int))))) (y4 : List (Int)) (y5 : List (Int)) (y6 : List ((Int) × ((Int) × (List (Int))))) (y7 : List (Int)) (y8 : List (List (Int))) (y9 : List (List (Int))) (y10 : List (Int)) : law23_BoxOnce_l2 y0 y1 y2 y3 y4 y5 y6 y7 y8 y9 y10 =
  bif decide (y1 < ilen y0)
  then bif decide (0 ≤ y1)
    then (y0[y1.toNat]?).bind fun val4 =>
      bif val4.fst == 0
        then (box_Send y2 y3 y4 1 val4.snd.snd).bind fun val8 =>
          bif val8.2.2.2.2 == 0
            then bif decide ((ilen y8 + ilen [val4.snd.snd]) * 24 ≤ room)
              then (law23_begins y9 (y8 ++ [val4.snd.snd])).bind fun val14 =>
                bif !val14
                  then some false
                  else law23_BoxOnce_l2 (y0) (IntKind.i64.wrap (y1 + 1)) (val8.1) (val8.2.1) (val8.2.2.1) (y5) (y6) (y7) (y8 ++ [val4.snd.snd]) (y9) (y10)
              else none
            else (law23_begins y9 y8).bind fun val12 =>
              bif !val12
                then some false
                else law23_BoxOnce_l2 (y0) (IntKind.i64.wrap (y1 + 1)) (y2) (y3) (y4) (y5) (y6) (y7) (y8) (y9) (y10)
        else bif val4.fst == 1
          then (box_Pending y2 y3 y4 1 300).bind fun val10 =>
            bif decide (ilen val10 > 0)
              then bif decide (IntKind.u64.wrap (ilen val10) = 0)
                then none
                else bif decide (0 ≤ IntKind.i64.wrap ((IntKind.u64.wrap val4.snd.fst).tmod (IntKind.u64.wrap (ilen val10))))
                  then (val10[(IntKind.i64.wrap ((IntKind.u64.wrap val4.snd.fst).tmod (IntKind.u64.wrap (ilen val10)))).toNat]?).bind fun val18 =>
                    (law23_take y5 y6 y7 val18.fst val18.snd.fst val18.snd.snd y9).bind fun val20 =>
                      (law23_seen val20.1 val20.2.1 val20.2.2.1).bind fun val22 =>
                        bif decide ((ilen y10 + ilen [val22]) * 8 ≤ room)
                          then (law23_begins val20.2.2.2 y8).bind fun val26 =>
                            bif !val26
                              then some false
                              else law23_BoxOnce_l2 (y0) (IntKind.i64.wrap (y1 + 1)) (y2) (y3) (y4) (val20.1) (val20.2.1) (val20.2.2.1) (y8) (val20.2.2.2) (y10 ++ [val22])
                          else none
                  else none
              else (law23_seen y5 y6 y7).bind fun val14 =>
                bif decide ((ilen y10 + ilen [val14]) * 8 ≤ room)
                  then (law23_begins y9 y8).bind fun val18 =>
                    bif !val18
                      then some false
                      else law23_BoxOnce_l2 (y0) (IntKind.i64.wrap (y1 + 1)) (y2) (y3) (y4) (y5) (y6) (y7) (y8) (y9) (y10 ++ [val14])
                  else none
          else bif val4.fst == 2
            then (law23_seen y5 y6 y7).bind fun val12 =>
              (box_Ack y2 y3 y4 1 val12).bind fun val14 =>
                bif val14.2.2.2 == 0
                  then (law23_begins y9 y8).bind fun val18 =>
                    bif !val18
                      then some false
                      else law23_BoxOnce_l2 (y0) (IntKind.i64.wrap (y1 + 1)) (val14.1) (val14.2.1) (val14.2.2.1) (y5) (y6) (y7) (y8) (y9) (y10)
                  else (law23_begins y9 y8).bind fun val18 =>
                    bif !val18
                      then some false
                      else law23_BoxOnce_l2 (y0) (IntKind.i64.wrap (y1 + 1)) (y2) (y3) (y4) (y5) (y6) (y7) (y8) (y9) (y10)
            else bif val4.fst == 3
              then bif decide (ilen y10 > 0)
                then bif decide (IntKind.u64.wrap (ilen y10) = 0)
                  then none
                  else bif decide (0 ≤ IntKind.i64.wrap ((IntKind.u64.wrap val4.snd.fst).tmod (IntKind.u64.wrap (ilen y10))))
                    then bif decide (IntKind.i64.wrap ((IntKind.u64.wrap val4.snd.fst).tmod (IntKind.u64.wrap (ilen y10))) < ilen y10)
                      then (y10[(IntKind.i64.wrap ((IntKind.u64.wrap val4.snd.fst).tmod (IntKind.u64.wrap (ilen y10)))).toNat]?).bind fun val22 =>
                        (box_Ack y2 y3 y4 1 val22).bind fun val24 =>
                          bif val24.2.2.2 == 0
                            then (law23_begins y9 y8).bind fun val28 =>
                              bif !val28
                                then some false
                                else law23_BoxOnce_l2 (y0) (IntKind.i64.wrap (y1 + 1)) (val24.1) (val24.2.1) (val24.2.2.1) (y5) (y6) (y7) (y8) (y9) (y10)
                            else (law23_begins y9 y8).bind fun val28 =>
                              bif !val28
                                then some false
                                else law23_BoxOnce_l2 (y0) (IntKind.i64.wrap (y1 + 1)) (y2) (y3) (y4) (y5) (y6) (y7) (y8) (y9) (y10)
                      else none
                    else none
                else (law23_begins y9 y8).bind fun val16 =>
                  bif !val16
                    then some false
                    else law23_BoxOnce_l2 (y0) (IntKind.i64.wrap (y1 + 1)) (y2) (y3) (y4) (y5) (y6) (y7) (y8) (y9) (y10)
              else (law23_begins y9 y8).bind fun val14 =>
                bif !val14
                  then some false
                  else law23_BoxOnce_l2 (y0) (IntKind.i64.wrap (y1 + 1)) (y2) (y3) (y4) (y5) (y6) (y7) (y8) (y9) (y10)
    else none
  else (box_Pending y2 y3 y4 1 300).bind fun val2 =>
    law23_BoxOnce_l5 (val2) (0) (y5) (y6) (y7) (y8) (y9) := (loopAt_step _ _ _ _ _ _ _).trans (by kernel_rfl)
theorem law23_BoxOnce_l5_eq (y0 : List ((Int) × ((Int) × (List (Int))))) (y1 : Int) (y2 : List (Int)) (y3 : List ((Int) × ((Int) × (List (Int))))) (y4 : List (Int)) (y5 : List (List (Int))) (y6 : List (List (Int))) : law23_BoxOnce_l5 y0 y1 y2 y3 y4 y5 y6 =
  bif decide (y1 < ilen y0)
  then bif decide (0 ≤ y1)
    then (y0[y1.toNat]?).bind fun val4 =>
      (law23_take y2 y3 y4 val4.fst val4.snd.fst val4.snd.snd y6).bind fun val6 =>
        law23_BoxOnce_l5 (y0) (IntKind.i64.wrap (y1 + 1)) (val6.1) (val6.2.1) (val6.2.2.1) (y5) (val6.2.2.2)
    else none
  else bif ilen y6 == ilen y5
    then (law23_begins y6 y5).bind fun val4 =>
      bif val4
        then (law23_works).bind fun val8 =>
          some (val8)
        else some false
    else some false := (loopAt_step _ _ _ _ _ _ _).trans (by kernel_rfl)
noncomputable def law23_BoxOnce_sig : Sig := { pm := [(false, [(false, .slice (.pair (.int .i64) (.pair (.int .i64) (.slice (.int .u8)))))])], rm := [(false, [(false, .bool)])], f := fun | [⟨.slice (.pair (.int .i64) (.pair (.int .i64) (.slice (.int .u8)))), x0⟩] => .yes _ (law23_BoxOnce x0) law23_BoxOnce_mk | _ => .no }
theorem law23_BoxOnce_ok : SigOk Try.prog 6 law23_BoxOnce_sig := by
  refine contract_of (C := law23_BoxOnce_C) (d := 3) ⟨S43_ok, noPs⟩ (callable_ex (by kernel_rfl)) ?_
  intro dvs
  unfold law23_BoxOnce_sig
  dsimp only
  split
  · refine .inr ⟨_, law23_BoxOnce_un, law23_BoxOnce_mk, congrArg (fun o => Cl.yes _ o _) (law23_BoxOnce_raw _), ?_⟩
    intro ds x h
    unfold law23_BoxOnce_un at h
    split at h
    · cases h; rfl
    · cases h
  · exact .inl rfl
noncomputable def S44 : List (Nat × Sig) := (6, law23_BoxOnce_sig) :: S43
theorem S44_ok : ListOk Try.prog S44 := ListOk.cons S43_ok law23_BoxOnce_ok
end Go.Proofs.Ytdmfjpcobbkppaa.PE
