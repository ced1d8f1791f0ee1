import Derived.Test.YtoolkhimafjdpaaEFun
import Derived.KernelRfl
namespace Go.Proofs.Ytoolkhimafjdpaa.PE
set_option linter.unusedVariables false
open Go.Proofs
noncomputable def S0 : List (Nat × Sig) := []
theorem S0_ok : ListOk Try.prog S0 := ListOk.nil
noncomputable def compass_Point_C : Cfg := { P := Try.prog, sig := lookSig S0, hb := fun _ _ => none, hr := fun _ _ => none }
noncomputable def compass_Point_un : List DV → Option ((Int × Int)) := fun | [⟨.cpx, r0⟩] => some r0 | _ => none
noncomputable def compass_Point_mk : (Int × Int) → List DV := fun r0 => [⟨.cpx, r0⟩]
theorem compass_Point_ex : ∃ f : (Int) → Option ((Int × Int)), f = fun (x0 : Int) => funRun compass_Point_C 3 11 [(false, [(false, .int .u32)])] [(false, [(false, .cpx)])] compass_Point_un [⟨.int .u32, x0⟩] := ⟨_, rfl⟩
noncomputable def compass_Point : (Int) → Option ((Int × Int)) := compass_Point_ex.choose
theorem compass_Point_raw (x0 : Int) : compass_Point x0 = funRun compass_Point_C 3 11 [(false, [(false, .int .u32)])] [(false, [(false, .cpx)])] compass_Point_un [⟨.int .u32, x0⟩] := congrFun (compass_Point_ex.choose_spec) x0
theorem compass_Point_eq (x0 : Int) : compass_Point x0 =
  bif whole (IntKind.i16.wrap x0)
  then bif whole (IntKind.i16.wrap (x0.fdiv (2 ^ min (Int.toNat 16) IntKind.u32.bits)))
    then some ((IntKind.i16.wrap x0), (IntKind.i16.wrap (x0.fdiv (2 ^ min (Int.toNat 16) IntKind.u32.bits))))
    else none
  else none := (compass_Point_raw x0).trans (by kernel_rfl)
noncomputable def compass_Point_sig : Sig := { pm := [(false, [(false, .int .u32)])], rm := [(false, [(false, .cpx)])], f := fun | [⟨.int .u32, x0⟩] => .yes _ (compass_Point x0) compass_Point_mk | _ => .no }
theorem compass_Point_ok : SigOk Try.prog 11 compass_Point_sig := by
  refine contract_of (C := compass_Point_C) (d := 3) S0_ok (callable_ex (by kernel_rfl)) ?_
  intro dvs
  unfold compass_Point_sig
  dsimp only
  split
  · refine .inr ⟨_, compass_Point_un, compass_Point_mk, congrArg (fun o => Cl.yes _ o _) (compass_Point_raw _), ?_⟩
    intro ds x h
    unfold compass_Point_un at h
    split at h
    · cases h; rfl
    · cases h
  · exact .inl rfl
noncomputable def S1 : List (Nat × Sig) := (11, compass_Point_sig) :: S0
theorem S1_ok : ListOk Try.prog S1 := ListOk.cons S0_ok compass_Point_ok
noncomputable def compass_Turn_C : Cfg := { P := Try.prog, sig := lookSig S1, hb := fun f b => bif Nat.beq f 16 && Nat.beq b 0 then some { tmps := [0, 6, 7], obs := [], nils := [], kl := [] } else none, hr := fun _ _ => none }
noncomputable def compass_Turn_un : List DV → Option ((Int × Int)) := fun | [⟨.cpx, r0⟩] => some r0 | _ => none
noncomputable def compass_Turn_mk : (Int × Int) → List DV := fun r0 => [⟨.cpx, r0⟩]
theorem compass_Turn_ex : ∃ f : (Int × Int) → (Int) → Option ((Int × Int)), f = fun (x0 : Int × Int) (x1 : Int) => funRun compass_Turn_C 3 16 [(false, [(false, .cpx)]), (false, [(false, .int .i64)])] [(false, [(false, .cpx)])] compass_Turn_un [⟨.cpx, x0⟩, ⟨.int .i64, x1⟩] := ⟨_, rfl⟩
noncomputable def compass_Turn : (Int × Int) → (Int) → Option ((Int × Int)) := compass_Turn_ex.choose
theorem compass_Turn_raw (x0 : Int × Int) (x1 : Int) : compass_Turn x0 x1 = funRun compass_Turn_C 3 16 [(false, [(false, .cpx)]), (false, [(false, .int .i64)])] [(false, [(false, .cpx)])] compass_Turn_un [⟨.cpx, x0⟩, ⟨.int .i64, x1⟩] := congrFun (congrFun (compass_Turn_ex.choose_spec) x0) x1
noncomputable def compass_Turn_l0 (y0 : Int) (y1 : Int) (y2 : Int) (y3 : Int) : Option ((Int × Int)) := loopAt compass_Turn_C 3 16 [(false, [(false, .cpx)])] compass_Turn_un [true, false, true, false] (St.ofLists [(0, .cpx y0 y1), (6, .int .i64 y2), (7, .int .i64 y3)] [] [])
theorem compass_Turn_eq (x0 : Int × Int) (x1 : Int) : compass_Turn x0 x1 =
  compass_Turn_l0 (x0.fst) (x0.snd) (IntKind.i64.wrap ↑(BitVec.ofInt IntKind.i64.bits x1 &&& BitVec.ofInt IntKind.i64.bits 3).toNat) (0) := (compass_Turn_raw x0 x1).trans (by kernel_rfl)
theorem compass_Turn_l0_eq (y0 : Int) (y1 : Int) (y2 : Int) (y3 : Int) : compass_Turn_l0 y0 y1 y2 y3 =
  bif decide (y3 < y2)
  then bif whole (y0 * 0) && whole (y1 * 1) && whole (y0 * 0 - y1 * 1) && whole (y0 * 1) && whole (y1 * 0) && whole (y0 * 1 + y1 * 0)
    then compass_Turn_l0 (y0 * 0 - y1 * 1) (y0 * 1 + y1 * 0) (y2) (IntKind.i64.wrap (y3 + 1))
    else none
  else some ((y0), (y1)) := (loopAt_step _ _ _ _ _ _ _).trans (by kernel_rfl)
noncomputable def compass_Turn_sig : Sig := { pm := [(false, [(false, .cpx)]), (false, [(false, .int .i64)])], rm := [(false, [(false, .cpx)])], f := fun | [⟨.cpx, x0⟩, ⟨.int .i64, x1⟩] => .yes _ (compass_Turn x0 x1) compass_Turn_mk | _ => .no }
theorem compass_Turn_ok : SigOk Try.prog 16 compass_Turn_sig := by
  refine contract_of (C := compass_Turn_C) (d := 3) S1_ok (callable_ex (by kernel_rfl)) ?_
  intro dvs
  unfold compass_Turn_sig
  dsimp only
  split
  · refine .inr ⟨_, compass_Turn_un, compass_Turn_mk, congrArg (fun o => Cl.yes _ o _) (compass_Turn_raw _ _), ?_⟩
    intro ds x h
    unfold compass_Turn_un at h
    split at h
    · cases h; rfl
    · cases h
  · exact .inl rfl
noncomputable def S2 : List (Nat × Sig) := (16, compass_Turn_sig) :: S1
theorem S2_ok : ListOk Try.prog S2 := ListOk.cons S1_ok compass_Turn_ok
noncomputable def compass_Quarter_C : Cfg := { P := Try.prog, sig := lookSig S2, hb := fun _ _ => none, hr := fun _ _ => none, un := fun f b => bif Nat.beq f 17 && Nat.beq b 0 then 5 else 0 }
noncomputable def compass_Quarter_un : List DV → Option (Int) := fun | [⟨.int .i64, r0⟩] => some r0 | _ => none
noncomputable def compass_Quarter_mk : Int → List DV := fun r0 => [⟨.int .i64, r0⟩]
theorem compass_Quarter_ex : ∃ f : (Int × Int) → Option (Int), f = fun (x0 : Int × Int) => funRun compass_Quarter_C 3 17 [(false, [(false, .cpx)])] [(false, [(false, .int .i64)])] compass_Quarter_un [⟨.cpx, x0⟩] := ⟨_, rfl⟩
noncomputable def compass_Quarter : (Int × Int) → Option (Int) := compass_Quarter_ex.choose
theorem compass_Quarter_raw (x0 : Int × Int) : compass_Quarter x0 = funRun compass_Quarter_C 3 17 [(false, [(false, .cpx)])] [(false, [(false, .int .i64)])] compass_Quarter_un [⟨.cpx, x0⟩] := congrFun (compass_Quarter_ex.choose_spec) x0
theorem compass_Quarter_eq (x0 : Int × Int) : compass_Quarter x0 =
  (compass_Turn x0 (IntKind.i64.wrap (0 - 0))).bind fun val0 =>
  bif decide (0 < val0.fst)
    then bif decide (0 ≤ val0.snd)
      then some (0)
      else (compass_Turn x0 (IntKind.i64.wrap (0 - IntKind.i64.wrap (0 + 1)))).bind fun val6 =>
        bif decide (0 < val6.fst)
          then bif decide (0 ≤ val6.snd)
            then some (IntKind.i64.wrap (0 + 1))
            else (compass_Turn x0 (IntKind.i64.wrap (0 - IntKind.i64.wrap (IntKind.i64.wrap (0 + 1) + 1)))).bind fun val12 =>
              bif decide (0 < val12.fst)
                then bif decide (0 ≤ val12.snd)
                  then some (IntKind.i64.wrap (IntKind.i64.wrap (0 + 1) + 1))
                  else (compass_Turn x0 (IntKind.i64.wrap (0 - IntKind.i64.wrap (IntKind.i64.wrap (IntKind.i64.wrap (0 + 1) + 1) + 1)))).bind fun val18 =>
                    bif decide (0 < val18.fst)
                      then bif decide (0 ≤ val18.snd)
                        then some (IntKind.i64.wrap (IntKind.i64.wrap (IntKind.i64.wrap (0 + 1) + 1) + 1))
                        else some (0)
                      else some (0)
                else (compass_Turn x0 (IntKind.i64.wrap (0 - IntKind.i64.wrap (IntKind.i64.wrap (IntKind.i64.wrap (0 + 1) + 1) + 1)))).bind fun val16 =>
                  bif decide (0 < val16.fst)
                    then bif decide (0 ≤ val16.snd)
                      then some (IntKind.i64.wrap (IntKind.i64.wrap (IntKind.i64.wrap (0 + 1) + 1) + 1))
                      else some (0)
                    else some (0)
          else (compass_Turn x0 (IntKind.i64.wrap (0 - IntKind.i64.wrap (IntKind.i64.wrap (0 + 1) + 1)))).bind fun val10 =>
            bif decide (0 < val10.fst)
              then bif decide (0 ≤ val10.snd)
                then some (IntKind.i64.wrap (IntKind.i64.wrap (0 + 1) + 1))
                else (compass_Turn x0 (IntKind.i64.wrap (0 - IntKind.i64.wrap (IntKind.i64.wrap (IntKind.i64.wrap (0 + 1) + 1) + 1)))).bind fun val16 =>
                  bif decide (0 < val16.fst)
                    then bif decide (0 ≤ val16.snd)
                      then some (IntKind.i64.wrap (IntKind.i64.wrap (IntKind.i64.wrap (0 + 1) + 1) + 1))
                      else some (0)
                    else some (0)
              else (compass_Turn x0 (IntKind.i64.wrap (0 - IntKind.i64.wrap (IntKind.i64.wrap (IntKind.i64.wrap (0 + 1) + 1) + 1)))).bind fun val14 =>
                bif decide (0 < val14.fst)
                  then bif decide (0 ≤ val14.snd)
                    then some (IntKind.i64.wrap (IntKind.i64.wrap (IntKind.i64.wrap (0 + 1) + 1) + 1))
                    else some (0)
                  else some (0)
    else (compass_Turn x0 (IntKind.i64.wrap (0 - IntKind.i64.wrap (0 + 1)))).bind fun val4 =>
      bif decide (0 < val4.fst)
        then bif decide (0 ≤ val4.snd)
          then some (IntKind.i64.wrap (0 + 1))
          else (compass_Turn x0 (IntKind.i64.wrap (0 - IntKind.i64.wrap (IntKind.i64.wrap (0 + 1) + 1)))).bind fun val10 =>
            bif decide (0 < val10.fst)
              then bif decide (0 ≤ val10.snd)
                then some (IntKind.i64.wrap (IntKind.i64.wrap (0 + 1) + 1))
                else (compass_Turn x0 (IntKind.i64.wrap (0 - IntKind.i64.wrap (IntKind.i64.wrap (IntKind.i64.wrap (0 + 1) + 1) + 1)))).bind fun val16 =>
                  bif decide (0 < val16.fst)
                    then bif decide (0 ≤ val16.snd)
                      then some (IntKind.i64.wrap (IntKind.i64.wrap (IntKind.i64.wrap (0 + 1) + 1) + 1))
                      else some (0)
                    else some (0)
              else (compass_Turn x0 (IntKind.i64.wrap (0 - IntKind.i64.wrap (IntKind.i64.wrap (IntKind.i64.wrap (0 + 1) + 1) + 1)))).bind fun val14 =>
                bif decide (0 < val14.fst)
                  then bif decide (0 ≤ val14.snd)
                    then some (IntKind.i64.wrap (IntKind.i64.wrap (IntKind.i64.wrap (0 + 1) + 1) + 1))
                    else some (0)
                  else some (0)
        else (compass_Turn x0 (IntKind.i64.wrap (0 - IntKind.i64.wrap (IntKind.i64.wrap (0 + 1) + 1)))).bind fun val8 =>
          bif decide (0 < val8.fst)
            then bif decide (0 ≤ val8.snd)
              then some (IntKind.i64.wrap (IntKind.i64.wrap (0 + 1) + 1))
              else (compass_Turn x0 (IntKind.i64.wrap (0 - IntKind.i64.wrap (IntKind.i64.wrap (IntKind.i64.wrap (0 + 1) + 1) + 1)))).bind fun val14 =>
                bif decide (0 < val14.fst)
                  then bif decide (0 ≤ val14.snd)
                    then some (IntKind.i64.wrap (IntKind.i64.wrap (IntKind.i64.wrap (0 + 1) + 1) + 1))
                    else some (0)
                  else some (0)
            else (compass_Turn x0 (IntKind.i64.wrap (0 - IntKind.i64.wrap (IntKind.i64.wrap (IntKind.i64.wrap (0 + 1) + 1) + 1)))).bind fun val12 =>
              bif decide (0 < val12.fst)
                then bif decide (0 ≤ val12.snd)
                  then some (IntKind.i64.wrap (IntKind.i64.wrap (IntKind.i64.wrap (0 + 1) + 1) + 1))
                  else some (0)
                else some (0) := (compass_Quarter_raw x0).trans (by kernel_rfl)
noncomputable def compass_Quarter_sig : Sig := { pm := [(false, [(false, .cpx)])], rm := [(false, [(false, .int .i64)])], f := fun | [⟨.cpx, x0⟩] => .yes _ (compass_Quarter x0) compass_Quarter_mk | _ => .no }
theorem compass_Quarter_ok : SigOk Try.prog 17 compass_Quarter_sig := by
  refine contract_of (C := compass_Quarter_C) (d := 3) S2_ok (callable_ex (by kernel_rfl)) ?_
  intro dvs
  unfold compass_Quarter_sig
  dsimp only
  split
  · refine .inr ⟨_, compass_Quarter_un, compass_Quarter_mk, congrArg (fun o => Cl.yes _ o _) (compass_Quarter_raw _), ?_⟩
    intro ds x h
    unfold compass_Quarter_un at h
    split at h
    · cases h; rfl
    · cases h
  · exact .inl rfl
noncomputable def S3 : List (Nat × Sig) := (17, compass_Quarter_sig) :: S2
theorem S3_ok : ListOk Try.prog S3 := ListOk.cons S2_ok compass_Quarter_ok
noncomputable def compass_Norm_C : Cfg := { P := Try.prog, sig := lookSig S3, hb := fun _ _ => none, hr := fun _ _ => none }
noncomputable def compass_Norm_un : List DV → Option (Int) := fun | [⟨.int .i64, r0⟩] => some r0 | _ => none
noncomputable def compass_Norm_mk : Int → List DV := fun r0 => [⟨.int .i64, r0⟩]
theorem compass_Norm_ex : ∃ f : (Int × Int) → Option (Int), f = fun (x0 : Int × Int) => funRun compass_Norm_C 3 19 [(false, [(false, .cpx)])] [(false, [(false, .int .i64)])] compass_Norm_un [⟨.cpx, x0⟩] := ⟨_, rfl⟩
noncomputable def compass_Norm : (Int × Int) → Option (Int) := compass_Norm_ex.choose
theorem compass_Norm_raw (x0 : Int × Int) : compass_Norm x0 = funRun compass_Norm_C 3 19 [(false, [(false, .cpx)])] [(false, [(false, .int .i64)])] compass_Norm_un [⟨.cpx, x0⟩] := congrFun (compass_Norm_ex.choose_spec) x0
theorem compass_Norm_eq (x0 : Int × Int) : compass_Norm x0 =
  bif whole (x0.fst * x0.fst) && whole (x0.snd * -x0.snd) && whole (x0.fst * x0.fst - x0.snd * -x0.snd) && whole (x0.fst * -x0.snd) && whole (x0.snd * x0.fst) && whole (x0.fst * -x0.snd + x0.snd * x0.fst)
  then bif decide (IntKind.i64.min ≤ x0.fst * x0.fst - x0.snd * -x0.snd) && decide (x0.fst * x0.fst - x0.snd * -x0.snd ≤ IntKind.i64.max)
    then some (x0.fst * x0.fst - x0.snd * -x0.snd)
    else none
  else none := (compass_Norm_raw x0).trans (by kernel_rfl)
noncomputable def compass_Norm_sig : Sig := { pm := [(false, [(false, .cpx)])], rm := [(false, [(false, .int .i64)])], f := fun | [⟨.cpx, x0⟩] => .yes _ (compass_Norm x0) compass_Norm_mk | _ => .no }
theorem compass_Norm_ok : SigOk Try.prog 19 compass_Norm_sig := by
  refine contract_of (C := compass_Norm_C) (d := 3) S3_ok (callable_ex (by kernel_rfl)) ?_
  intro dvs
  unfold compass_Norm_sig
  dsimp only
  split
  · refine .inr ⟨_, compass_Norm_un, compass_Norm_mk, congrArg (fun o => Cl.yes _ o _) (compass_Norm_raw _), ?_⟩
    intro ds x h
    unfold compass_Norm_un at h
    split at h
    · cases h; rfl
    · cases h
  · exact .inl rfl
noncomputable def S4 : List (Nat × Sig) := (19, compass_Norm_sig) :: S3
theorem S4_ok : ListOk Try.prog S4 := ListOk.cons S3_ok compass_Norm_ok
noncomputable def compass_Part_C : Cfg := { P := Try.prog, sig := lookSig S4, hb := fun _ _ => none, hr := fun _ _ => none }
noncomputable def compass_Part_un : List DV → Option (Int × Int) := fun | [⟨.int .i64, r0⟩, ⟨.int .i64, r1⟩] => some (r0, r1) | _ => none
noncomputable def compass_Part_mk : (Int × Int) → List DV := fun ⟨r0, r1⟩ => [⟨.int .i64, r0⟩, ⟨.int .i64, r1⟩]
theorem compass_Part_ex : ∃ f : (Int × Int) → (Int) → Option (Int × Int), f = fun (x0 : Int × Int) (x1 : Int) => funRun compass_Part_C 3 21 [(false, [(false, .cpx)]), (false, [(false, .int .i64)])] [(false, [(false, .int .i64)]), (false, [(false, .int .i64)])] compass_Part_un [⟨.cpx, x0⟩, ⟨.int .i64, x1⟩] := ⟨_, rfl⟩
noncomputable def compass_Part : (Int × Int) → (Int) → Option (Int × Int) := compass_Part_ex.choose
theorem compass_Part_raw (x0 : Int × Int) (x1 : Int) : compass_Part x0 x1 = funRun compass_Part_C 3 21 [(false, [(false, .cpx)]), (false, [(false, .int .i64)])] [(false, [(false, .int .i64)]), (false, [(false, .int .i64)])] compass_Part_un [⟨.cpx, x0⟩, ⟨.int .i64, x1⟩] := congrFun (congrFun (compass_Part_ex.choose_spec) x0) x1
theorem compass_Part_eq (x0 : Int × Int) (x1 : Int) : compass_Part x0 x1 =
  bif decide (x1 < 1)
  then some ((0), (2))
  else bif decide (x1 > 64)
    then some ((0), (2))
    else (compass_Quarter x0).bind fun val4 =>
      (compass_Turn x0 (IntKind.i64.wrap (0 - val4))).bind fun val6 =>
        bif decide (IntKind.i64.min ≤ val6.fst) && decide (val6.fst ≤ IntKind.i64.max)
          then bif decide (IntKind.i64.min ≤ val6.snd) && decide (val6.snd ≤ IntKind.i64.max)
            then bif IntKind.i64.wrap (val6.fst + val6.snd) == 0
              then some ((0), (0))
              else bif decide (IntKind.i64.wrap (4 * IntKind.i64.wrap (val6.fst + val6.snd)) = 0)
                then none
                else some ((IntKind.i64.wrap ((IntKind.i64.wrap (IntKind.i64.wrap (IntKind.i64.wrap (val4 * IntKind.i64.wrap (val6.fst + val6.snd)) + val6.snd) * x1)).tdiv (IntKind.i64.wrap (4 * IntKind.i64.wrap (val6.fst + val6.snd))))), (0))
            else none
          else none := (compass_Part_raw x0 x1).trans (by kernel_rfl)
noncomputable def compass_Part_sig : Sig := { pm := [(false, [(false, .cpx)]), (false, [(false, .int .i64)])], rm := [(false, [(false, .int .i64)]), (false, [(false, .int .i64)])], f := fun | [⟨.cpx, x0⟩, ⟨.int .i64, x1⟩] => .yes _ (compass_Part x0 x1) compass_Part_mk | _ => .no }
theorem compass_Part_ok : SigOk Try.prog 21 compass_Part_sig := by
  refine contract_of (C := compass_Part_C) (d := 3) S4_ok (callable_ex (by kernel_rfl)) ?_
  intro dvs
  unfold compass_Part_sig
  dsimp only
  split
  · refine .inr ⟨_, compass_Part_un, compass_Part_mk, congrArg (fun o => Cl.yes _ o _) (compass_Part_raw _ _), ?_⟩
    intro ds x h
    unfold compass_Part_un at h
    split at h
    · cases h; rfl
    · cases h
  · exact .inl rfl
noncomputable def S5 : List (Nat × Sig) := (21, compass_Part_sig) :: S4
theorem S5_ok : ListOk Try.prog S5 := ListOk.cons S4_ok compass_Part_ok
noncomputable def compass_Key_C : Cfg := { P := Try.prog, sig := lookSig S5, hb := fun f b => bif Nat.beq f 12 && Nat.beq b 0 then some { tmps := [3, 7, 8, 9], obs := [156], nils := [], kl := [156] } else none, hr := fun _ _ => none }
noncomputable def compass_Key_un : List DV → Option (Int) := fun | [⟨.int .u32, r0⟩] => some r0 | _ => none
noncomputable def compass_Key_mk : Int → List DV := fun r0 => [⟨.int .u32, r0⟩]
theorem compass_Key_ex : ∃ f : (ByteArray) → Option (Int), f = fun (x0 : ByteArray) => funRun compass_Key_C 3 12 [(false, [(false, .str)])] [(false, [(false, .int .u32)])] compass_Key_un [⟨.str, x0⟩] := ⟨_, rfl⟩
noncomputable def compass_Key : (ByteArray) → Option (Int) := compass_Key_ex.choose
theorem compass_Key_raw (x0 : ByteArray) : compass_Key x0 = funRun compass_Key_C 3 12 [(false, [(false, .str)])] [(false, [(false, .int .u32)])] compass_Key_un [⟨.str, x0⟩] := congrFun (compass_Key_ex.choose_spec) x0
noncomputable def compass_Key_l0 (y0 : Int) (y1 : Int) (y2 : Int) (y3 : List (Int)) : Option (Int) := loopAt compass_Key_C 3 12 [(false, [(false, .int .u32)])] compass_Key_un [true, true, false, true, false] (St.ofLists [(3, .int .u32 y0), (7, .ow 156), (8, .int .i64 y1), (9, .int .i64 y2)] [(156, some (.row (Ty.int IntKind.u8) y3 0 false))] [156])
theorem compass_Key_eq (x0 : ByteArray) : compass_Key x0 =
  compass_Key_l0 (2166136261) (ilen (bytesList x0)) (0) (bytesList x0) := (compass_Key_raw x0).trans (by kernel_rfl)
theorem compass_Key_l0_eq (y0 : Int) (y1 : Int) (y2 : Int) (y3 : List (Int)) : compass_Key_l0 y0 y1 y2 y3 =
  bif decide (y2 < y1)
  then bif decide (0 ≤ y2)
    then bif decide (y2 < ilen y3)
      then (y3[y2.toNat]?).bind fun val6 =>
        compass_Key_l0 (IntKind.u32.wrap (IntKind.u32.wrap ↑(BitVec.ofInt IntKind.u32.bits y0 ^^^ BitVec.ofInt IntKind.u32.bits (IntKind.u32.wrap val6)).toNat * 16777619)) (y1) (IntKind.i64.wrap (y2 + 1)) (y3)
      else none
    else none
  else some (y0) := (loopAt_step _ _ _ _ _ _ _).trans (by kernel_rfl)
noncomputable def compass_Key_sig : Sig := { pm := [(false, [(false, .str)])], rm := [(false, [(false, .int .u32)])], f := fun | [⟨.str, x0⟩] => .yes _ (compass_Key x0) compass_Key_mk | _ => .no }
theorem compass_Key_ok : SigOk Try.prog 12 compass_Key_sig := by
  refine contract_of (C := compass_Key_C) (d := 3) S5_ok (callable_ex (by kernel_rfl)) ?_
  intro dvs
  unfold compass_Key_sig
  dsimp only
  split
  · refine .inr ⟨_, compass_Key_un, compass_Key_mk, congrArg (fun o => Cl.yes _ o _) (compass_Key_raw _), ?_⟩
    intro ds x h
    unfold compass_Key_un at h
    split at h
    · cases h; rfl
    · cases h
  · exact .inl rfl
noncomputable def S6 : List (Nat × Sig) := (12, compass_Key_sig) :: S5
theorem S6_ok : ListOk Try.prog S6 := ListOk.cons S5_ok compass_Key_ok
noncomputable def compass_Route_C : Cfg := { P := Try.prog, sig := lookSig S6, hb := fun _ _ => none, hr := fun _ _ => none }
noncomputable def compass_Route_un : List DV → Option (Int × Int) := fun | [⟨.int .i64, r0⟩, ⟨.int .i64, r1⟩] => some (r0, r1) | _ => none
noncomputable def compass_Route_mk : (Int × Int) → List DV := fun ⟨r0, r1⟩ => [⟨.int .i64, r0⟩, ⟨.int .i64, r1⟩]
theorem compass_Route_ex : ∃ f : (ByteArray) → (Int) → Option (Int × Int), f = fun (x0 : ByteArray) (x1 : Int) => funRun compass_Route_C 3 23 [(false, [(false, .str)]), (false, [(false, .int .i64)])] [(false, [(false, .int .i64)]), (false, [(false, .int .i64)])] compass_Route_un [⟨.str, x0⟩, ⟨.int .i64, x1⟩] := ⟨_, rfl⟩
noncomputable def compass_Route : (ByteArray) → (Int) → Option (Int × Int) := compass_Route_ex.choose
theorem compass_Route_raw (x0 : ByteArray) (x1 : Int) : compass_Route x0 x1 = funRun compass_Route_C 3 23 [(false, [(false, .str)]), (false, [(false, .int .i64)])] [(false, [(false, .int .i64)]), (false, [(false, .int .i64)])] compass_Route_un [⟨.str, x0⟩, ⟨.int .i64, x1⟩] := congrFun (congrFun (compass_Route_ex.choose_spec) x0) x1
theorem compass_Route_eq (x0 : ByteArray) (x1 : Int) : compass_Route x0 x1 =
  (compass_Key x0).bind fun val0 =>
  (compass_Point val0).bind fun val2 =>
    (compass_Part val2 x1).bind fun val4 =>
      some ((val4.1), (val4.2)) := (compass_Route_raw x0 x1).trans (by kernel_rfl)
noncomputable def compass_Route_sig : Sig := { pm := [(false, [(false, .str)]), (false, [(false, .int .i64)])], rm := [(false, [(false, .int .i64)]), (false, [(false, .int .i64)])], f := fun | [⟨.str, x0⟩, ⟨.int .i64, x1⟩] => .yes _ (compass_Route x0 x1) compass_Route_mk | _ => .no }
theorem compass_Route_ok : SigOk Try.prog 23 compass_Route_sig := by
  refine contract_of (C := compass_Route_C) (d := 3) S6_ok (callable_ex (by kernel_rfl)) ?_
  intro dvs
  unfold compass_Route_sig
  dsimp only
  split
  · refine .inr ⟨_, compass_Route_un, compass_Route_mk, congrArg (fun o => Cl.yes _ o _) (compass_Route_raw _ _), ?_⟩
    intro ds x h
    unfold compass_Route_un at h
    split at h
    · cases h; rfl
    · cases h
  · exact .inl rfl
noncomputable def S7 : List (Nat × Sig) := (23, compass_Route_sig) :: S6
theorem S7_ok : ListOk Try.prog S7 := ListOk.cons S6_ok compass_Route_ok
noncomputable def ref03_Parts_C : Cfg := { P := Try.prog, sig := lookSig S7, hb := fun _ _ => none, hr := fun _ _ => none }
noncomputable def ref03_Parts_un : List DV → Option (Int × Int) := fun | [⟨.int .i64, r0⟩, ⟨.int .i64, r1⟩] => some (r0, r1) | _ => none
noncomputable def ref03_Parts_mk : (Int × Int) → List DV := fun ⟨r0, r1⟩ => [⟨.int .i64, r0⟩, ⟨.int .i64, r1⟩]
theorem ref03_Parts_ex : ∃ f : (Int) → Option (Int × Int), f = fun (x0 : Int) => funRun ref03_Parts_C 3 10 [(false, [(false, .int .u32)])] [(false, [(false, .int .i64)]), (false, [(false, .int .i64)])] ref03_Parts_un [⟨.int .u32, x0⟩] := ⟨_, rfl⟩
noncomputable def ref03_Parts : (Int) → Option (Int × Int) := ref03_Parts_ex.choose
theorem ref03_Parts_raw (x0 : Int) : ref03_Parts x0 = funRun ref03_Parts_C 3 10 [(false, [(false, .int .u32)])] [(false, [(false, .int .i64)]), (false, [(false, .int .i64)])] ref03_Parts_un [⟨.int .u32, x0⟩] := congrFun (ref03_Parts_ex.choose_spec) x0
theorem ref03_Parts_eq (x0 : Int) : ref03_Parts x0 =
  bif decide (IntKind.i64.wrap (x0.tmod 65536) ≥ 32768)
  then bif decide (IntKind.i64.wrap (IntKind.u32.wrap (x0.tdiv 65536)) ≥ 32768)
    then some ((IntKind.i64.wrap (IntKind.i64.wrap (x0.tmod 65536) - 65536)), (IntKind.i64.wrap (IntKind.i64.wrap (IntKind.u32.wrap (x0.tdiv 65536)) - 65536)))
    else some ((IntKind.i64.wrap (IntKind.i64.wrap (x0.tmod 65536) - 65536)), (IntKind.i64.wrap (IntKind.u32.wrap (x0.tdiv 65536))))
  else bif decide (IntKind.i64.wrap (IntKind.u32.wrap (x0.tdiv 65536)) ≥ 32768)
    then some ((IntKind.i64.wrap (x0.tmod 65536)), (IntKind.i64.wrap (IntKind.i64.wrap (IntKind.u32.wrap (x0.tdiv 65536)) - 65536)))
    else some ((IntKind.i64.wrap (x0.tmod 65536)), (IntKind.i64.wrap (IntKind.u32.wrap (x0.tdiv 65536)))) := (ref03_Parts_raw x0).trans (by kernel_rfl)
noncomputable def ref03_Parts_sig : Sig := { pm := [(false, [(false, .int .u32)])], rm := [(false, [(false, .int .i64)]), (false, [(false, .int .i64)])], f := fun | [⟨.int .u32, x0⟩] => .yes _ (ref03_Parts x0) ref03_Parts_mk | _ => .no }
theorem ref03_Parts_ok : SigOk Try.prog 10 ref03_Parts_sig := by
  refine contract_of (C := ref03_Parts_C) (d := 3) S7_ok (callable_ex (by kernel_rfl)) ?_
  intro dvs
  unfold ref03_Parts_sig
  dsimp only
  split
  · refine .inr ⟨_, ref03_Parts_un, ref03_Parts_mk, congrArg (fun o => Cl.yes _ o _) (ref03_Parts_raw _), ?_⟩
    intro ds x h
    unfold ref03_Parts_un at h
    split at h
    · cases h; rfl
    · cases h
  · exact .inl rfl
noncomputable def S8 : List (Nat × Sig) := (10, ref03_Parts_sig) :: S7
theorem S8_ok : ListOk Try.prog S8 := ListOk.cons S7_ok ref03_Parts_ok
noncomputable def ref03_Turn_C : Cfg := { P := Try.prog, sig := lookSig S8, hb := fun _ _ => none, hr := fun _ _ => none }
noncomputable def ref03_Turn_un : List DV → Option (Int × Int) := fun | [⟨.int .i64, r0⟩, ⟨.int .i64, r1⟩] => some (r0, r1) | _ => none
noncomputable def ref03_Turn_mk : (Int × Int) → List DV := fun ⟨r0, r1⟩ => [⟨.int .i64, r0⟩, ⟨.int .i64, r1⟩]
theorem ref03_Turn_ex : ∃ f : (Int) → (Int) → (Int) → Option (Int × Int), f = fun (x0 : Int) (x1 : Int) (x2 : Int) => funRun ref03_Turn_C 3 14 [(false, [(false, .int .i64)]), (false, [(false, .int .i64)]), (false, [(false, .int .i64)])] [(false, [(false, .int .i64)]), (false, [(false, .int .i64)])] ref03_Turn_un [⟨.int .i64, x0⟩, ⟨.int .i64, x1⟩, ⟨.int .i64, x2⟩] := ⟨_, rfl⟩
noncomputable def ref03_Turn : (Int) → (Int) → (Int) → Option (Int × Int) := ref03_Turn_ex.choose
theorem ref03_Turn_raw (x0 : Int) (x1 : Int) (x2 : Int) : ref03_Turn x0 x1 x2 = funRun ref03_Turn_C 3 14 [(false, [(false, .int .i64)]), (false, [(false, .int .i64)]), (false, [(false, .int .i64)])] [(false, [(false, .int .i64)]), (false, [(false, .int .i64)])] ref03_Turn_un [⟨.int .i64, x0⟩, ⟨.int .i64, x1⟩, ⟨.int .i64, x2⟩] := congrFun (congrFun (congrFun (ref03_Turn_ex.choose_spec) x0) x1) x2
theorem ref03_Turn_eq (x0 : Int) (x1 : Int) (x2 : Int) : ref03_Turn x0 x1 x2 =
  bif (IntKind.i64.wrap (x2.tmod 4 + 4)).tmod 4 == 1
  then some ((IntKind.i64.wrap (0 - x1)), (x0))
  else bif (IntKind.i64.wrap (x2.tmod 4 + 4)).tmod 4 == 2
    then some ((IntKind.i64.wrap (0 - x0)), (IntKind.i64.wrap (0 - x1)))
    else bif (IntKind.i64.wrap (x2.tmod 4 + 4)).tmod 4 == 3
      then some ((x1), (IntKind.i64.wrap (0 - x0)))
      else some ((x0), (x1)) := (ref03_Turn_raw x0 x1 x2).trans (by kernel_rfl)
noncomputable def ref03_Turn_sig : Sig := { pm := [(false, [(false, .int .i64)]), (false, [(false, .int .i64)]), (false, [(false, .int .i64)])], rm := [(false, [(false, .int .i64)]), (false, [(false, .int .i64)])], f := fun | [⟨.int .i64, x0⟩, ⟨.int .i64, x1⟩, ⟨.int .i64, x2⟩] => .yes _ (ref03_Turn x0 x1 x2) ref03_Turn_mk | _ => .no }
theorem ref03_Turn_ok : SigOk Try.prog 14 ref03_Turn_sig := by
  refine contract_of (C := ref03_Turn_C) (d := 3) S8_ok (callable_ex (by kernel_rfl)) ?_
  intro dvs
  unfold ref03_Turn_sig
  dsimp only
  split
  · refine .inr ⟨_, ref03_Turn_un, ref03_Turn_mk, congrArg (fun o => Cl.yes _ o _) (ref03_Turn_raw _ _ _), ?_⟩
    intro ds x h
    unfold ref03_Turn_un at h
    split at h
    · cases h; rfl
    · cases h
  · exact .inl rfl
noncomputable def S9 : List (Nat × Sig) := (14, ref03_Turn_sig) :: S8
theorem S9_ok : ListOk Try.prog S9 := ListOk.cons S8_ok ref03_Turn_ok
noncomputable def ref03_Quarter_C : Cfg := { P := Try.prog, sig := lookSig S9, hb := fun _ _ => none, hr := fun _ _ => none }
noncomputable def ref03_Quarter_un : List DV → Option (Int) := fun | [⟨.int .i64, r0⟩] => some r0 | _ => none
noncomputable def ref03_Quarter_mk : Int → List DV := fun r0 => [⟨.int .i64, r0⟩]
theorem ref03_Quarter_ex : ∃ f : (Int) → (Int) → Option (Int), f = fun (x0 : Int) (x1 : Int) => funRun ref03_Quarter_C 3 18 [(false, [(false, .int .i64)]), (false, [(false, .int .i64)])] [(false, [(false, .int .i64)])] ref03_Quarter_un [⟨.int .i64, x0⟩, ⟨.int .i64, x1⟩] := ⟨_, rfl⟩
noncomputable def ref03_Quarter : (Int) → (Int) → Option (Int) := ref03_Quarter_ex.choose
theorem ref03_Quarter_raw (x0 : Int) (x1 : Int) : ref03_Quarter x0 x1 = funRun ref03_Quarter_C 3 18 [(false, [(false, .int .i64)]), (false, [(false, .int .i64)])] [(false, [(false, .int .i64)])] ref03_Quarter_un [⟨.int .i64, x0⟩, ⟨.int .i64, x1⟩] := congrFun (congrFun (ref03_Quarter_ex.choose_spec) x0) x1
theorem ref03_Quarter_eq (x0 : Int) (x1 : Int) : ref03_Quarter x0 x1 =
  bif decide (x0 > 0)
  then bif decide (x1 ≥ 0)
    then some (0)
    else bif decide (x1 > 0)
      then bif decide (x0 ≤ 0)
        then some (1)
        else bif decide (x0 < 0)
          then bif decide (x1 ≤ 0)
            then some (2)
            else bif decide (x1 < 0)
              then bif decide (x0 ≥ 0)
                then some (3)
                else some (0)
              else some (0)
          else bif decide (x1 < 0)
            then bif decide (x0 ≥ 0)
              then some (3)
              else some (0)
            else some (0)
      else bif decide (x0 < 0)
        then bif decide (x1 ≤ 0)
          then some (2)
          else bif decide (x1 < 0)
            then bif decide (x0 ≥ 0)
              then some (3)
              else some (0)
            else some (0)
        else bif decide (x1 < 0)
          then bif decide (x0 ≥ 0)
            then some (3)
            else some (0)
          else some (0)
  else bif decide (x1 > 0)
    then bif decide (x0 ≤ 0)
      then some (1)
      else bif decide (x0 < 0)
        then bif decide (x1 ≤ 0)
          then some (2)
          else bif decide (x1 < 0)
            then bif decide (x0 ≥ 0)
              then some (3)
              else some (0)
            else some (0)
        else bif decide (x1 < 0)
          then bif decide (x0 ≥ 0)
            then some (3)
            else some (0)
          else some (0)
    else bif decide (x0 < 0)
      then bif decide (x1 ≤ 0)
        then some (2)
        else bif decide (x1 < 0)
          then bif decide (x0 ≥ 0)
            then some (3)
            else some (0)
          else some (0)
      else bif decide (x1 < 0)
        then bif decide (x0 ≥ 0)
          then some (3)
          else some (0)
        else some (0) := (ref03_Quarter_raw x0 x1).trans (by kernel_rfl)
noncomputable def ref03_Quarter_sig : Sig := { pm := [(false, [(false, .int .i64)]), (false, [(false, .int .i64)])], rm := [(false, [(false, .int .i64)])], f := fun | [⟨.int .i64, x0⟩, ⟨.int .i64, x1⟩] => .yes _ (ref03_Quarter x0 x1) ref03_Quarter_mk | _ => .no }
theorem ref03_Quarter_ok : SigOk Try.prog 18 ref03_Quarter_sig := by
  refine contract_of (C := ref03_Quarter_C) (d := 3) S9_ok (callable_ex (by kernel_rfl)) ?_
  intro dvs
  unfold ref03_Quarter_sig
  dsimp only
  split
  · refine .inr ⟨_, ref03_Quarter_un, ref03_Quarter_mk, congrArg (fun o => Cl.yes _ o _) (ref03_Quarter_raw _ _), ?_⟩
    intro ds x h
    unfold ref03_Quarter_un at h
    split at h
    · cases h; rfl
    · cases h
  · exact .inl rfl
noncomputable def S10 : List (Nat × Sig) := (18, ref03_Quarter_sig) :: S9
theorem S10_ok : ListOk Try.prog S10 := ListOk.cons S9_ok ref03_Quarter_ok
noncomputable def ref03_Norm_C : Cfg := { P := Try.prog, sig := lookSig S10, hb := fun _ _ => none, hr := fun _ _ => none }
noncomputable def ref03_Norm_un : List DV → Option (Int) := fun | [⟨.int .i64, r0⟩] => some r0 | _ => none
noncomputable def ref03_Norm_mk : Int → List DV := fun r0 => [⟨.int .i64, r0⟩]
theorem ref03_Norm_ex : ∃ f : (Int) → (Int) → Option (Int), f = fun (x0 : Int) (x1 : Int) => funRun ref03_Norm_C 3 20 [(false, [(false, .int .i64)]), (false, [(false, .int .i64)])] [(false, [(false, .int .i64)])] ref03_Norm_un [⟨.int .i64, x0⟩, ⟨.int .i64, x1⟩] := ⟨_, rfl⟩
noncomputable def ref03_Norm : (Int) → (Int) → Option (Int) := ref03_Norm_ex.choose
theorem ref03_Norm_raw (x0 : Int) (x1 : Int) : ref03_Norm x0 x1 = funRun ref03_Norm_C 3 20 [(false, [(false, .int .i64)]), (false, [(false, .int .i64)])] [(false, [(false, .int .i64)])] ref03_Norm_un [⟨.int .i64, x0⟩, ⟨.int .i64, x1⟩] := congrFun (congrFun (ref03_Norm_ex.choose_spec) x0) x1
theorem ref03_Norm_eq (x0 : Int) (x1 : Int) : ref03_Norm x0 x1 =
  some (IntKind.i64.wrap (IntKind.i64.wrap (x0 * x0) + IntKind.i64.wrap (x1 * x1))) := (ref03_Norm_raw x0 x1).trans (by kernel_rfl)
noncomputable def ref03_Norm_sig : Sig := { pm := [(false, [(false, .int .i64)]), (false, [(false, .int .i64)])], rm := [(false, [(false, .int .i64)])], f := fun | [⟨.int .i64, x0⟩, ⟨.int .i64, x1⟩] => .yes _ (ref03_Norm x0 x1) ref03_Norm_mk | _ => .no }
theorem ref03_Norm_ok : SigOk Try.prog 20 ref03_Norm_sig := by
  refine contract_of (C := ref03_Norm_C) (d := 3) S10_ok (callable_ex (by kernel_rfl)) ?_
  intro dvs
  unfold ref03_Norm_sig
  dsimp only
  split
  · refine .inr ⟨_, ref03_Norm_un, ref03_Norm_mk, congrArg (fun o => Cl.yes _ o _) (ref03_Norm_raw _ _), ?_⟩
    intro ds x h
    unfold ref03_Norm_un at h
    split at h
    · cases h; rfl
    · cases h
  · exact .inl rfl
noncomputable def S11 : List (Nat × Sig) := (20, ref03_Norm_sig) :: S10
theorem S11_ok : ListOk Try.prog S11 := ListOk.cons S10_ok ref03_Norm_ok
noncomputable def ref03_Part_C : Cfg := { P := Try.prog, sig := lookSig S11, hb := fun f b => bif Nat.beq f 22 && Nat.beq b 0 then some { tmps := [2, 8, 9, 10, 11], obs := [], nils := [], kl := [] } else none, hr := fun _ _ => none }
noncomputable def ref03_Part_un : List DV → Option (Int × Int) := fun | [⟨.int .i64, r0⟩, ⟨.int .i64, r1⟩] => some (r0, r1) | _ => none
noncomputable def ref03_Part_mk : (Int × Int) → List DV := fun ⟨r0, r1⟩ => [⟨.int .i64, r0⟩, ⟨.int .i64, r1⟩]
theorem ref03_Part_ex : ∃ f : (Int) → (Int) → (Int) → Option (Int × Int), f = fun (x0 : Int) (x1 : Int) (x2 : Int) => funRun ref03_Part_C 3 22 [(false, [(false, .int .i64)]), (false, [(false, .int .i64)]), (false, [(false, .int .i64)])] [(false, [(false, .int .i64)]), (false, [(false, .int .i64)])] ref03_Part_un [⟨.int .i64, x0⟩, ⟨.int .i64, x1⟩, ⟨.int .i64, x2⟩] := ⟨_, rfl⟩
noncomputable def ref03_Part : (Int) → (Int) → (Int) → Option (Int × Int) := ref03_Part_ex.choose
theorem ref03_Part_raw (x0 : Int) (x1 : Int) (x2 : Int) : ref03_Part x0 x1 x2 = funRun ref03_Part_C 3 22 [(false, [(false, .int .i64)]), (false, [(false, .int .i64)]), (false, [(false, .int .i64)])] [(false, [(false, .int .i64)]), (false, [(false, .int .i64)])] ref03_Part_un [⟨.int .i64, x0⟩, ⟨.int .i64, x1⟩, ⟨.int .i64, x2⟩] := congrFun (congrFun (congrFun (ref03_Part_ex.choose_spec) x0) x1) x2
noncomputable def ref03_Part_l0 (y0 : Int) (y1 : Int) (y2 : Int) (y3 : Int) (y4 : Int) : Option (Int × Int) := loopAt ref03_Part_C 3 22 [(false, [(false, .int .i64)]), (false, [(false, .int .i64)])] ref03_Part_un [true, true, true, true, true, false, true, false] (St.ofLists [(2, .int .i64 y0), (8, .int .i64 y1), (9, .int .i64 y2), (10, .int .i64 y3), (11, .int .i64 y4)] [] [])
theorem ref03_Part_eq (x0 : Int) (x1 : Int) (x2 : Int) : ref03_Part x0 x1 x2 =
  bif decide (x2 < 1)
  then some ((0), (2))
  else bif decide (x2 > 64)
    then some ((0), (2))
    else bif x0 == 0
      then bif x1 == 0
        then some ((0), (0))
        else (ref03_Quarter x0 x1).bind fun val8 =>
          (ref03_Turn x0 x1 (IntKind.i64.wrap (0 - val8))).bind fun val10 =>
            ref03_Part_l0 (x2) (val8) (val10.1) (val10.2) (IntKind.i64.wrap (x2 - 1))
      else (ref03_Quarter x0 x1).bind fun val6 =>
        (ref03_Turn x0 x1 (IntKind.i64.wrap (0 - val6))).bind fun val8 =>
          ref03_Part_l0 (x2) (val6) (val8.1) (val8.2) (IntKind.i64.wrap (x2 - 1)) := (ref03_Part_raw x0 x1 x2).trans (by kernel_rfl)
theorem ref03_Part_l0_eq (y0 : Int) (y1 : Int) (y2 : Int) (y3 : Int) (y4 : Int) : ref03_Part_l0 y0 y1 y2 y3 y4 =
  bif decide (y4 > 0)
  then bif decide (IntKind.i64.wrap (IntKind.i64.wrap (4 * y4) * IntKind.i64.wrap (y2 + y3)) ≤ IntKind.i64.wrap (y0 * IntKind.i64.wrap (IntKind.i64.wrap (y1 * IntKind.i64.wrap (y2 + y3)) + y3)))
    then some ((y4), (0))
    else ref03_Part_l0 (y0) (y1) (y2) (y3) (IntKind.i64.wrap (y4 - 1))
  else some ((0), (0)) := (loopAt_step _ _ _ _ _ _ _).trans (by kernel_rfl)
noncomputable def ref03_Part_sig : Sig := { pm := [(false, [(false, .int .i64)]), (false, [(false, .int .i64)]), (false, [(false, .int .i64)])], rm := [(false, [(false, .int .i64)]), (false, [(false, .int .i64)])], f := fun | [⟨.int .i64, x0⟩, ⟨.int .i64, x1⟩, ⟨.int .i64, x2⟩] => .yes _ (ref03_Part x0 x1 x2) ref03_Part_mk | _ => .no }
theorem ref03_Part_ok : SigOk Try.prog 22 ref03_Part_sig := by
  refine contract_of (C := ref03_Part_C) (d := 3) S11_ok (callable_ex (by kernel_rfl)) ?_
  intro dvs
  unfold ref03_Part_sig
  dsimp only
  split
  · refine .inr ⟨_, ref03_Part_un, ref03_Part_mk, congrArg (fun o => Cl.yes _ o _) (ref03_Part_raw _ _ _), ?_⟩
    intro ds x h
    unfold ref03_Part_un at h
    split at h
    · cases h; rfl
    · cases h
  · exact .inl rfl
noncomputable def S12 : List (Nat × Sig) := (22, ref03_Part_sig) :: S11
theorem S12_ok : ListOk Try.prog S12 := ListOk.cons S11_ok ref03_Part_ok
noncomputable def ref03_Key_C : Cfg := { P := Try.prog, sig := lookSig S12, hb := fun f b => bif Nat.beq f 13 && Nat.beq b 0 then some { tmps := [0, 3, 4], obs := [], nils := [], kl := [] } else none, hr := fun _ _ => none }
noncomputable def ref03_Key_un : List DV → Option (Int) := fun | [⟨.int .u32, r0⟩] => some r0 | _ => none
noncomputable def ref03_Key_mk : Int → List DV := fun r0 => [⟨.int .u32, r0⟩]
theorem ref03_Key_ex : ∃ f : (ByteArray) → Option (Int), f = fun (x0 : ByteArray) => funRun ref03_Key_C 3 13 [(false, [(false, .str)])] [(false, [(false, .int .u32)])] ref03_Key_un [⟨.str, x0⟩] := ⟨_, rfl⟩
noncomputable def ref03_Key : (ByteArray) → Option (Int) := ref03_Key_ex.choose
theorem ref03_Key_raw (x0 : ByteArray) : ref03_Key x0 = funRun ref03_Key_C 3 13 [(false, [(false, .str)])] [(false, [(false, .int .u32)])] ref03_Key_un [⟨.str, x0⟩] := congrFun (ref03_Key_ex.choose_spec) x0
noncomputable def ref03_Key_l0 (y0 : ByteArray) (y1 : Int) (y2 : Int) : Option (Int) := loopAt ref03_Key_C 3 13 [(false, [(false, .int .u32)])] ref03_Key_un [true, true, false, true, false] (St.ofLists [(0, .str y0), (3, .int .u64 y1), (4, .int .i64 y2)] [] [])
theorem ref03_Key_eq (x0 : ByteArray) : ref03_Key x0 =
  ref03_Key_l0 (x0) (2166136261) (0) := (ref03_Key_raw x0).trans (by kernel_rfl)
theorem ref03_Key_l0_eq (y0 : ByteArray) (y1 : Int) (y2 : Int) : ref03_Key_l0 y0 y1 y2 =
  bif decide (y2 < isize y0)
  then bif decide (0 ≤ y2)
    then (y0.data[y2.toNat]?).bind fun val4 =>
      ref03_Key_l0 (y0) ((IntKind.u64.wrap (IntKind.u64.wrap (IntKind.u64.wrap (y1 - y1.tmod 256) + IntKind.u64.wrap ↑(BitVec.ofInt IntKind.u64.bits (y1.tmod 256) ^^^ BitVec.ofInt IntKind.u64.bits (IntKind.u64.wrap (val4.toNat : Int))).toNat) * 16777619)).tmod 4294967296) (IntKind.i64.wrap (y2 + 1))
    else none
  else some (IntKind.u32.wrap y1) := (loopAt_step _ _ _ _ _ _ _).trans (by kernel_rfl)
noncomputable def ref03_Key_sig : Sig := { pm := [(false, [(false, .str)])], rm := [(false, [(false, .int .u32)])], f := fun | [⟨.str, x0⟩] => .yes _ (ref03_Key x0) ref03_Key_mk | _ => .no }
theorem ref03_Key_ok : SigOk Try.prog 13 ref03_Key_sig := by
  refine contract_of (C := ref03_Key_C) (d := 3) S12_ok (callable_ex (by kernel_rfl)) ?_
  intro dvs
  unfold ref03_Key_sig
  dsimp only
  split
  · refine .inr ⟨_, ref03_Key_un, ref03_Key_mk, congrArg (fun o => Cl.yes _ o _) (ref03_Key_raw _), ?_⟩
    intro ds x h
    unfold ref03_Key_un at h
    split at h
    · cases h; rfl
    · cases h
  · exact .inl rfl
noncomputable def S13 : List (Nat × Sig) := (13, ref03_Key_sig) :: S12
theorem S13_ok : ListOk Try.prog S13 := ListOk.cons S12_ok ref03_Key_ok
noncomputable def ref03_Route_C : Cfg := { P := Try.prog, sig := lookSig S13, hb := fun _ _ => none, hr := fun _ _ => none }
noncomputable def ref03_Route_un : List DV → Option (Int × Int) := fun | [⟨.int .i64, r0⟩, ⟨.int .i64, r1⟩] => some (r0, r1) | _ => none
noncomputable def ref03_Route_mk : (Int × Int) → List DV := fun ⟨r0, r1⟩ => [⟨.int .i64, r0⟩, ⟨.int .i64, r1⟩]
theorem ref03_Route_ex : ∃ f : (ByteArray) → (Int) → Option (Int × Int), f = fun (x0 : ByteArray) (x1 : Int) => funRun ref03_Route_C 3 24 [(false, [(false, .str)]), (false, [(false, .int .i64)])] [(false, [(false, .int .i64)]), (false, [(false, .int .i64)])] ref03_Route_un [⟨.str, x0⟩, ⟨.int .i64, x1⟩] := ⟨_, rfl⟩
noncomputable def ref03_Route : (ByteArray) → (Int) → Option (Int × Int) := ref03_Route_ex.choose
theorem ref03_Route_raw (x0 : ByteArray) (x1 : Int) : ref03_Route x0 x1 = funRun ref03_Route_C 3 24 [(false, [(false, .str)]), (false, [(false, .int .i64)])] [(false, [(false, .int .i64)]), (false, [(false, .int .i64)])] ref03_Route_un [⟨.str, x0⟩, ⟨.int .i64, x1⟩] := congrFun (congrFun (ref03_Route_ex.choose_spec) x0) x1
theorem ref03_Route_eq (x0 : ByteArray) (x1 : Int) : ref03_Route x0 x1 =
  (ref03_Key x0).bind fun val0 =>
  (ref03_Parts val0).bind fun val2 =>
    (ref03_Part val2.1 val2.2 x1).bind fun val4 =>
      some ((val4.1), (val4.2)) := (ref03_Route_raw x0 x1).trans (by kernel_rfl)
noncomputable def ref03_Route_sig : Sig := { pm := [(false, [(false, .str)]), (false, [(false, .int .i64)])], rm := [(false, [(false, .int .i64)]), (false, [(false, .int .i64)])], f := fun | [⟨.str, x0⟩, ⟨.int .i64, x1⟩] => .yes _ (ref03_Route x0 x1) ref03_Route_mk | _ => .no }
theorem ref03_Route_ok : SigOk Try.prog 24 ref03_Route_sig := by
  refine contract_of (C := ref03_Route_C) (d := 3) S13_ok (callable_ex (by kernel_rfl)) ?_
  intro dvs
  unfold ref03_Route_sig
  dsimp only
  split
  · refine .inr ⟨_, ref03_Route_un, ref03_Route_mk, congrArg (fun o => Cl.yes _ o _) (ref03_Route_raw _ _), ?_⟩
    intro ds x h
    unfold ref03_Route_un at h
    split at h
    · cases h; rfl
    · cases h
  · exact .inl rfl
noncomputable def S14 : List (Nat × Sig) := (24, ref03_Route_sig) :: S13
theorem S14_ok : ListOk Try.prog S14 := ListOk.cons S13_ok ref03_Route_ok
noncomputable def law03_at_C : Cfg := { P := Try.prog, sig := lookSig S14, hb := fun _ _ => none, hr := fun _ _ => none }
noncomputable def law03_at_un : List DV → Option ((Int × Int)) := fun | [⟨.cpx, r0⟩] => some r0 | _ => none
noncomputable def law03_at_mk : (Int × Int) → List DV := fun r0 => [⟨.cpx, r0⟩]
theorem law03_at_ex : ∃ f : (Int) → (Int) → Option ((Int × Int)), f = fun (x0 : Int) (x1 : Int) => funRun law03_at_C 3 15 [(false, [(false, .int .i16)]), (false, [(false, .int .i16)])] [(false, [(false, .cpx)])] law03_at_un [⟨.int .i16, x0⟩, ⟨.int .i16, x1⟩] := ⟨_, rfl⟩
noncomputable def law03_at : (Int) → (Int) → Option ((Int × Int)) := law03_at_ex.choose
theorem law03_at_raw (x0 : Int) (x1 : Int) : law03_at x0 x1 = funRun law03_at_C 3 15 [(false, [(false, .int .i16)]), (false, [(false, .int .i16)])] [(false, [(false, .cpx)])] law03_at_un [⟨.int .i16, x0⟩, ⟨.int .i16, x1⟩] := congrFun (congrFun (law03_at_ex.choose_spec) x0) x1
theorem law03_at_eq (x0 : Int) (x1 : Int) : law03_at x0 x1 =
  bif whole x0
  then bif whole x1
    then some ((x0), (x1))
    else none
  else none := (law03_at_raw x0 x1).trans (by kernel_rfl)
noncomputable def law03_at_sig : Sig := { pm := [(false, [(false, .int .i16)]), (false, [(false, .int .i16)])], rm := [(false, [(false, .cpx)])], f := fun | [⟨.int .i16, x0⟩, ⟨.int .i16, x1⟩] => .yes _ (law03_at x0 x1) law03_at_mk | _ => .no }
theorem law03_at_ok : SigOk Try.prog 15 law03_at_sig := by
  refine contract_of (C := law03_at_C) (d := 3) S14_ok (callable_ex (by kernel_rfl)) ?_
  intro dvs
  unfold law03_at_sig
  dsimp only
  split
  · refine .inr ⟨_, law03_at_un, law03_at_mk, congrArg (fun o => Cl.yes _ o _) (law03_at_raw _ _), ?_⟩
    intro ds x h
    unfold law03_at_un at h
    split at h
    · cases h; rfl
    · cases h
  · exact .inl rfl
noncomputable def S15 : List (Nat × Sig) := (15, law03_at_sig) :: S14
theorem S15_ok : ListOk Try.prog S15 := ListOk.cons S14_ok law03_at_ok
noncomputable def law03_works_C : Cfg := { P := Try.prog, sig := lookSig S15, hb := fun _ _ => none, hr := fun _ _ => none }
noncomputable def law03_works_un : List DV → Option (Bool) := fun | [⟨.bool, r0⟩] => some r0 | _ => none
noncomputable def law03_works_mk : Bool → List DV := fun r0 => [⟨.bool, r0⟩]
theorem law03_works_ex : ∃ f : Option (Bool), f = funRun law03_works_C 3 9 [] [(false, [(false, .bool)])] law03_works_un [] := ⟨_, rfl⟩
noncomputable def law03_works : Option (Bool) := law03_works_ex.choose
theorem law03_works_raw  : law03_works = funRun law03_works_C 3 9 [] [(false, [(false, .bool)])] law03_works_un [] := law03_works_ex.choose_spec
theorem law03_works_eq  : law03_works =
  (compass_Part (1, 1) 8).bind fun val0 =>
  (compass_Part (1, 0) 0).bind fun val2 =>
    (compass_Route (⟨#[97]⟩ : ByteArray) 64).bind fun val4 =>
      bif val0.1 == 1
        then bif val0.2 == 0
          then bif val2.2 == 2
            then bif decide (val4.1 ≥ 0)
              then bif val4.2 == 0
                then (compass_Turn (2, 1) 1).bind fun val16 =>
                  bif decide (val16.fst = -1) && decide (val16.snd = 2)
                    then (compass_Quarter (-1, 0)).bind fun val20 =>
                      bif val20 == 2
                        then (compass_Norm (3, 4)).bind fun val24 =>
                          bif val24 == 25
                            then (compass_Key (⟨#[97]⟩ : ByteArray)).bind fun val28 =>
                              some (val28 == 3826002220)
                            else some false
                        else some false
                    else some false
                else some false
              else some false
            else some false
          else some false
        else some false := (law03_works_raw).trans (by kernel_rfl)
noncomputable def law03_works_sig : Sig := { pm := [], rm := [(false, [(false, .bool)])], f := fun | [] => .yes _ (law03_works) law03_works_mk | _ => .no }
theorem law03_works_ok : SigOk Try.prog 9 law03_works_sig := by
  refine contract_of (C := law03_works_C) (d := 3) S15_ok (callable_ex (by kernel_rfl)) ?_
  intro dvs
  unfold law03_works_sig
  dsimp only
  split
  · refine .inr ⟨_, law03_works_un, law03_works_mk, congrArg (fun o => Cl.yes _ o _) (law03_works_raw), ?_⟩
    intro ds x h
    unfold law03_works_un at h
    split at h
    · cases h; rfl
    · cases h
  · exact .inl rfl
noncomputable def S16 : List (Nat × Sig) := (9, law03_works_sig) :: S15
theorem S16_ok : ListOk Try.prog S16 := ListOk.cons S15_ok law03_works_ok
noncomputable def law03_CompassPoints_C : Cfg := { P := Try.prog, sig := lookSig S16, hb := fun _ _ => none, hr := fun _ _ => none }
noncomputable def law03_CompassPoints_un : List DV → Option (Bool) := fun | [⟨.bool, r0⟩] => some r0 | _ => none
noncomputable def law03_CompassPoints_mk : Bool → List DV := fun r0 => [⟨.bool, r0⟩]
theorem law03_CompassPoints_ex : ∃ f : (Int) → (ByteArray) → Option (Bool), f = fun (x0 : Int) (x1 : ByteArray) => funRun law03_CompassPoints_C 3 3 [(false, [(false, .int .u32)]), (false, [(false, .str)])] [(false, [(false, .bool)])] law03_CompassPoints_un [⟨.int .u32, x0⟩, ⟨.str, x1⟩] := ⟨_, rfl⟩
noncomputable def law03_CompassPoints : (Int) → (ByteArray) → Option (Bool) := law03_CompassPoints_ex.choose
theorem law03_CompassPoints_raw (x0 : Int) (x1 : ByteArray) : law03_CompassPoints x0 x1 = funRun law03_CompassPoints_C 3 3 [(false, [(false, .int .u32)]), (false, [(false, .str)])] [(false, [(false, .bool)])] law03_CompassPoints_un [⟨.int .u32, x0⟩, ⟨.str, x1⟩] := congrFun (congrFun (law03_CompassPoints_ex.choose_spec) x0) x1
theorem law03_CompassPoints_eq (x0 : Int) (x1 : ByteArray) : law03_CompassPoints x0 x1 =
  bif decide (isize x1 > 5000)
  then (law03_works).bind fun val2 =>
    some (val2)
  else (ref03_Parts x0).bind fun val2 =>
    (compass_Point x0).bind fun val4 =>
      bif whole val2.1
        then bif whole val2.2
          then bif decide (val4.fst = val2.1) && decide (val4.snd = val2.2)
            then (compass_Key x1).bind fun val12 =>
              (ref03_Key x1).bind fun val14 =>
                bif val12 == val14
                  then (law03_works).bind fun val18 =>
                    some (val18)
                  else some false
            else some false
          else none
        else none := (law03_CompassPoints_raw x0 x1).trans (by kernel_rfl)
noncomputable def law03_CompassPoints_sig : Sig := { pm := [(false, [(false, .int .u32)]), (false, [(false, .str)])], rm := [(false, [(false, .bool)])], f := fun | [⟨.int .u32, x0⟩, ⟨.str, x1⟩] => .yes _ (law03_CompassPoints x0 x1) law03_CompassPoints_mk | _ => .no }
theorem law03_CompassPoints_ok : SigOk Try.prog 3 law03_CompassPoints_sig := by
  refine contract_of (C := law03_CompassPoints_C) (d := 3) S16_ok (callable_ex (by kernel_rfl)) ?_
  intro dvs
  unfold law03_CompassPoints_sig
  dsimp only
  split
  · refine .inr ⟨_, law03_CompassPoints_un, law03_CompassPoints_mk, congrArg (fun o => Cl.yes _ o _) (law03_CompassPoints_raw _ _), ?_⟩
    intro ds x h
    unfold law03_CompassPoints_un at h
    split at h
    · cases h; rfl
    · cases h
  · exact .inl rfl
noncomputable def S17 : List (Nat × Sig) := (3, law03_CompassPoints_sig) :: S16
theorem S17_ok : ListOk Try.prog S17 := ListOk.cons S16_ok law03_CompassPoints_ok
noncomputable def law03_CompassTurns_C : Cfg := { P := Try.prog, sig := lookSig S17, hb := fun _ _ => none, hr := fun _ _ => none }
noncomputable def law03_CompassTurns_un : List DV → Option (Bool) := fun | [⟨.bool, r0⟩] => some r0 | _ => none
noncomputable def law03_CompassTurns_mk : Bool → List DV := fun r0 => [⟨.bool, r0⟩]
theorem law03_CompassTurns_ex : ∃ f : (Int) → (Int) → (Int) → Option (Bool), f = fun (x0 : Int) (x1 : Int) (x2 : Int) => funRun law03_CompassTurns_C 3 4 [(false, [(false, .int .i16)]), (false, [(false, .int .i16)]), (false, [(false, .int .i64)])] [(false, [(false, .bool)])] law03_CompassTurns_un [⟨.int .i16, x0⟩, ⟨.int .i16, x1⟩, ⟨.int .i64, x2⟩] := ⟨_, rfl⟩
noncomputable def law03_CompassTurns : (Int) → (Int) → (Int) → Option (Bool) := law03_CompassTurns_ex.choose
theorem law03_CompassTurns_raw (x0 : Int) (x1 : Int) (x2 : Int) : law03_CompassTurns x0 x1 x2 = funRun law03_CompassTurns_C 3 4 [(false, [(false, .int .i16)]), (false, [(false, .int .i16)]), (false, [(false, .int .i64)])] [(false, [(false, .bool)])] law03_CompassTurns_un [⟨.int .i16, x0⟩, ⟨.int .i16, x1⟩, ⟨.int .i64, x2⟩] := congrFun (congrFun (congrFun (law03_CompassTurns_ex.choose_spec) x0) x1) x2
theorem law03_CompassTurns_eq (x0 : Int) (x1 : Int) (x2 : Int) : law03_CompassTurns x0 x1 x2 =
  (ref03_Turn (IntKind.i64.wrap x0) (IntKind.i64.wrap x1) x2).bind fun val0 =>
  (law03_at x0 x1).bind fun val2 =>
    (compass_Turn val2 x2).bind fun val4 =>
      bif whole val0.1
        then bif whole val0.2
          then bif decide (val4.fst = val0.1) && decide (val4.snd = val0.2)
            then (compass_Quarter val2).bind fun val12 =>
              (ref03_Quarter (IntKind.i64.wrap x0) (IntKind.i64.wrap x1)).bind fun val14 =>
                bif val12 == val14
                  then (compass_Norm val2).bind fun val18 =>
                    (ref03_Norm (IntKind.i64.wrap x0) (IntKind.i64.wrap x1)).bind fun val20 =>
                      bif val18 == val20
                        then (law03_works).bind fun val24 =>
                          some (val24)
                        else some false
                  else some false
            else some false
          else none
        else none := (law03_CompassTurns_raw x0 x1 x2).trans (by kernel_rfl)
noncomputable def law03_CompassTurns_sig : Sig := { pm := [(false, [(false, .int .i16)]), (false, [(false, .int .i16)]), (false, [(false, .int .i64)])], rm := [(false, [(false, .bool)])], f := fun | [⟨.int .i16, x0⟩, ⟨.int .i16, x1⟩, ⟨.int .i64, x2⟩] => .yes _ (law03_CompassTurns x0 x1 x2) law03_CompassTurns_mk | _ => .no }
theorem law03_CompassTurns_ok : SigOk Try.prog 4 law03_CompassTurns_sig := by
  refine contract_of (C := law03_CompassTurns_C) (d := 3) S17_ok (callable_ex (by kernel_rfl)) ?_
  intro dvs
  unfold law03_CompassTurns_sig
  dsimp only
  split
  · refine .inr ⟨_, law03_CompassTurns_un, law03_CompassTurns_mk, congrArg (fun o => Cl.yes _ o _) (law03_CompassTurns_raw _ _ _), ?_⟩
    intro ds x h
    unfold law03_CompassTurns_un at h
    split at h
    · cases h; rfl
    · cases h
  · exact .inl rfl
noncomputable def S18 : List (Nat × Sig) := (4, law03_CompassTurns_sig) :: S17
theorem S18_ok : ListOk Try.prog S18 := ListOk.cons S17_ok law03_CompassTurns_ok
noncomputable def law03_CompassParts_C : Cfg := { P := Try.prog, sig := lookSig S18, hb := fun _ _ => none, hr := fun _ _ => none }
noncomputable def law03_CompassParts_un : List DV → Option (Bool) := fun | [⟨.bool, r0⟩] => some r0 | _ => none
noncomputable def law03_CompassParts_mk : Bool → List DV := fun r0 => [⟨.bool, r0⟩]
theorem law03_CompassParts_ex : ∃ f : (Int) → (Int) → (Int) → (ByteArray) → Option (Bool), f = fun (x0 : Int) (x1 : Int) (x2 : Int) (x3 : ByteArray) => funRun law03_CompassParts_C 3 5 [(false, [(false, .int .i16)]), (false, [(false, .int .i16)]), (false, [(false, .int .i64)]), (false, [(false, .str)])] [(false, [(false, .bool)])] law03_CompassParts_un [⟨.int .i16, x0⟩, ⟨.int .i16, x1⟩, ⟨.int .i64, x2⟩, ⟨.str, x3⟩] := ⟨_, rfl⟩
noncomputable def law03_CompassParts : (Int) → (Int) → (Int) → (ByteArray) → Option (Bool) := law03_CompassParts_ex.choose
theorem law03_CompassParts_raw (x0 : Int) (x1 : Int) (x2 : Int) (x3 : ByteArray) : law03_CompassParts x0 x1 x2 x3 = funRun law03_CompassParts_C 3 5 [(false, [(false, .int .i16)]), (false, [(false, .int .i16)]), (false, [(false, .int .i64)]), (false, [(false, .str)])] [(false, [(false, .bool)])] law03_CompassParts_un [⟨.int .i16, x0⟩, ⟨.int .i16, x1⟩, ⟨.int .i64, x2⟩, ⟨.str, x3⟩] := congrFun (congrFun (congrFun (congrFun (law03_CompassParts_ex.choose_spec) x0) x1) x2) x3
theorem law03_CompassParts_eq (x0 : Int) (x1 : Int) (x2 : Int) (x3 : ByteArray) : law03_CompassParts x0 x1 x2 x3 =
  bif decide (isize x3 > 5000)
  then (law03_works).bind fun val2 =>
    some (val2)
  else (law03_at x0 x1).bind fun val2 =>
    (compass_Part val2 x2).bind fun val4 =>
      (ref03_Part (IntKind.i64.wrap x0) (IntKind.i64.wrap x1) x2).bind fun val6 =>
        (compass_Route x3 x2).bind fun val8 =>
          (ref03_Route x3 x2).bind fun val10 =>
            bif val4.1 == val6.1
              then bif val4.2 == val6.2
                then bif val8.1 == val10.1
                  then bif val8.2 == val10.2
                    then (law03_works).bind fun val20 =>
                      some (val20)
                    else some false
                  else some false
                else some false
              else some false := (law03_CompassParts_raw x0 x1 x2 x3).trans (by kernel_rfl)
noncomputable def law03_CompassParts_sig : Sig := { pm := [(false, [(false, .int .i16)]), (false, [(false, .int .i16)]), (false, [(false, .int .i64)]), (false, [(false, .str)])], rm := [(false, [(false, .bool)])], f := fun | [⟨.int .i16, x0⟩, ⟨.int .i16, x1⟩, ⟨.int .i64, x2⟩, ⟨.str, x3⟩] => .yes _ (law03_CompassParts x0 x1 x2 x3) law03_CompassParts_mk | _ => .no }
theorem law03_CompassParts_ok : SigOk Try.prog 5 law03_CompassParts_sig := by
  refine contract_of (C := law03_CompassParts_C) (d := 3) S18_ok (callable_ex (by kernel_rfl)) ?_
  intro dvs
  unfold law03_CompassParts_sig
  dsimp only
  split
  · refine .inr ⟨_, law03_CompassParts_un, law03_CompassParts_mk, congrArg (fun o => Cl.yes _ o _) (law03_CompassParts_raw _ _ _ _), ?_⟩
    intro ds x h
    unfold law03_CompassParts_un at h
    split at h
    · cases h; rfl
    · cases h
  · exact .inl rfl
noncomputable def S19 : List (Nat × Sig) := (5, law03_CompassParts_sig) :: S18
theorem S19_ok : ListOk Try.prog S19 := ListOk.cons S18_ok law03_CompassParts_ok
noncomputable def law03_CompassRounds_C : Cfg := { P := Try.prog, sig := lookSig S19, hb := fun _ _ => none, hr := fun _ _ => none }
noncomputable def law03_CompassRounds_un : List DV → Option (Bool) := fun | [⟨.bool, r0⟩] => some r0 | _ => none
noncomputable def law03_CompassRounds_mk : Bool → List DV := fun r0 => [⟨.bool, r0⟩]
theorem law03_CompassRounds_ex : ∃ f : (Int) → (Int) → (Int) → (Int) → Option (Bool), f = fun (x0 : Int) (x1 : Int) (x2 : Int) (x3 : Int) => funRun law03_CompassRounds_C 3 6 [(false, [(false, .int .i16)]), (false, [(false, .int .i16)]), (false, [(false, .int .u8)]), (false, [(false, .int .u8)])] [(false, [(false, .bool)])] law03_CompassRounds_un [⟨.int .i16, x0⟩, ⟨.int .i16, x1⟩, ⟨.int .u8, x2⟩, ⟨.int .u8, x3⟩] := ⟨_, rfl⟩
noncomputable def law03_CompassRounds : (Int) → (Int) → (Int) → (Int) → Option (Bool) := law03_CompassRounds_ex.choose
theorem law03_CompassRounds_raw (x0 : Int) (x1 : Int) (x2 : Int) (x3 : Int) : law03_CompassRounds x0 x1 x2 x3 = funRun law03_CompassRounds_C 3 6 [(false, [(false, .int .i16)]), (false, [(false, .int .i16)]), (false, [(false, .int .u8)]), (false, [(false, .int .u8)])] [(false, [(false, .bool)])] law03_CompassRounds_un [⟨.int .i16, x0⟩, ⟨.int .i16, x1⟩, ⟨.int .u8, x2⟩, ⟨.int .u8, x3⟩] := congrFun (congrFun (congrFun (congrFun (law03_CompassRounds_ex.choose_spec) x0) x1) x2) x3
theorem law03_CompassRounds_eq (x0 : Int) (x1 : Int) (x2 : Int) (x3 : Int) : law03_CompassRounds x0 x1 x2 x3 =
  (law03_at x0 x1).bind fun val0 =>
  (compass_Turn val0 (IntKind.i64.wrap (4 * IntKind.i64.wrap x2))).bind fun val2 =>
    bif !(decide (val2.fst = val0.fst) && decide (val2.snd = val0.snd))
      then some false
      else (compass_Turn val0 (IntKind.i64.wrap x2)).bind fun val6 =>
        (compass_Turn val6 (IntKind.i64.wrap x3)).bind fun val8 =>
          (compass_Turn val0 (IntKind.i64.wrap (IntKind.i64.wrap x2 + IntKind.i64.wrap x3))).bind fun val10 =>
            bif !(decide (val8.fst = val10.fst) && decide (val8.snd = val10.snd))
              then some false
              else (compass_Turn val0 (IntKind.i64.wrap x2)).bind fun val14 =>
                (compass_Turn val14 (IntKind.i64.wrap (0 - IntKind.i64.wrap x2))).bind fun val16 =>
                  bif !(decide (val16.fst = val0.fst) && decide (val16.snd = val0.snd))
                    then some false
                    else (compass_Turn val0 1).bind fun val20 =>
                      (compass_Norm val20).bind fun val22 =>
                        (compass_Norm val0).bind fun val24 =>
                          bif val22 != val24
                            then some false
                            else bif x0 == 0
                              then bif x1 == 0
                                then (law03_works).bind fun val32 =>
                                  some (val32)
                                else (compass_Quarter val20).bind fun val32 =>
                                  (compass_Quarter val0).bind fun val34 =>
                                    bif val32 == (IntKind.i64.wrap (val34 + 1)).tmod 4
                                      then (law03_works).bind fun val38 =>
                                        some (val38)
                                      else some false
                              else (compass_Quarter val20).bind fun val30 =>
                                (compass_Quarter val0).bind fun val32 =>
                                  bif val30 == (IntKind.i64.wrap (val32 + 1)).tmod 4
                                    then (law03_works).bind fun val36 =>
                                      some (val36)
                                    else some false := (law03_CompassRounds_raw x0 x1 x2 x3).trans (by kernel_rfl)
noncomputable def law03_CompassRounds_sig : Sig := { pm := [(false, [(false, .int .i16)]), (false, [(false, .int .i16)]), (false, [(false, .int .u8)]), (false, [(false, .int .u8)])], rm := [(false, [(false, .bool)])], f := fun | [⟨.int .i16, x0⟩, ⟨.int .i16, x1⟩, ⟨.int .u8, x2⟩, ⟨.int .u8, x3⟩] => .yes _ (law03_CompassRounds x0 x1 x2 x3) law03_CompassRounds_mk | _ => .no }
theorem law03_CompassRounds_ok : SigOk Try.prog 6 law03_CompassRounds_sig := by
  refine contract_of (C := law03_CompassRounds_C) (d := 3) S19_ok (callable_ex (by kernel_rfl)) ?_
  intro dvs
  unfold law03_CompassRounds_sig
  dsimp only
  split
  · refine .inr ⟨_, law03_CompassRounds_un, law03_CompassRounds_mk, congrArg (fun o => Cl.yes _ o _) (law03_CompassRounds_raw _ _ _ _), ?_⟩
    intro ds x h
    unfold law03_CompassRounds_un at h
    split at h
    · cases h; rfl
    · cases h
  · exact .inl rfl
noncomputable def S20 : List (Nat × Sig) := (6, law03_CompassRounds_sig) :: S19
theorem S20_ok : ListOk Try.prog S20 := ListOk.cons S19_ok law03_CompassRounds_ok
noncomputable def law03_CompassEven_C : Cfg := { P := Try.prog, sig := lookSig S20, hb := fun _ _ => none, hr := fun _ _ => none }
noncomputable def law03_CompassEven_un : List DV → Option (Bool) := fun | [⟨.bool, r0⟩] => some r0 | _ => none
noncomputable def law03_CompassEven_mk : Bool → List DV := fun r0 => [⟨.bool, r0⟩]
theorem law03_CompassEven_ex : ∃ f : (Int) → (Int) → (Int) → Option (Bool), f = fun (x0 : Int) (x1 : Int) (x2 : Int) => funRun law03_CompassEven_C 3 7 [(false, [(false, .int .i16)]), (false, [(false, .int .i16)]), (false, [(false, .int .u8)])] [(false, [(false, .bool)])] law03_CompassEven_un [⟨.int .i16, x0⟩, ⟨.int .i16, x1⟩, ⟨.int .u8, x2⟩] := ⟨_, rfl⟩
noncomputable def law03_CompassEven : (Int) → (Int) → (Int) → Option (Bool) := law03_CompassEven_ex.choose
theorem law03_CompassEven_raw (x0 : Int) (x1 : Int) (x2 : Int) : law03_CompassEven x0 x1 x2 = funRun law03_CompassEven_C 3 7 [(false, [(false, .int .i16)]), (false, [(false, .int .i16)]), (false, [(false, .int .u8)])] [(false, [(false, .bool)])] law03_CompassEven_un [⟨.int .i16, x0⟩, ⟨.int .i16, x1⟩, ⟨.int .u8, x2⟩] := congrFun (congrFun (congrFun (law03_CompassEven_ex.choose_spec) x0) x1) x2
theorem law03_CompassEven_eq (x0 : Int) (x1 : Int) (x2 : Int) : law03_CompassEven x0 x1 x2 =
  bif x0 == 0
  then bif x1 == 0
    then (law03_works).bind fun val4 =>
      some (val4)
    else (law03_at x0 x1).bind fun val4 =>
      (compass_Part val4 (IntKind.i64.wrap (4 * IntKind.i64.wrap (1 + (IntKind.i64.wrap x2).tmod 16)))).bind fun val6 =>
        (law03_at x0 x1).bind fun val8 =>
          (compass_Turn val8 1).bind fun val10 =>
            (compass_Part val10 (IntKind.i64.wrap (4 * IntKind.i64.wrap (1 + (IntKind.i64.wrap x2).tmod 16)))).bind fun val12 =>
              bif val6.2 == 0
                then bif val12.2 == 0
                  then bif decide (IntKind.i64.wrap (4 * IntKind.i64.wrap (1 + (IntKind.i64.wrap x2).tmod 16)) = 0)
                    then none
                    else bif val12.1 == (IntKind.i64.wrap (val6.1 + IntKind.i64.wrap (1 + (IntKind.i64.wrap x2).tmod 16))).tmod (IntKind.i64.wrap (4 * IntKind.i64.wrap (1 + (IntKind.i64.wrap x2).tmod 16)))
                      then (law03_works).bind fun val22 =>
                        some (val22)
                      else some false
                  else some false
                else some false
  else (law03_at x0 x1).bind fun val2 =>
    (compass_Part val2 (IntKind.i64.wrap (4 * IntKind.i64.wrap (1 + (IntKind.i64.wrap x2).tmod 16)))).bind fun val4 =>
      (law03_at x0 x1).bind fun val6 =>
        (compass_Turn val6 1).bind fun val8 =>
          (compass_Part val8 (IntKind.i64.wrap (4 * IntKind.i64.wrap (1 + (IntKind.i64.wrap x2).tmod 16)))).bind fun val10 =>
            bif val4.2 == 0
              then bif val10.2 == 0
                then bif decide (IntKind.i64.wrap (4 * IntKind.i64.wrap (1 + (IntKind.i64.wrap x2).tmod 16)) = 0)
                  then none
                  else bif val10.1 == (IntKind.i64.wrap (val4.1 + IntKind.i64.wrap (1 + (IntKind.i64.wrap x2).tmod 16))).tmod (IntKind.i64.wrap (4 * IntKind.i64.wrap (1 + (IntKind.i64.wrap x2).tmod 16)))
                    then (law03_works).bind fun val20 =>
                      some (val20)
                    else some false
                else some false
              else some false := (law03_CompassEven_raw x0 x1 x2).trans (by kernel_rfl)
noncomputable def law03_CompassEven_sig : Sig := { pm := [(false, [(false, .int .i16)]), (false, [(false, .int .i16)]), (false, [(false, .int .u8)])], rm := [(false, [(false, .bool)])], f := fun | [⟨.int .i16, x0⟩, ⟨.int .i16, x1⟩, ⟨.int .u8, x2⟩] => .yes _ (law03_CompassEven x0 x1 x2) law03_CompassEven_mk | _ => .no }
theorem law03_CompassEven_ok : SigOk Try.prog 7 law03_CompassEven_sig := by
  refine contract_of (C := law03_CompassEven_C) (d := 3) S20_ok (callable_ex (by kernel_rfl)) ?_
  intro dvs
  unfold law03_CompassEven_sig
  dsimp only
  split
  · refine .inr ⟨_, law03_CompassEven_un, law03_CompassEven_mk, congrArg (fun o => Cl.yes _ o _) (law03_CompassEven_raw _ _ _), ?_⟩
    intro ds x h
    unfold law03_CompassEven_un at h
    split at h
    · cases h; rfl
    · cases h
  · exact .inl rfl
noncomputable def S21 : List (Nat × Sig) := (7, law03_CompassEven_sig) :: S20
theorem S21_ok : ListOk Try.prog S21 := ListOk.cons S20_ok law03_CompassEven_ok
noncomputable def law03_CompassScales_C : Cfg := { P := Try.prog, sig := lookSig S21, hb := fun _ _ => none, hr := fun _ _ => none }
noncomputable def law03_CompassScales_un : List DV → Option (Bool) := fun | [⟨.bool, r0⟩] => some r0 | _ => none
noncomputable def law03_CompassScales_mk : Bool → List DV := fun r0 => [⟨.bool, r0⟩]
theorem law03_CompassScales_ex : ∃ f : (Int) → (Int) → (Int) → (Int) → Option (Bool), f = fun (x0 : Int) (x1 : Int) (x2 : Int) (x3 : Int) => funRun law03_CompassScales_C 3 8 [(false, [(false, .int .i8)]), (false, [(false, .int .i8)]), (false, [(false, .int .i64)]), (false, [(false, .int .u8)])] [(false, [(false, .bool)])] law03_CompassScales_un [⟨.int .i8, x0⟩, ⟨.int .i8, x1⟩, ⟨.int .i64, x2⟩, ⟨.int .u8, x3⟩] := ⟨_, rfl⟩
noncomputable def law03_CompassScales : (Int) → (Int) → (Int) → (Int) → Option (Bool) := law03_CompassScales_ex.choose
theorem law03_CompassScales_raw (x0 : Int) (x1 : Int) (x2 : Int) (x3 : Int) : law03_CompassScales x0 x1 x2 x3 = funRun law03_CompassScales_C 3 8 [(false, [(false, .int .i8)]), (false, [(false, .int .i8)]), (false, [(false, .int .i64)]), (false, [(false, .int .u8)])] [(false, [(false, .bool)])] law03_CompassScales_un [⟨.int .i8, x0⟩, ⟨.int .i8, x1⟩, ⟨.int .i64, x2⟩, ⟨.int .u8, x3⟩] := congrFun (congrFun (congrFun (congrFun (law03_CompassScales_ex.choose_spec) x0) x1) x2) x3
theorem law03_CompassScales_eq (x0 : Int) (x1 : Int) (x2 : Int) (x3 : Int) : law03_CompassScales x0 x1 x2 x3 =
  (law03_at (IntKind.i16.wrap x0) (IntKind.i16.wrap x1)).bind fun val0 =>
  (compass_Part val0 x2).bind fun val2 =>
    (law03_at (IntKind.i16.wrap (IntKind.i16.wrap x0 * IntKind.i16.wrap (1 + (IntKind.i16.wrap x3).tmod 200))) (IntKind.i16.wrap (IntKind.i16.wrap x1 * IntKind.i16.wrap (1 + (IntKind.i16.wrap x3).tmod 200)))).bind fun val4 =>
      (compass_Part val4 x2).bind fun val6 =>
        bif val2.1 == val6.1
          then bif val2.2 == val6.2
            then bif val2.2 != 0
              then (law03_works).bind fun val14 =>
                some (val14)
              else bif decide (val2.1 ≥ 0)
                then bif decide (val2.1 < x2)
                  then (law03_works).bind fun val18 =>
                    some (val18)
                  else some false
                else some false
            else some false
          else some false := (law03_CompassScales_raw x0 x1 x2 x3).trans (by kernel_rfl)
noncomputable def law03_CompassScales_sig : Sig := { pm := [(false, [(false, .int .i8)]), (false, [(false, .int .i8)]), (false, [(false, .int .i64)]), (false, [(false, .int .u8)])], rm := [(false, [(false, .bool)])], f := fun | [⟨.int .i8, x0⟩, ⟨.int .i8, x1⟩, ⟨.int .i64, x2⟩, ⟨.int .u8, x3⟩] => .yes _ (law03_CompassScales x0 x1 x2 x3) law03_CompassScales_mk | _ => .no }
theorem law03_CompassScales_ok : SigOk Try.prog 8 law03_CompassScales_sig := by
  refine contract_of (C := law03_CompassScales_C) (d := 3) S21_ok (callable_ex (by kernel_rfl)) ?_
  intro dvs
  unfold law03_CompassScales_sig
  dsimp only
  split
  · refine .inr ⟨_, law03_CompassScales_un, law03_CompassScales_mk, congrArg (fun o => Cl.yes _ o _) (law03_CompassScales_raw _ _ _ _), ?_⟩
    intro ds x h
    unfold law03_CompassScales_un at h
    split at h
    · cases h; rfl
    · cases h
  · exact .inl rfl
noncomputable def S22 : List (Nat × Sig) := (8, law03_CompassScales_sig) :: S21
theorem S22_ok : ListOk Try.prog S22 := ListOk.cons S21_ok law03_CompassScales_ok
end Go.Proofs.Ytoolkhimafjdpaa.PE
