/- The functions of this chapter, their second part. -/
import Derived.Test.YtdbenenonfldkaaDoorX29p
import Derived.Test.YtdbenenonfldkaaDoorEItoa
namespace Go.Proofs.YtdbenenonfldkaaDoor.PE
set_option linter.unusedVariables false
open Go.Proofs
noncomputable def S53 : List (Nat × Sig) := (43, strconv_Itoa_sig) :: S52
theorem S53_ok : ListOk Tryd.prog S53 := ListOk.cons S52_ok strconv_Itoa_ok
noncomputable def S54 : List (Nat × Sig) := (71, strconv_FormatInt_sig) :: S53
theorem S54_ok : ListOk Tryd.prog S54 := ListOk.cons S53_ok strconv_FormatInt_ok
noncomputable def engine_Where_C : Cfg := { P := Tryd.prog, sig := lookSig S54, hb := fun _ _ => none, hr := fun _ _ => none }
noncomputable def engine_Where_un : List DV → Option (Int × Int) := fun | [⟨.int .i64, r0⟩, ⟨.int .i64, r1⟩] => some (r0, r1) | _ => none
noncomputable def engine_Where_mk : (Int × Int) → List DV := fun ⟨r0, r1⟩ => [⟨.int .i64, r0⟩, ⟨.int .i64, r1⟩]
theorem engine_Where_ex : ∃ f : (ByteArray) → (Int) → (Int) → Option (Int × Int), f = fun (x0 : ByteArray) (x1 : Int) (x2 : Int) => funRun engine_Where_C 3 44 [(false, [(false, .str)]), (false, [(false, .int .i64)]), (false, [(false, .int .i64)])] [(false, [(false, .int .i64)]), (false, [(false, .int .i64)])] engine_Where_un [⟨.str, x0⟩, ⟨.int .i64, x1⟩, ⟨.int .i64, x2⟩] := ⟨_, rfl⟩
noncomputable def engine_Where : (ByteArray) → (Int) → (Int) → Option (Int × Int) := engine_Where_ex.choose
theorem engine_Where_raw (x0 : ByteArray) (x1 : Int) (x2 : Int) : engine_Where x0 x1 x2 = funRun engine_Where_C 3 44 [(false, [(false, .str)]), (false, [(false, .int .i64)]), (false, [(false, .int .i64)])] [(false, [(false, .int .i64)]), (false, [(false, .int .i64)])] engine_Where_un [⟨.str, x0⟩, ⟨.int .i64, x1⟩, ⟨.int .i64, x2⟩] := congrFun (congrFun (congrFun (engine_Where_ex.choose_spec) x0) x1) x2
theorem engine_Where_eq (x0 : ByteArray) (x1 : Int) (x2 : Int) : engine_Where x0 x1 x2 =
  bif decide (isize x0 + isize (⟨#[32]⟩ : ByteArray) ≤ room)
  then (strconv_FormatInt x1 10).bind fun val2 =>
    bif decide (isize (x0 ++ (⟨#[32]⟩ : ByteArray)) + isize val2 ≤ room)
      then (compass_Route (x0 ++ (⟨#[32]⟩ : ByteArray) ++ val2) x2).bind fun val6 =>
        some ((val6.1), (val6.2))
      else none
  else none := (engine_Where_raw x0 x1 x2).trans (by kernel_rfl)
noncomputable def engine_Where_sig : Sig := { pm := [(false, [(false, .str)]), (false, [(false, .int .i64)]), (false, [(false, .int .i64)])], rm := [(false, [(false, .int .i64)]), (false, [(false, .int .i64)])], f := fun | [⟨.str, x0⟩, ⟨.int .i64, x1⟩, ⟨.int .i64, x2⟩] => .yes _ (engine_Where x0 x1 x2) engine_Where_mk | _ => .no }
theorem engine_Where_ok : SigOk Tryd.prog 44 engine_Where_sig := by
  refine contract_of (C := engine_Where_C) (d := 3) ⟨S54_ok, noPs⟩ (callable_ex (by kernel_rfl)) ?_
  intro dvs
  unfold engine_Where_sig
  dsimp only
  split
  · refine .inr ⟨_, engine_Where_un, engine_Where_mk, congrArg (fun o => Cl.yes _ o _) (engine_Where_raw _ _ _), ?_⟩
    intro ds x h
    unfold engine_Where_un at h
    split at h
    · cases h; rfl
    · cases h
  · exact .inl rfl
noncomputable def S55 : List (Nat × Sig) := (44, engine_Where_sig) :: S54
theorem S55_ok : ListOk Tryd.prog S55 := ListOk.cons S54_ok engine_Where_ok
noncomputable def ref25_decimal_C : Cfg := { P := Tryd.prog, sig := lookSig S55, hb := fun f b =>   bif Nat.beq f 32 && Nat.beq b 0 then some { tmps := [0, 3, 4], obs := [], nils := [], kl := [268] } else none, hr := fun _ _ => none }
noncomputable def ref25_decimal_un : List DV → Option (ByteArray) := fun | [⟨.str, r0⟩] => some r0 | _ => none
noncomputable def ref25_decimal_mk : ByteArray → List DV := fun r0 => [⟨.str, r0⟩]
theorem ref25_decimal_ex : ∃ f : (Int) → Option (ByteArray), f = fun (x0 : Int) => funRun ref25_decimal_C 3 32 [(false, [(false, .int .i64)])] [(false, [(false, .str)])] ref25_decimal_un [⟨.int .i64, x0⟩] := ⟨_, rfl⟩
noncomputable def ref25_decimal : (Int) → Option (ByteArray) := ref25_decimal_ex.choose
theorem ref25_decimal_raw (x0 : Int) : ref25_decimal x0 = funRun ref25_decimal_C 3 32 [(false, [(false, .int .i64)])] [(false, [(false, .str)])] ref25_decimal_un [⟨.int .i64, x0⟩] := congrFun (ref25_decimal_ex.choose_spec) x0
noncomputable def ref25_decimal_l0 (y0 : Int) (y1 : Int) (y2 : ByteArray) : Option (ByteArray) := loopAt ref25_decimal_C 3 32 [(false, [(false, .str)])] ref25_decimal_un [true, true, true, true, false, false] (St.ofLists [(0, .int .i64 y0), (3, .int .u64 y1), (4, .str y2)] [] [268])
theorem ref25_decimal_eq (x0 : Int) : ref25_decimal x0 =
  bif decide (x0 < 0)
  then ref25_decimal_l0 (x0) (IntKind.u64.wrap (0 - IntKind.u64.wrap x0)) ((⟨#[]⟩ : ByteArray))
  else ref25_decimal_l0 (x0) (IntKind.u64.wrap x0) ((⟨#[]⟩ : ByteArray)) := (ref25_decimal_raw x0).trans (by kernel_rfl)
theorem ref25_decimal_l0_eq (y0 : Int) (y1 : Int) (y2 : ByteArray) : ref25_decimal_l0 y0 y1 y2 =
  bif decide (y1 > 0)
  then bif decide (isize (strOf [IntKind.u8.wrap (IntKind.u64.wrap (48 + y1.tmod 10))]) + isize y2 ≤ room)
    then ref25_decimal_l0 (y0) (IntKind.u64.wrap (y1.tdiv 10)) (strOf [IntKind.u8.wrap (IntKind.u64.wrap (48 + y1.tmod 10))] ++ y2)
    else none
  else bif y2.toList == (⟨#[]⟩ : ByteArray).toList
    then bif decide (isize (strOf [IntKind.u8.wrap (IntKind.u64.wrap (48 + y1.tmod 10))]) + isize y2 ≤ room)
      then ref25_decimal_l0 (y0) (IntKind.u64.wrap (y1.tdiv 10)) (strOf [IntKind.u8.wrap (IntKind.u64.wrap (48 + y1.tmod 10))] ++ y2)
      else none
    else bif decide (y0 < 0)
      then bif decide (isize (⟨#[45]⟩ : ByteArray) + isize y2 ≤ room)
        then some ((⟨#[45]⟩ : ByteArray) ++ y2)
        else none
      else some (y2) := (loopAt_step _ _ _ _ _ _ _).trans (by kernel_rfl)
noncomputable def ref25_decimal_sig : Sig := { pm := [(false, [(false, .int .i64)])], rm := [(false, [(false, .str)])], f := fun | [⟨.int .i64, x0⟩] => .yes _ (ref25_decimal x0) ref25_decimal_mk | _ => .no }
theorem ref25_decimal_ok : SigOk Tryd.prog 32 ref25_decimal_sig := by
  refine contract_of (C := ref25_decimal_C) (d := 3) ⟨S55_ok, noPs⟩ (callable_ex (by kernel_rfl)) ?_
  intro dvs
  unfold ref25_decimal_sig
  dsimp only
  split
  · refine .inr ⟨_, ref25_decimal_un, ref25_decimal_mk, congrArg (fun o => Cl.yes _ o _) (ref25_decimal_raw _), ?_⟩
    intro ds x h
    unfold ref25_decimal_un at h
    split at h
    · cases h; rfl
    · cases h
  · exact .inl rfl
noncomputable def S56 : List (Nat × Sig) := (32, ref25_decimal_sig) :: S55
theorem S56_ok : ListOk Tryd.prog S56 := ListOk.cons S55_ok ref25_decimal_ok
noncomputable def ref25_Where_C : Cfg := { P := Tryd.prog, sig := lookSig S56, hb := fun _ _ => none, hr := fun _ _ => none }
noncomputable def ref25_Where_un : List DV → Option (Int × Int) := fun | [⟨.int .i64, r0⟩, ⟨.int .i64, r1⟩] => some (r0, r1) | _ => none
noncomputable def ref25_Where_mk : (Int × Int) → List DV := fun ⟨r0, r1⟩ => [⟨.int .i64, r0⟩, ⟨.int .i64, r1⟩]
theorem ref25_Where_ex : ∃ f : (ByteArray) → (Int) → (Int) → Option (Int × Int), f = fun (x0 : ByteArray) (x1 : Int) (x2 : Int) => funRun ref25_Where_C 3 23 [(false, [(false, .str)]), (false, [(false, .int .i64)]), (false, [(false, .int .i64)])] [(false, [(false, .int .i64)]), (false, [(false, .int .i64)])] ref25_Where_un [⟨.str, x0⟩, ⟨.int .i64, x1⟩, ⟨.int .i64, x2⟩] := ⟨_, rfl⟩
noncomputable def ref25_Where : (ByteArray) → (Int) → (Int) → Option (Int × Int) := ref25_Where_ex.choose
theorem ref25_Where_raw (x0 : ByteArray) (x1 : Int) (x2 : Int) : ref25_Where x0 x1 x2 = funRun ref25_Where_C 3 23 [(false, [(false, .str)]), (false, [(false, .int .i64)]), (false, [(false, .int .i64)])] [(false, [(false, .int .i64)]), (false, [(false, .int .i64)])] ref25_Where_un [⟨.str, x0⟩, ⟨.int .i64, x1⟩, ⟨.int .i64, x2⟩] := congrFun (congrFun (congrFun (ref25_Where_ex.choose_spec) x0) x1) x2
theorem ref25_Where_eq (x0 : ByteArray) (x1 : Int) (x2 : Int) : ref25_Where x0 x1 x2 =
  bif decide (isize x0 + isize (⟨#[32]⟩ : ByteArray) ≤ room)
  then (ref25_decimal x1).bind fun val2 =>
    bif decide (isize (x0 ++ (⟨#[32]⟩ : ByteArray)) + isize val2 ≤ room)
      then (ref03_Route (x0 ++ (⟨#[32]⟩ : ByteArray) ++ val2) x2).bind fun val6 =>
        some ((val6.1), (val6.2))
      else none
  else none := (ref25_Where_raw x0 x1 x2).trans (by kernel_rfl)
noncomputable def ref25_Where_sig : Sig := { pm := [(false, [(false, .str)]), (false, [(false, .int .i64)]), (false, [(false, .int .i64)])], rm := [(false, [(false, .int .i64)]), (false, [(false, .int .i64)])], f := fun | [⟨.str, x0⟩, ⟨.int .i64, x1⟩, ⟨.int .i64, x2⟩] => .yes _ (ref25_Where x0 x1 x2) ref25_Where_mk | _ => .no }
theorem ref25_Where_ok : SigOk Tryd.prog 23 ref25_Where_sig := by
  refine contract_of (C := ref25_Where_C) (d := 3) ⟨S56_ok, noPs⟩ (callable_ex (by kernel_rfl)) ?_
  intro dvs
  unfold ref25_Where_sig
  dsimp only
  split
  · refine .inr ⟨_, ref25_Where_un, ref25_Where_mk, congrArg (fun o => Cl.yes _ o _) (ref25_Where_raw _ _ _), ?_⟩
    intro ds x h
    unfold ref25_Where_un at h
    split at h
    · cases h; rfl
    · cases h
  · exact .inl rfl
noncomputable def S57 : List (Nat × Sig) := (23, ref25_Where_sig) :: S56
theorem S57_ok : ListOk Tryd.prog S57 := ListOk.cons S56_ok ref25_Where_ok
noncomputable def ref29_decimal_C : Cfg := { P := Tryd.prog, sig := lookSig S57, hb := fun f b =>   bif Nat.beq f 52 && Nat.beq b 0 then some { tmps := [3, 4], obs := [], nils := [], kl := [228] } else none, hr := fun _ _ => none }
noncomputable def ref29_decimal_un : List DV → Option (ByteArray) := fun | [⟨.str, r0⟩] => some r0 | _ => none
noncomputable def ref29_decimal_mk : ByteArray → List DV := fun r0 => [⟨.str, r0⟩]
theorem ref29_decimal_ex : ∃ f : (Int) → Option (ByteArray), f = fun (x0 : Int) => funRun ref29_decimal_C 3 52 [(false, [(false, .int .i64)])] [(false, [(false, .str)])] ref29_decimal_un [⟨.int .i64, x0⟩] := ⟨_, rfl⟩
noncomputable def ref29_decimal : (Int) → Option (ByteArray) := ref29_decimal_ex.choose
theorem ref29_decimal_raw (x0 : Int) : ref29_decimal x0 = funRun ref29_decimal_C 3 52 [(false, [(false, .int .i64)])] [(false, [(false, .str)])] ref29_decimal_un [⟨.int .i64, x0⟩] := congrFun (ref29_decimal_ex.choose_spec) x0
noncomputable def ref29_decimal_l0 (y0 : ByteArray) (y1 : Int) : Option (ByteArray) := loopAt ref29_decimal_C 3 52 [(false, [(false, .str)])] ref29_decimal_un [true, true, true, false, false] (St.ofLists [(3, .str y0), (4, .int .i64 y1)] [] [228])
theorem ref29_decimal_eq (x0 : Int) : ref29_decimal x0 =
  ref29_decimal_l0 ((⟨#[]⟩ : ByteArray)) (x0) := (ref29_decimal_raw x0).trans (by kernel_rfl)
theorem ref29_decimal_l0_eq (y0 : ByteArray) (y1 : Int) : ref29_decimal_l0 y0 y1 =
  bif decide (y1 > 0)
  then bif decide (isize (strOf [IntKind.u8.wrap (IntKind.i64.wrap (48 + y1.tmod 10))]) + isize y0 ≤ room)
    then ref29_decimal_l0 (strOf [IntKind.u8.wrap (IntKind.i64.wrap (48 + y1.tmod 10))] ++ y0) (IntKind.i64.wrap (y1.tdiv 10))
    else none
  else bif y0.toList == (⟨#[]⟩ : ByteArray).toList
    then bif decide (isize (strOf [IntKind.u8.wrap (IntKind.i64.wrap (48 + y1.tmod 10))]) + isize y0 ≤ room)
      then ref29_decimal_l0 (strOf [IntKind.u8.wrap (IntKind.i64.wrap (48 + y1.tmod 10))] ++ y0) (IntKind.i64.wrap (y1.tdiv 10))
      else none
    else some (y0) := (loopAt_step _ _ _ _ _ _ _).trans (by kernel_rfl)
noncomputable def ref29_decimal_sig : Sig := { pm := [(false, [(false, .int .i64)])], rm := [(false, [(false, .str)])], f := fun | [⟨.int .i64, x0⟩] => .yes _ (ref29_decimal x0) ref29_decimal_mk | _ => .no }
theorem ref29_decimal_ok : SigOk Tryd.prog 52 ref29_decimal_sig := by
  refine contract_of (C := ref29_decimal_C) (d := 3) ⟨S57_ok, noPs⟩ (callable_ex (by kernel_rfl)) ?_
  intro dvs
  unfold ref29_decimal_sig
  dsimp only
  split
  · refine .inr ⟨_, ref29_decimal_un, ref29_decimal_mk, congrArg (fun o => Cl.yes _ o _) (ref29_decimal_raw _), ?_⟩
    intro ds x h
    unfold ref29_decimal_un at h
    split at h
    · cases h; rfl
    · cases h
  · exact .inl rfl
noncomputable def S58 : List (Nat × Sig) := (52, ref29_decimal_sig) :: S57
theorem S58_ok : ListOk Tryd.prog S58 := ListOk.cons S57_ok ref29_decimal_ok
noncomputable def ses_where_C : Cfg := { P := Tryd.prog, sig := lookSig S58, hb := fun f b =>   bif Nat.beq f 25 && Nat.beq b 1 then some { tmps := [3, 5, 8, 19, 20], obs := [124, 140, 60], nils := [(8, 60, (.int .i64))], kl := [140, 124, 116, 308, 300, 60] } else none, hr := fun _ _ => none }
noncomputable def ses_where_un : List DV → Option ((List Int) × Int × Int × Int × ByteArray × ByteArray × Int × (List ByteArray) × (List Int) × Int × Int × Int × Int × (List Int) × Int) := fun | [⟨.slice (.int .i64), r0⟩, ⟨.int .i64, r1⟩, ⟨.int .i64, r2⟩, ⟨.int .i64, r3⟩, ⟨.str, r4⟩, ⟨.str, r5⟩, ⟨.int .i64, r6⟩, ⟨.slice (.str), r7⟩, ⟨.slice (.int .i64), r8⟩, ⟨.int .i64, r9⟩, ⟨.int .i64, r10⟩, ⟨.int .i64, r11⟩, ⟨.int .i64, r12⟩, ⟨.slice (.int .u8), r13⟩, ⟨.int .i64, r14⟩] => some (r0, r1, r2, r3, r4, r5, r6, r7, r8, r9, r10, r11, r12, r13, r14) | _ => none
noncomputable def ses_where_mk : ((List Int) × Int × Int × Int × ByteArray × ByteArray × Int × (List ByteArray) × (List Int) × Int × Int × Int × Int × (List Int) × Int) → List DV := fun ⟨r0, r1, r2, r3, r4, r5, r6, r7, r8, r9, r10, r11, r12, r13, r14⟩ => [⟨.slice (.int .i64), r0⟩, ⟨.int .i64, r1⟩, ⟨.int .i64, r2⟩, ⟨.int .i64, r3⟩, ⟨.str, r4⟩, ⟨.str, r5⟩, ⟨.int .i64, r6⟩, ⟨.slice (.str), r7⟩, ⟨.slice (.int .i64), r8⟩, ⟨.int .i64, r9⟩, ⟨.int .i64, r10⟩, ⟨.int .i64, r11⟩, ⟨.int .i64, r12⟩, ⟨.slice (.int .u8), r13⟩, ⟨.int .i64, r14⟩]
theorem ses_where_ex : ∃ f : (Int) → (Int) → (Int) → (Int) → (Int) → (List (Int × Int × (List Int))) → (Int) → (Int) → (Int) → (Int) → (ByteArray) → (ByteArray) → (Int) → (List ByteArray) → (List Int) → (Int) → (Int) → (Int) → (Int) → (List Int) → Option ((List Int) × Int × Int × Int × ByteArray × ByteArray × Int × (List ByteArray) × (List Int) × Int × Int × Int × Int × (List Int) × Int), f = fun (x0 : Int) (x1 : Int) (x2 : Int) (x3 : Int) (x4 : Int) (x5 : List (Int × Int × (List Int))) (x6 : Int) (x7 : Int) (x8 : Int) (x9 : Int) (x10 : ByteArray) (x11 : ByteArray) (x12 : Int) (x13 : List ByteArray) (x14 : List Int) (x15 : Int) (x16 : Int) (x17 : Int) (x18 : Int) (x19 : List Int) => funRun ses_where_C 3 25 [(true, [(false, .int .i64), (false, .int .i64), (false, .int .i64), (false, .int .i64), (false, .int .i64), (false, .slice (.pair (.int .i64) (.pair (.int .i64) (.slice (.int .u8))))), (false, .int .i64)]), (true, [(false, .int .i64), (false, .int .i64), (false, .int .i64), (false, .str), (false, .str), (false, .int .i64), (false, .slice (.str)), (false, .slice (.int .i64)), (false, .int .i64), (false, .int .i64), (false, .int .i64), (false, .int .i64), (false, .slice (.int .u8))])] [(false, [(false, .slice (.int .i64))]), (true, [(false, .int .i64), (false, .int .i64), (false, .int .i64), (false, .str), (false, .str), (false, .int .i64), (false, .slice (.str)), (false, .slice (.int .i64)), (false, .int .i64), (false, .int .i64), (false, .int .i64), (false, .int .i64), (false, .slice (.int .u8))]), (false, [(false, .int .i64)])] ses_where_un [⟨.int .i64, x0⟩, ⟨.int .i64, x1⟩, ⟨.int .i64, x2⟩, ⟨.int .i64, x3⟩, ⟨.int .i64, x4⟩, ⟨.slice (.pair (.int .i64) (.pair (.int .i64) (.slice (.int .u8)))), x5⟩, ⟨.int .i64, x6⟩, ⟨.int .i64, x7⟩, ⟨.int .i64, x8⟩, ⟨.int .i64, x9⟩, ⟨.str, x10⟩, ⟨.str, x11⟩, ⟨.int .i64, x12⟩, ⟨.slice (.str), x13⟩, ⟨.slice (.int .i64), x14⟩, ⟨.int .i64, x15⟩, ⟨.int .i64, x16⟩, ⟨.int .i64, x17⟩, ⟨.int .i64, x18⟩, ⟨.slice (.int .u8), x19⟩] := ⟨_, rfl⟩
noncomputable def ses_where : (Int) → (Int) → (Int) → (Int) → (Int) → (List (Int × Int × (List Int))) → (Int) → (Int) → (Int) → (Int) → (ByteArray) → (ByteArray) → (Int) → (List ByteArray) → (List Int) → (Int) → (Int) → (Int) → (Int) → (List Int) → Option ((List Int) × Int × Int × Int × ByteArray × ByteArray × Int × (List ByteArray) × (List Int) × Int × Int × Int × Int × (List Int) × Int) := ses_where_ex.choose
theorem ses_where_raw (x0 : Int) (x1 : Int) (x2 : Int) (x3 : Int) (x4 : Int) (x5 : List (Int × Int × (List Int))) (x6 : Int) (x7 : Int) (x8 : Int) (x9 : Int) (x10 : ByteArray) (x11 : ByteArray) (x12 : Int) (x13 : List ByteArray) (x14 : List Int) (x15 : Int) (x16 : Int) (x17 : Int) (x18 : Int) (x19 : List Int) : ses_where x0 x1 x2 x3 x4 x5 x6 x7 x8 x9 x10 x11 x12 x13 x14 x15 x16 x17 x18 x19 = funRun ses_where_C 3 25 [(true, [(false, .int .i64), (false, .int .i64), (false, .int .i64), (false, .int .i64), (false, .int .i64), (false, .slice (.pair (.int .i64) (.pair (.int .i64) (.slice (.int .u8))))), (false, .int .i64)]), (true, [(false, .int .i64), (false, .int .i64), (false, .int .i64), (false, .str), (false, .str), (false, .int .i64), (false, .slice (.str)), (false, .slice (.int .i64)), (false, .int .i64), (false, .int .i64), (false, .int .i64), (false, .int .i64), (false, .slice (.int .u8))])] [(false, [(false, .slice (.int .i64))]), (true, [(false, .int .i64), (false, .int .i64), (false, .int .i64), (false, .str), (false, .str), (false, .int .i64), (false, .slice (.str)), (false, .slice (.int .i64)), (false, .int .i64), (false, .int .i64), (false, .int .i64), (false, .int .i64), (false, .slice (.int .u8))]), (false, [(false, .int .i64)])] ses_where_un [⟨.int .i64, x0⟩, ⟨.int .i64, x1⟩, ⟨.int .i64, x2⟩, ⟨.int .i64, x3⟩, ⟨.int .i64, x4⟩, ⟨.slice (.pair (.int .i64) (.pair (.int .i64) (.slice (.int .u8)))), x5⟩, ⟨.int .i64, x6⟩, ⟨.int .i64, x7⟩, ⟨.int .i64, x8⟩, ⟨.int .i64, x9⟩, ⟨.str, x10⟩, ⟨.str, x11⟩, ⟨.int .i64, x12⟩, ⟨.slice (.str), x13⟩, ⟨.slice (.int .i64), x14⟩, ⟨.int .i64, x15⟩, ⟨.int .i64, x16⟩, ⟨.int .i64, x17⟩, ⟨.int .i64, x18⟩, ⟨.slice (.int .u8), x19⟩] := congrFun (congrFun (congrFun (congrFun (congrFun (congrFun (congrFun (congrFun (congrFun (congrFun (congrFun (congrFun (congrFun (congrFun (congrFun (congrFun (congrFun (congrFun (congrFun (congrFun (ses_where_ex.choose_spec) x0) x1) x2) x3) x4) x5) x6) x7) x8) x9) x10) x11) x12) x13) x14) x15) x16) x17) x18) x19
noncomputable def ses_where_l1 (y0 : Int) (y1 : Int) (y2 : Int) (y3 : Int) (y4 : Int) (y5 : ByteArray) (y6 : ByteArray) (y7 : Int) (y8 : List (ByteArray)) (y9 : List (Int)) (y10 : Int) (y11 : Int) (y12 : Int) (y13 : Int) (y14 : List (Int)) (y15 : Int) (y16 : Int) (y17 : Int) (y18 : ByteArray) (y19 : ByteArray) (y20 : Int) (y21 : Int) (y22 : Int) (y23 : Int) (y24 : Int) (y25 : List (Int)) : Option ((List Int) × Int × Int × Int × ByteArray × ByteArray × Int × (List ByteArray) × (List Int) × Int × Int × Int × Int × (List Int) × Int) := loopAt ses_where_C 3 25 [(false, [(false, .slice (.int .i64))]), (true, [(false, .int .i64), (false, .int .i64), (false, .int .i64), (false, .str), (false, .str), (false, .int .i64), (false, .slice (.str)), (false, .slice (.int .i64)), (false, .int .i64), (false, .int .i64), (false, .int .i64), (false, .int .i64), (false, .slice (.int .u8))]), (false, [(false, .int .i64)])] ses_where_un [true, true, false, true, false, true, false, true, false, true, false] (St.ofLists [(3, .ptr 124 0), (5, .ptr 140 0), (8, .ow 60), (19, .int .i64 y0), (20, .int .i64 y1)] [(124, some (.cells [.int .i64 y2, .int .i64 y3, .int .i64 y4, .str y5, .str y6, .int .i64 y7, .fz (Ty.str) y8 false false, .fz (Ty.int IntKind.i64) y9 false false, .int .i64 y10, .int .i64 y11, .int .i64 y12, .int .i64 y13, .fz (Ty.int IntKind.u8) y14 false false])), (140, some (.cells [.int .i64 y15, .int .i64 y16, .int .i64 y17, .str y18, .str y19, .int .i64 y20, .nils, .nils, .int .i64 y21, .int .i64 y22, .int .i64 y23, .int .i64 y24, .nils])), (60, some (.row (Ty.int IntKind.i64) y25 0 false))] [140, 124, 116, 308, 300, 60])
theorem ses_where_eq (x0 : Int) (x1 : Int) (x2 : Int) (x3 : Int) (x4 : Int) (x5 : List (Int × Int × (List Int))) (x6 : Int) (x7 : Int) (x8 : Int) (x9 : Int) (x10 : ByteArray) (x11 : ByteArray) (x12 : Int) (x13 : List ByteArray) (x14 : List Int) (x15 : Int) (x16 : Int) (x17 : Int) (x18 : Int) (x19 : List Int) : ses_where x0 x1 x2 x3 x4 x5 x6 x7 x8 x9 x10 x11 x12 x13 x14 x15 x16 x17 x18 x19 =
  bif x7 == 2
  then ses_where_l1 (x3) (0) (x7) (x8) (x9) (x10) (x11) (x12) (x13) (x14) (x15) (x16) (x17) (x18) (x19) (0) (0) (0) ((⟨#[]⟩ : ByteArray)) ((⟨#[]⟩ : ByteArray)) (0) (0) (0) (0) (0) ([])
  else bif x7 == 3
    then bif decide (isize x10 + isize (⟨#[32]⟩ : ByteArray) ≤ room)
      then (strconv_Itoa x0).bind fun val6 =>
        bif decide (isize (x10 ++ (⟨#[32]⟩ : ByteArray)) + isize val6 ≤ room)
          then bif decide (isize (x10 ++ (⟨#[32]⟩ : ByteArray) ++ val6) + isize (⟨#[32]⟩ : ByteArray) ≤ room)
            then (strconv_Itoa x1).bind fun val12 =>
              bif decide (isize (x10 ++ (⟨#[32]⟩ : ByteArray) ++ val6 ++ (⟨#[32]⟩ : ByteArray)) + isize val12 ≤ room)
                then (compass_Route (x10 ++ (⟨#[32]⟩ : ByteArray) ++ val6 ++ (⟨#[32]⟩ : ByteArray) ++ val12) x3).bind fun val16 =>
                  some (([val16.1]), ((x7), ((x8), ((x9), ((x10), ((x11), ((x12), ((x13), ((x14), ((x15), ((x16), ((x17), ((x18), ((x19), (val16.2)))))))))))))))
                else none
            else none
          else none
      else none
    else bif x7 == 4
      then (engine_Where x10 x12 x3).bind fun val6 =>
        some (([val6.1]), ((x7), ((x8), ((x9), ((x10), ((x11), ((x12), ((x13), ((x14), ((x15), ((x16), ((x17), ((x18), ((x19), (val6.2)))))))))))))))
      else bif x7 == 5
        then bif decide (x3 = 0)
          then none
          else some (([x1.tmod x3]), ((x7), ((x8), ((x9), ((x10), ((x11), ((x12), ((x13), ((x14), ((x15), ((x16), ((x17), ((x18), ((x19), (0)))))))))))))))
        else bif x7 == 6
          then bif x7 == 6
            then (ses_Local x15).bind fun val12 =>
              bif val12.2.2 == 0
                then bif decide (val12.1 ≥ x3)
                  then some (([val12.1]), ((x7), ((x8), ((x9), ((x10), ((x11), ((x12), ((x13), ((x14), ((val12.2.1), ((x16), ((x17), ((x18), ((x19), (9)))))))))))))))
                  else some (([val12.1]), ((x7), ((x8), ((x9), ((x10), ((x11), ((x12), ((x13), ((x14), ((val12.2.1), ((x16), ((x17), ((x18), ((x19), (val12.2.2)))))))))))))))
                else some (([val12.1]), ((x7), ((x8), ((x9), ((x10), ((x11), ((x12), ((x13), ((x14), ((val12.2.1), ((x16), ((x17), ((x18), ((x19), (val12.2.2)))))))))))))))
            else some (([]), ((x7), ((x8), ((x9), ((x10), ((x11), ((x12), ((x13), ((x14), ((x15), ((x16), ((x17), ((x18), ((x19), (1)))))))))))))))
          else bif x7 == 7
            then bif x7 == 7
              then (ses_Local x15).bind fun val14 =>
                bif val14.2.2 == 0
                  then bif decide (val14.1 ≥ x3)
                    then some (([val14.1]), ((x7), ((x8), ((x9), ((x10), ((x11), ((x12), ((x13), ((x14), ((val14.2.1), ((x16), ((x17), ((x18), ((x19), (9)))))))))))))))
                    else some (([val14.1]), ((x7), ((x8), ((x9), ((x10), ((x11), ((x12), ((x13), ((x14), ((val14.2.1), ((x16), ((x17), ((x18), ((x19), (val14.2.2)))))))))))))))
                  else some (([val14.1]), ((x7), ((x8), ((x9), ((x10), ((x11), ((x12), ((x13), ((x14), ((val14.2.1), ((x16), ((x17), ((x18), ((x19), (val14.2.2)))))))))))))))
              else some (([]), ((x7), ((x8), ((x9), ((x10), ((x11), ((x12), ((x13), ((x14), ((x15), ((x16), ((x17), ((x18), ((x19), (1)))))))))))))))
            else bif x7 == 8
              then bif x7 == 8
                then (ses_Local x15).bind fun val16 =>
                  bif val16.2.2 == 0
                    then bif decide (val16.1 ≥ x3)
                      then some (([val16.1]), ((x7), ((x8), ((x9), ((x10), ((x11), ((x12), ((x13), ((x14), ((val16.2.1), ((x16), ((x17), ((x18), ((x19), (9)))))))))))))))
                      else some (([val16.1]), ((x7), ((x8), ((x9), ((x10), ((x11), ((x12), ((x13), ((x14), ((val16.2.1), ((x16), ((x17), ((x18), ((x19), (val16.2.2)))))))))))))))
                    else some (([val16.1]), ((x7), ((x8), ((x9), ((x10), ((x11), ((x12), ((x13), ((x14), ((val16.2.1), ((x16), ((x17), ((x18), ((x19), (val16.2.2)))))))))))))))
                else some (([]), ((x7), ((x8), ((x9), ((x10), ((x11), ((x12), ((x13), ((x14), ((x15), ((x16), ((x17), ((x18), ((x19), (1)))))))))))))))
              else bif x7 == 9
                then bif x7 == 9
                  then (ses_Local x15).bind fun val18 =>
                    bif val18.2.2 == 0
                      then bif decide (val18.1 ≥ x3)
                        then some (([val18.1]), ((x7), ((x8), ((x9), ((x10), ((x11), ((x12), ((x13), ((x14), ((val18.2.1), ((x16), ((x17), ((x18), ((x19), (9)))))))))))))))
                        else some (([val18.1]), ((x7), ((x8), ((x9), ((x10), ((x11), ((x12), ((x13), ((x14), ((val18.2.1), ((x16), ((x17), ((x18), ((x19), (val18.2.2)))))))))))))))
                      else some (([val18.1]), ((x7), ((x8), ((x9), ((x10), ((x11), ((x12), ((x13), ((x14), ((val18.2.1), ((x16), ((x17), ((x18), ((x19), (val18.2.2)))))))))))))))
                  else some (([]), ((x7), ((x8), ((x9), ((x10), ((x11), ((x12), ((x13), ((x14), ((x15), ((x16), ((x17), ((x18), ((x19), (1)))))))))))))))
                else bif x7 == 10
                  then (ses_Local x15).bind fun val18 =>
                    bif val18.2.2 == 0
                      then bif decide (val18.1 ≥ x3)
                        then some (([val18.1]), ((x7), ((x8), ((x9), ((x10), ((x11), ((x12), ((x13), ((x14), ((val18.2.1), ((x16), ((x17), ((x18), ((x19), (9)))))))))))))))
                        else some (([val18.1]), ((x7), ((x8), ((x9), ((x10), ((x11), ((x12), ((x13), ((x14), ((val18.2.1), ((x16), ((x17), ((x18), ((x19), (val18.2.2)))))))))))))))
                      else some (([val18.1]), ((x7), ((x8), ((x9), ((x10), ((x11), ((x12), ((x13), ((x14), ((val18.2.1), ((x16), ((x17), ((x18), ((x19), (val18.2.2)))))))))))))))
                  else some (([]), ((x7), ((x8), ((x9), ((x10), ((x11), ((x12), ((x13), ((x14), ((x15), ((x16), ((x17), ((x18), ((x19), (1))))))))))))))) := (ses_where_raw x0 x1 x2 x3 x4 x5 x6 x7 x8 x9 x10 x11 x12 x13 x14 x15 x16 x17 x18 x19).trans (by kernel_rfl)
theorem ses_where_l1_eq (y0 : Int) (y1 : Int) (y2 : Int) (y3 : Int) (y4 : Int) (y5 : ByteArray) (y6 : ByteArray) (y7 : Int) (y8 : List (ByteArray)) (y9 : List (Int)) (y10 : Int) (y11 : Int) (y12 : Int) (y13 : Int) (y14 : List (Int)) (y15 : Int) (y16 : Int) (y17 : Int) (y18 : ByteArray) (y19 : ByteArray) (y20 : Int) (y21 : Int) (y22 : Int) (y23 : Int) (y24 : Int) (y25 : List (Int)) : ses_where_l1 y0 y1 y2 y3 y4 y5 y6 y7 y8 y9 y10 y11 y12 y13 y14 y15 y16 y17 y18 y19 y20 y21 y22 y23 y24 y25 =
  bif decide (y1 < y0)
  then bif decide ((ilen y25 + ilen [y1]) * 8 ≤ room)
    then ses_where_l1 (y0) (IntKind.i64.wrap (y1 + 1)) (y2) (y3) (y4) (y5) (y6) (y7) (y8) (y9) (y10) (y11) (y12) (y13) (y14) (y15) (y16) (y17) (y18) (y19) (y20) (y21) (y22) (y23) (y24) (y25 ++ [y1])
    else none
  else some ((y25), ((y2), ((y3), ((y4), ((y5), ((y6), ((y7), ((y8), ((y9), ((y10), ((y11), ((y12), ((y13), ((y14), (0))))))))))))))) := (loopAt_step _ _ _ _ _ _ _).trans (by kernel_rfl)
noncomputable def ses_where_sig : Sig := { pm := [(true, [(false, .int .i64), (false, .int .i64), (false, .int .i64), (false, .int .i64), (false, .int .i64), (false, .slice (.pair (.int .i64) (.pair (.int .i64) (.slice (.int .u8))))), (false, .int .i64)]), (true, [(false, .int .i64), (false, .int .i64), (false, .int .i64), (false, .str), (false, .str), (false, .int .i64), (false, .slice (.str)), (false, .slice (.int .i64)), (false, .int .i64), (false, .int .i64), (false, .int .i64), (false, .int .i64), (false, .slice (.int .u8))])], rm := [(false, [(false, .slice (.int .i64))]), (true, [(false, .int .i64), (false, .int .i64), (false, .int .i64), (false, .str), (false, .str), (false, .int .i64), (false, .slice (.str)), (false, .slice (.int .i64)), (false, .int .i64), (false, .int .i64), (false, .int .i64), (false, .int .i64), (false, .slice (.int .u8))]), (false, [(false, .int .i64)])], f := fun | [⟨.int .i64, x0⟩, ⟨.int .i64, x1⟩, ⟨.int .i64, x2⟩, ⟨.int .i64, x3⟩, ⟨.int .i64, x4⟩, ⟨.slice (.pair (.int .i64) (.pair (.int .i64) (.slice (.int .u8)))), x5⟩, ⟨.int .i64, x6⟩, ⟨.int .i64, x7⟩, ⟨.int .i64, x8⟩, ⟨.int .i64, x9⟩, ⟨.str, x10⟩, ⟨.str, x11⟩, ⟨.int .i64, x12⟩, ⟨.slice (.str), x13⟩, ⟨.slice (.int .i64), x14⟩, ⟨.int .i64, x15⟩, ⟨.int .i64, x16⟩, ⟨.int .i64, x17⟩, ⟨.int .i64, x18⟩, ⟨.slice (.int .u8), x19⟩] => .yes _ (ses_where x0 x1 x2 x3 x4 x5 x6 x7 x8 x9 x10 x11 x12 x13 x14 x15 x16 x17 x18 x19) ses_where_mk | _ => .no }
theorem ses_where_ok : SigOk Tryd.prog 25 ses_where_sig := by
  refine contract_of (C := ses_where_C) (d := 3) ⟨S58_ok, noPs⟩ (callable_ex (by kernel_rfl)) ?_
  intro dvs
  unfold ses_where_sig
  dsimp only
  split
  · refine .inr ⟨_, ses_where_un, ses_where_mk, congrArg (fun o => Cl.yes _ o _) (ses_where_raw _ _ _ _ _ _ _ _ _ _ _ _ _ _ _ _ _ _ _ _), ?_⟩
    intro ds x h
    unfold ses_where_un at h
    split at h
    · cases h; rfl
    · cases h
  · exact .inl rfl
noncomputable def S59 : List (Nat × Sig) := (25, ses_where_sig) :: S58
theorem S59_ok : ListOk Tryd.prog S59 := ListOk.cons S58_ok ses_where_ok
noncomputable def ref29_where_C : Cfg := { P := Tryd.prog, sig := lookSig S59, hb := fun f b =>   bif Nat.beq f 27 && Nat.beq b 1 then some { tmps := [2, 3, 7, 8], obs := [116, 124, 60], nils := [(7, 60, (.int .i64))], kl := [124, 116, 332, 324, 60] } else none, hr := fun _ _ => none }
noncomputable def ref29_where_un : List DV → Option ((List Int) × Int × Int) := fun | [⟨.slice (.int .i64), r0⟩, ⟨.int .i64, r1⟩, ⟨.int .i64, r2⟩] => some (r0, r1, r2) | _ => none
noncomputable def ref29_where_mk : ((List Int) × Int × Int) → List DV := fun ⟨r0, r1, r2⟩ => [⟨.slice (.int .i64), r0⟩, ⟨.int .i64, r1⟩, ⟨.int .i64, r2⟩]
theorem ref29_where_ex : ∃ f : (Int) → (Int) → (Int) → (Int) → (Int) → (List (Int × Int × (List Int))) → (Int) → (Int) → (Int) → (Int) → (ByteArray) → (ByteArray) → (Int) → (List ByteArray) → (List Int) → (Int) → (Int) → (Int) → (Int) → (List Int) → Option ((List Int) × Int × Int), f = fun (x0 : Int) (x1 : Int) (x2 : Int) (x3 : Int) (x4 : Int) (x5 : List (Int × Int × (List Int))) (x6 : Int) (x7 : Int) (x8 : Int) (x9 : Int) (x10 : ByteArray) (x11 : ByteArray) (x12 : Int) (x13 : List ByteArray) (x14 : List Int) (x15 : Int) (x16 : Int) (x17 : Int) (x18 : Int) (x19 : List Int) => funRun ref29_where_C 3 27 [(true, [(false, .int .i64), (false, .int .i64), (false, .int .i64), (false, .int .i64), (false, .int .i64), (false, .slice (.pair (.int .i64) (.pair (.int .i64) (.slice (.int .u8))))), (false, .int .i64)]), (true, [(false, .int .i64), (false, .int .i64), (false, .int .i64), (false, .str), (false, .str), (false, .int .i64), (false, .slice (.str)), (false, .slice (.int .i64)), (false, .int .i64), (false, .int .i64), (false, .int .i64), (false, .int .i64), (false, .slice (.int .u8))])] [(false, [(false, .slice (.int .i64))]), (false, [(false, .int .i64)]), (false, [(false, .int .i64)])] ref29_where_un [⟨.int .i64, x0⟩, ⟨.int .i64, x1⟩, ⟨.int .i64, x2⟩, ⟨.int .i64, x3⟩, ⟨.int .i64, x4⟩, ⟨.slice (.pair (.int .i64) (.pair (.int .i64) (.slice (.int .u8)))), x5⟩, ⟨.int .i64, x6⟩, ⟨.int .i64, x7⟩, ⟨.int .i64, x8⟩, ⟨.int .i64, x9⟩, ⟨.str, x10⟩, ⟨.str, x11⟩, ⟨.int .i64, x12⟩, ⟨.slice (.str), x13⟩, ⟨.slice (.int .i64), x14⟩, ⟨.int .i64, x15⟩, ⟨.int .i64, x16⟩, ⟨.int .i64, x17⟩, ⟨.int .i64, x18⟩, ⟨.slice (.int .u8), x19⟩] := ⟨_, rfl⟩
noncomputable def ref29_where : (Int) → (Int) → (Int) → (Int) → (Int) → (List (Int × Int × (List Int))) → (Int) → (Int) → (Int) → (Int) → (ByteArray) → (ByteArray) → (Int) → (List ByteArray) → (List Int) → (Int) → (Int) → (Int) → (Int) → (List Int) → Option ((List Int) × Int × Int) := ref29_where_ex.choose
theorem ref29_where_raw (x0 : Int) (x1 : Int) (x2 : Int) (x3 : Int) (x4 : Int) (x5 : List (Int × Int × (List Int))) (x6 : Int) (x7 : Int) (x8 : Int) (x9 : Int) (x10 : ByteArray) (x11 : ByteArray) (x12 : Int) (x13 : List ByteArray) (x14 : List Int) (x15 : Int) (x16 : Int) (x17 : Int) (x18 : Int) (x19 : List Int) : ref29_where x0 x1 x2 x3 x4 x5 x6 x7 x8 x9 x10 x11 x12 x13 x14 x15 x16 x17 x18 x19 = funRun ref29_where_C 3 27 [(true, [(false, .int .i64), (false, .int .i64), (false, .int .i64), (false, .int .i64), (false, .int .i64), (false, .slice (.pair (.int .i64) (.pair (.int .i64) (.slice (.int .u8))))), (false, .int .i64)]), (true, [(false, .int .i64), (false, .int .i64), (false, .int .i64), (false, .str), (false, .str), (false, .int .i64), (false, .slice (.str)), (false, .slice (.int .i64)), (false, .int .i64), (false, .int .i64), (false, .int .i64), (false, .int .i64), (false, .slice (.int .u8))])] [(false, [(false, .slice (.int .i64))]), (false, [(false, .int .i64)]), (false, [(false, .int .i64)])] ref29_where_un [⟨.int .i64, x0⟩, ⟨.int .i64, x1⟩, ⟨.int .i64, x2⟩, ⟨.int .i64, x3⟩, ⟨.int .i64, x4⟩, ⟨.slice (.pair (.int .i64) (.pair (.int .i64) (.slice (.int .u8)))), x5⟩, ⟨.int .i64, x6⟩, ⟨.int .i64, x7⟩, ⟨.int .i64, x8⟩, ⟨.int .i64, x9⟩, ⟨.str, x10⟩, ⟨.str, x11⟩, ⟨.int .i64, x12⟩, ⟨.slice (.str), x13⟩, ⟨.slice (.int .i64), x14⟩, ⟨.int .i64, x15⟩, ⟨.int .i64, x16⟩, ⟨.int .i64, x17⟩, ⟨.int .i64, x18⟩, ⟨.slice (.int .u8), x19⟩] := congrFun (congrFun (congrFun (congrFun (congrFun (congrFun (congrFun (congrFun (congrFun (congrFun (congrFun (congrFun (congrFun (congrFun (congrFun (congrFun (congrFun (congrFun (congrFun (congrFun (ref29_where_ex.choose_spec) x0) x1) x2) x3) x4) x5) x6) x7) x8) x9) x10) x11) x12) x13) x14) x15) x16) x17) x18) x19
noncomputable def ref29_where_l1 (y0 : Int) (y1 : Int) (y2 : Int) (y3 : Int) (y4 : Int) (y5 : Int) (y6 : List ((Int) × ((Int) × (List (Int))))) (y7 : Int) (y8 : Int) (y9 : Int) (y10 : Int) (y11 : ByteArray) (y12 : ByteArray) (y13 : Int) (y14 : List (ByteArray)) (y15 : List (Int)) (y16 : Int) (y17 : Int) (y18 : Int) (y19 : Int) (y20 : List (Int)) (y21 : List (Int)) : Option ((List Int) × Int × Int) := loopAt ref29_where_C 3 27 [(false, [(false, .slice (.int .i64))]), (false, [(false, .int .i64)]), (false, [(false, .int .i64)])] ref29_where_un [true, false, true, false, true, false, true, false, true, false] (St.ofLists [(2, .ptr 116 0), (3, .ptr 124 0), (7, .ow 60), (8, .int .i64 y0)] [(116, some (.cells [.int .i64 y1, .int .i64 y2, .int .i64 y3, .int .i64 y4, .int .i64 y5, .fz ((Ty.int IntKind.i64).pair ((Ty.int IntKind.i64).pair (Ty.int IntKind.u8).slice)) y6 false false, .int .i64 y7])), (124, some (.cells [.int .i64 y8, .int .i64 y9, .int .i64 y10, .str y11, .str y12, .int .i64 y13, .fz (Ty.str) y14 false false, .fz (Ty.int IntKind.i64) y15 false false, .int .i64 y16, .int .i64 y17, .int .i64 y18, .int .i64 y19, .fz (Ty.int IntKind.u8) y20 false false])), (60, some (.row (Ty.int IntKind.i64) y21 0 false))] [124, 116, 332, 324, 60])
theorem ref29_where_eq (x0 : Int) (x1 : Int) (x2 : Int) (x3 : Int) (x4 : Int) (x5 : List (Int × Int × (List Int))) (x6 : Int) (x7 : Int) (x8 : Int) (x9 : Int) (x10 : ByteArray) (x11 : ByteArray) (x12 : Int) (x13 : List ByteArray) (x14 : List Int) (x15 : Int) (x16 : Int) (x17 : Int) (x18 : Int) (x19 : List Int) : ref29_where x0 x1 x2 x3 x4 x5 x6 x7 x8 x9 x10 x11 x12 x13 x14 x15 x16 x17 x18 x19 =
  bif x7 == 2
  then ref29_where_l1 (0) (x0) (x1) (x2) (x3) (x4) (x5) (x6) (x7) (x8) (x9) (x10) (x11) (x12) (x13) (x14) (x15) (x16) (x17) (x18) (x19) ([])
  else bif x7 == 3
    then bif decide (isize x10 + isize (⟨#[32]⟩ : ByteArray) ≤ room)
      then (ref29_decimal x0).bind fun val6 =>
        bif decide (isize (x10 ++ (⟨#[32]⟩ : ByteArray)) + isize val6 ≤ room)
          then bif decide (isize (x10 ++ (⟨#[32]⟩ : ByteArray) ++ val6) + isize (⟨#[32]⟩ : ByteArray) ≤ room)
            then (ref29_decimal x1).bind fun val12 =>
              bif decide (isize (x10 ++ (⟨#[32]⟩ : ByteArray) ++ val6 ++ (⟨#[32]⟩ : ByteArray)) + isize val12 ≤ room)
                then (ref03_Route (x10 ++ (⟨#[32]⟩ : ByteArray) ++ val6 ++ (⟨#[32]⟩ : ByteArray) ++ val12) x3).bind fun val16 =>
                  some (([val16.1]), ((x15), (val16.2)))
                else none
            else none
          else none
      else none
    else bif x7 == 4
      then (ref25_Where x10 x12 x3).bind fun val6 =>
        some (([val6.1]), ((x15), (val6.2)))
      else bif x7 == 5
        then bif decide (x3 = 0)
          then none
          else some (([x1.tmod x3]), ((x15), (0)))
        else bif x7 == 6
          then bif x7 == 6
            then (ref29_Local x15).bind fun val12 =>
              bif val12.2.2 == 0
                then bif decide (val12.1 ≥ x3)
                  then some (([]), ((0), (9)))
                  else some (([val12.1]), ((val12.2.1), (val12.2.2)))
                else some (([val12.1]), ((val12.2.1), (val12.2.2)))
            else some (([]), ((0), (1)))
          else bif x7 == 7
            then bif x7 == 7
              then (ref29_Local x15).bind fun val14 =>
                bif val14.2.2 == 0
                  then bif decide (val14.1 ≥ x3)
                    then some (([]), ((0), (9)))
                    else some (([val14.1]), ((val14.2.1), (val14.2.2)))
                  else some (([val14.1]), ((val14.2.1), (val14.2.2)))
              else some (([]), ((0), (1)))
            else bif x7 == 8
              then bif x7 == 8
                then (ref29_Local x15).bind fun val16 =>
                  bif val16.2.2 == 0
                    then bif decide (val16.1 ≥ x3)
                      then some (([]), ((0), (9)))
                      else some (([val16.1]), ((val16.2.1), (val16.2.2)))
                    else some (([val16.1]), ((val16.2.1), (val16.2.2)))
                else some (([]), ((0), (1)))
              else bif x7 == 9
                then bif x7 == 9
                  then (ref29_Local x15).bind fun val18 =>
                    bif val18.2.2 == 0
                      then bif decide (val18.1 ≥ x3)
                        then some (([]), ((0), (9)))
                        else some (([val18.1]), ((val18.2.1), (val18.2.2)))
                      else some (([val18.1]), ((val18.2.1), (val18.2.2)))
                  else some (([]), ((0), (1)))
                else bif x7 == 10
                  then (ref29_Local x15).bind fun val18 =>
                    bif val18.2.2 == 0
                      then bif decide (val18.1 ≥ x3)
                        then some (([]), ((0), (9)))
                        else some (([val18.1]), ((val18.2.1), (val18.2.2)))
                      else some (([val18.1]), ((val18.2.1), (val18.2.2)))
                  else some (([]), ((0), (1))) := (ref29_where_raw x0 x1 x2 x3 x4 x5 x6 x7 x8 x9 x10 x11 x12 x13 x14 x15 x16 x17 x18 x19).trans (by kernel_rfl)
theorem ref29_where_l1_eq (y0 : Int) (y1 : Int) (y2 : Int) (y3 : Int) (y4 : Int) (y5 : Int) (y6 : List ((Int) × ((Int) × (List (Int))))) (y7 : Int) (y8 : Int) (y9 : Int) (y10 : Int) (y11 : ByteArray) (y12 : ByteArray) (y13 : Int) (y14 : List (ByteArray)) (y15 : List (Int)) (y16 : Int) (y17 : Int) (y18 : Int) (y19 : Int) (y20 : List (Int)) (y21 : List (Int)) : ref29_where_l1 y0 y1 y2 y3 y4 y5 y6 y7 y8 y9 y10 y11 y12 y13 y14 y15 y16 y17 y18 y19 y20 y21 =
  bif decide (y0 < y4)
  then bif decide ((ilen y21 + ilen [y0]) * 8 ≤ room)
    then ref29_where_l1 (IntKind.i64.wrap (y0 + 1)) (y1) (y2) (y3) (y4) (y5) (y6) (y7) (y8) (y9) (y10) (y11) (y12) (y13) (y14) (y15) (y16) (y17) (y18) (y19) (y20) (y21 ++ [y0])
    else none
  else some ((y21), ((y16), (0))) := (loopAt_step _ _ _ _ _ _ _).trans (by kernel_rfl)
noncomputable def ref29_where_sig : Sig := { pm := [(true, [(false, .int .i64), (false, .int .i64), (false, .int .i64), (false, .int .i64), (false, .int .i64), (false, .slice (.pair (.int .i64) (.pair (.int .i64) (.slice (.int .u8))))), (false, .int .i64)]), (true, [(false, .int .i64), (false, .int .i64), (false, .int .i64), (false, .str), (false, .str), (false, .int .i64), (false, .slice (.str)), (false, .slice (.int .i64)), (false, .int .i64), (false, .int .i64), (false, .int .i64), (false, .int .i64), (false, .slice (.int .u8))])], rm := [(false, [(false, .slice (.int .i64))]), (false, [(false, .int .i64)]), (false, [(false, .int .i64)])], f := fun | [⟨.int .i64, x0⟩, ⟨.int .i64, x1⟩, ⟨.int .i64, x2⟩, ⟨.int .i64, x3⟩, ⟨.int .i64, x4⟩, ⟨.slice (.pair (.int .i64) (.pair (.int .i64) (.slice (.int .u8)))), x5⟩, ⟨.int .i64, x6⟩, ⟨.int .i64, x7⟩, ⟨.int .i64, x8⟩, ⟨.int .i64, x9⟩, ⟨.str, x10⟩, ⟨.str, x11⟩, ⟨.int .i64, x12⟩, ⟨.slice (.str), x13⟩, ⟨.slice (.int .i64), x14⟩, ⟨.int .i64, x15⟩, ⟨.int .i64, x16⟩, ⟨.int .i64, x17⟩, ⟨.int .i64, x18⟩, ⟨.slice (.int .u8), x19⟩] => .yes _ (ref29_where x0 x1 x2 x3 x4 x5 x6 x7 x8 x9 x10 x11 x12 x13 x14 x15 x16 x17 x18 x19) ref29_where_mk | _ => .no }
theorem ref29_where_ok : SigOk Tryd.prog 27 ref29_where_sig := by
  refine contract_of (C := ref29_where_C) (d := 3) ⟨S59_ok, noPs⟩ (callable_ex (by kernel_rfl)) ?_
  intro dvs
  unfold ref29_where_sig
  dsimp only
  split
  · refine .inr ⟨_, ref29_where_un, ref29_where_mk, congrArg (fun o => Cl.yes _ o _) (ref29_where_raw _ _ _ _ _ _ _ _ _ _ _ _ _ _ _ _ _ _ _ _), ?_⟩
    intro ds x h
    unfold ref29_where_un at h
    split at h
    · cases h; rfl
    · cases h
  · exact .inl rfl
noncomputable def S60 : List (Nat × Sig) := (27, ref29_where_sig) :: S59
theorem S60_ok : ListOk Tryd.prog S60 := ListOk.cons S59_ok ref29_where_ok
noncomputable def ses_Open_C : Cfg := { P := Tryd.prog, sig := lookSig S60, hb := fun f b =>   bif Nat.beq f 18 && Nat.beq b 0 then some { tmps := [2, 3, 4, 8, 48, 49, 50], obs := [116, 124, 132, 164, 60], nils := [], kl := [164, 132, 124, 116, 748, 740, 628, 60], cn := [(164, 5, 60, (.pair (.int .i64) (.pair (.int .i64) (.slice (.int .u8)))))] } else none, hr := fun _ _ => none }
noncomputable def ses_Open_un : List DV → Option (Int × Int × Int × Int × Int × (List (Int × Int × (List Int))) × Int × Int) := fun | [⟨.int .i64, r0⟩, ⟨.int .i64, r1⟩, ⟨.int .i64, r2⟩, ⟨.int .i64, r3⟩, ⟨.int .i64, r4⟩, ⟨.slice (.pair (.int .i64) (.pair (.int .i64) (.slice (.int .u8)))), r5⟩, ⟨.int .i64, r6⟩, ⟨.int .i64, r7⟩] => some (r0, r1, r2, r3, r4, r5, r6, r7) | _ => none
noncomputable def ses_Open_mk : (Int × Int × Int × Int × Int × (List (Int × Int × (List Int))) × Int × Int) → List DV := fun ⟨r0, r1, r2, r3, r4, r5, r6, r7⟩ => [⟨.int .i64, r0⟩, ⟨.int .i64, r1⟩, ⟨.int .i64, r2⟩, ⟨.int .i64, r3⟩, ⟨.int .i64, r4⟩, ⟨.slice (.pair (.int .i64) (.pair (.int .i64) (.slice (.int .u8)))), r5⟩, ⟨.int .i64, r6⟩, ⟨.int .i64, r7⟩]
theorem ses_Open_ex : ∃ f : (Int) → (Int) → (Int) → (Int) → (Int) → (List (Int × Int × (List Int))) → (Int) → (Int) → (Int) → (Int) → (ByteArray) → (ByteArray) → (Int) → (List ByteArray) → (List Int) → (Int) → (Int) → (Int) → (Int) → (List Int) → Option (Int × Int × Int × Int × Int × (List (Int × Int × (List Int))) × Int × Int), f = fun (x0 : Int) (x1 : Int) (x2 : Int) (x3 : Int) (x4 : Int) (x5 : List (Int × Int × (List Int))) (x6 : Int) (x7 : Int) (x8 : Int) (x9 : Int) (x10 : ByteArray) (x11 : ByteArray) (x12 : Int) (x13 : List ByteArray) (x14 : List Int) (x15 : Int) (x16 : Int) (x17 : Int) (x18 : Int) (x19 : List Int) => funRun ses_Open_C 3 18 [(true, [(false, .int .i64), (false, .int .i64), (false, .int .i64), (false, .int .i64), (false, .int .i64), (false, .slice (.pair (.int .i64) (.pair (.int .i64) (.slice (.int .u8))))), (false, .int .i64)]), (true, [(false, .int .i64), (false, .int .i64), (false, .int .i64), (false, .str), (false, .str), (false, .int .i64), (false, .slice (.str)), (false, .slice (.int .i64)), (false, .int .i64), (false, .int .i64), (false, .int .i64), (false, .int .i64), (false, .slice (.int .u8))])] [(true, [(false, .int .i64), (false, .int .i64), (false, .int .i64), (false, .int .i64), (false, .int .i64), (false, .slice (.pair (.int .i64) (.pair (.int .i64) (.slice (.int .u8))))), (false, .int .i64)]), (false, [(false, .int .i64)])] ses_Open_un [⟨.int .i64, x0⟩, ⟨.int .i64, x1⟩, ⟨.int .i64, x2⟩, ⟨.int .i64, x3⟩, ⟨.int .i64, x4⟩, ⟨.slice (.pair (.int .i64) (.pair (.int .i64) (.slice (.int .u8)))), x5⟩, ⟨.int .i64, x6⟩, ⟨.int .i64, x7⟩, ⟨.int .i64, x8⟩, ⟨.int .i64, x9⟩, ⟨.str, x10⟩, ⟨.str, x11⟩, ⟨.int .i64, x12⟩, ⟨.slice (.str), x13⟩, ⟨.slice (.int .i64), x14⟩, ⟨.int .i64, x15⟩, ⟨.int .i64, x16⟩, ⟨.int .i64, x17⟩, ⟨.int .i64, x18⟩, ⟨.slice (.int .u8), x19⟩] := ⟨_, rfl⟩
noncomputable def ses_Open : (Int) → (Int) → (Int) → (Int) → (Int) → (List (Int × Int × (List Int))) → (Int) → (Int) → (Int) → (Int) → (ByteArray) → (ByteArray) → (Int) → (List ByteArray) → (List Int) → (Int) → (Int) → (Int) → (Int) → (List Int) → Option (Int × Int × Int × Int × Int × (List (Int × Int × (List Int))) × Int × Int) := ses_Open_ex.choose
theorem ses_Open_raw (x0 : Int) (x1 : Int) (x2 : Int) (x3 : Int) (x4 : Int) (x5 : List (Int × Int × (List Int))) (x6 : Int) (x7 : Int) (x8 : Int) (x9 : Int) (x10 : ByteArray) (x11 : ByteArray) (x12 : Int) (x13 : List ByteArray) (x14 : List Int) (x15 : Int) (x16 : Int) (x17 : Int) (x18 : Int) (x19 : List Int) : ses_Open x0 x1 x2 x3 x4 x5 x6 x7 x8 x9 x10 x11 x12 x13 x14 x15 x16 x17 x18 x19 = funRun ses_Open_C 3 18 [(true, [(false, .int .i64), (false, .int .i64), (false, .int .i64), (false, .int .i64), (false, .int .i64), (false, .slice (.pair (.int .i64) (.pair (.int .i64) (.slice (.int .u8))))), (false, .int .i64)]), (true, [(false, .int .i64), (false, .int .i64), (false, .int .i64), (false, .str), (false, .str), (false, .int .i64), (false, .slice (.str)), (false, .slice (.int .i64)), (false, .int .i64), (false, .int .i64), (false, .int .i64), (false, .int .i64), (false, .slice (.int .u8))])] [(true, [(false, .int .i64), (false, .int .i64), (false, .int .i64), (false, .int .i64), (false, .int .i64), (false, .slice (.pair (.int .i64) (.pair (.int .i64) (.slice (.int .u8))))), (false, .int .i64)]), (false, [(false, .int .i64)])] ses_Open_un [⟨.int .i64, x0⟩, ⟨.int .i64, x1⟩, ⟨.int .i64, x2⟩, ⟨.int .i64, x3⟩, ⟨.int .i64, x4⟩, ⟨.slice (.pair (.int .i64) (.pair (.int .i64) (.slice (.int .u8)))), x5⟩, ⟨.int .i64, x6⟩, ⟨.int .i64, x7⟩, ⟨.int .i64, x8⟩, ⟨.int .i64, x9⟩, ⟨.str, x10⟩, ⟨.str, x11⟩, ⟨.int .i64, x12⟩, ⟨.slice (.str), x13⟩, ⟨.slice (.int .i64), x14⟩, ⟨.int .i64, x15⟩, ⟨.int .i64, x16⟩, ⟨.int .i64, x17⟩, ⟨.int .i64, x18⟩, ⟨.slice (.int .u8), x19⟩] := congrFun (congrFun (congrFun (congrFun (congrFun (congrFun (congrFun (congrFun (congrFun (congrFun (congrFun (congrFun (congrFun (congrFun (congrFun (congrFun (congrFun (congrFun (congrFun (congrFun (ses_Open_ex.choose_spec) x0) x1) x2) x3) x4) x5) x6) x7) x8) x9) x10) x11) x12) x13) x14) x15) x16) x17) x18) x19
noncomputable def ses_Open_l0 (y0 : List (Int)) (y1 : Int) (y2 : Int) (y3 : Int) (y4 : Int) (y5 : Int) (y6 : Int) (y7 : Int) (y8 : List ((Int) × ((Int) × (List (Int))))) (y9 : Int) (y10 : Int) (y11 : Int) (y12 : Int) (y13 : ByteArray) (y14 : ByteArray) (y15 : Int) (y16 : List (ByteArray)) (y17 : List (Int)) (y18 : Int) (y19 : Int) (y20 : Int) (y21 : Int) (y22 : List (Int)) (y23 : Int) (y24 : Int) (y25 : Int) (y26 : Int) (y27 : Int) (y28 : Int) (y29 : Int) (y30 : Int) (y31 : Int) (y32 : Int) (y33 : Int) (y34 : Int) (y35 : List ((Int) × ((Int) × (List (Int))))) : Option (Int × Int × Int × Int × Int × (List (Int × Int × (List Int))) × Int × Int) := loopAt ses_Open_C 3 18 [(true, [(false, .int .i64), (false, .int .i64), (false, .int .i64), (false, .int .i64), (false, .int .i64), (false, .slice (.pair (.int .i64) (.pair (.int .i64) (.slice (.int .u8))))), (false, .int .i64)]), (false, [(false, .int .i64)])] ses_Open_un [true, true, true, true, true, true, true, true, false, true, false] (St.ofLists [(2, .ptr 116 0), (3, .ptr 124 0), (4, .ptr 132 0), (8, .ptr 164 0), (48, .fz (Ty.int IntKind.i64) y0 false false), (49, .int .i64 y1), (50, .int .i64 y2)] [(116, some (.cells [.int .i64 y3, .int .i64 y4, .int .i64 y5, .int .i64 y6, .int .i64 y7, .fz ((Ty.int IntKind.i64).pair ((Ty.int IntKind.i64).pair (Ty.int IntKind.u8).slice)) y8 false false, .int .i64 y9])), (124, some (.cells [.int .i64 y10, .int .i64 y11, .int .i64 y12, .str y13, .str y14, .int .i64 y15, .fz (Ty.str) y16 false false, .fz (Ty.int IntKind.i64) y17 false false, .int .i64 y18, .int .i64 y19, .int .i64 y20, .int .i64 y21, .fz (Ty.int IntKind.u8) y22 false false])), (132, some (.cells [.int .i64 y23, .int .i64 y24, .int .i64 y25, .int .i64 y26, .int .i64 y27, .nils, .int .i64 y28])), (164, some (.cells [.int .i64 y29, .int .i64 y30, .int .i64 y31, .int .i64 y32, .int .i64 y33, .ow 60, .int .i64 y34])), (60, some (.row ((Ty.int IntKind.i64).pair ((Ty.int IntKind.i64).pair (Ty.int IntKind.u8).slice)) y35 0 false))] [164, 132, 124, 116, 748, 740, 628, 60])
theorem ses_Open_eq (x0 : Int) (x1 : Int) (x2 : Int) (x3 : Int) (x4 : Int) (x5 : List (Int × Int × (List Int))) (x6 : Int) (x7 : Int) (x8 : Int) (x9 : Int) (x10 : ByteArray) (x11 : ByteArray) (x12 : Int) (x13 : List ByteArray) (x14 : List Int) (x15 : Int) (x16 : Int) (x17 : Int) (x18 : Int) (x19 : List Int) : ses_Open x0 x1 x2 x3 x4 x5 x6 x7 x8 x9 x10 x11 x12 x13 x14 x15 x16 x17 x18 x19 =
  bif decide (ilen x5 > 0)
  then some ((0), ((0), ((0), ((0), ((0), (([]), ((0), (11))))))))
  else bif x8 != 0
    then some ((0), ((0), ((0), ((0), ((0), (([]), ((0), (1))))))))
    else bif x9 != 0
      then some ((0), ((0), ((0), ((0), ((0), (([]), ((0), (1))))))))
      else (ses_where x0 x1 x2 x3 x4 x5 x6 x7 x8 x9 x10 x11 x12 x13 x14 x15 x16 x17 x18 x19).bind fun val6 =>
        bif val6.2.2.2.2.2.2.2.2.2.2.2.2.2.2 != 0
          then some ((0), ((0), ((0), ((0), ((0), (([]), ((0), (val6.2.2.2.2.2.2.2.2.2.2.2.2.2.2))))))))
          else bif decide (x1 > IntKind.i64.wrap (1099511627776 - ilen val6.1))
            then some ((0), ((0), ((0), ((0), ((0), (([]), ((0), (14))))))))
            else ses_Open_l0 (val6.1) (ilen val6.1) (0) (x0) (x1) (x2) (x3) (x4) (x5) (x6) (val6.2.1) (val6.2.2.1) (val6.2.2.2.1) (val6.2.2.2.2.1) (val6.2.2.2.2.2.1) (val6.2.2.2.2.2.2.1) (val6.2.2.2.2.2.2.2.1) (val6.2.2.2.2.2.2.2.2.1) (val6.2.2.2.2.2.2.2.2.2.1) (val6.2.2.2.2.2.2.2.2.2.2.1) (val6.2.2.2.2.2.2.2.2.2.2.2.1) (val6.2.2.2.2.2.2.2.2.2.2.2.2.1) (val6.2.2.2.2.2.2.2.2.2.2.2.2.2.1) (0) (0) (0) (0) (0) (0) (x0) (x1) (x2) (x3) (x4) (0) ([]) := (ses_Open_raw x0 x1 x2 x3 x4 x5 x6 x7 x8 x9 x10 x11 x12 x13 x14 x15 x16 x17 x18 x19).trans (by kernel_rfl)
theorem ses_Open_l0_eq (y0 : List (Int)) (y1 : Int) (y2 : Int) (y3 : Int) (y4 : Int) (y5 : Int) (y6 : Int) (y7 : Int) (y8 : List ((Int) × ((Int) × (List (Int))))) (y9 : Int) (y10 : Int) (y11 : Int) (y12 : Int) (y13 : ByteArray) (y14 : ByteArray) (y15 : Int) (y16 : List (ByteArray)) (y17 : List (Int)) (y18 : Int) (y19 : Int) (y20 : Int) (y21 : Int) (y22 : List (Int)) (y23 : Int) (y24 : Int) (y25 : Int) (y26 : Int) (y27 : Int) (y28 : Int) (y29 : Int) (y30 : Int) (y31 : Int) (y32 : Int) (y33 : Int) (y34 : Int) (y35 : List ((Int) × ((Int) × (List (Int))))) : ses_Open_l0 y0 y1 y2 y3 y4 y5 y6 y7 y8 y9 y10 y11 y12 y13 y14 y15 y16 y17 y18 y19 y20 y21 y22 y23 y24 y25 y26 y27 y28 y29 y30 y31 y32 y33 y34 y35 =
  bif decide (y2 < y1)
  then bif decide (0 ≤ y2)
    then (y0[y2.toNat]?).bind fun val4 =>
      (cmd_Put y10 y3 (IntKind.i64.wrap (y30 + 1)) y13 y14 y15 y16 y17 y18 y19 y20 y21 y22).bind fun val6 =>
        bif val6.2 != 0
          then some ((0), ((0), ((0), ((0), ((0), (([]), ((0), (val6.2))))))))
          else bif decide ((ilen y35 + ilen [(val4, IntKind.i64.wrap (y30 + 1), val6.1)]) * 40 ≤ room)
            then ses_Open_l0 (y0) (y1) (IntKind.i64.wrap (y2 + 1)) (y3) (y4) (y5) (y6) (y7) (y8) (y9) (y10) (y3) (IntKind.i64.wrap (y30 + 1)) (y13) (y14) (y15) (y16) (y17) (y18) (y19) (y20) (y21) (y22) (y23) (y24) (y25) (y26) (y27) (y28) (y29) (IntKind.i64.wrap (y30 + 1)) (y31) (y32) (y33) (y34) (y35 ++ [(val4, IntKind.i64.wrap (y30 + 1), val6.1)])
            else none
    else none
  else some ((y29), ((y30), ((y31), ((y32), ((y33), ((y35), ((y34), (0)))))))) := (loopAt_step _ _ _ _ _ _ _).trans (by kernel_rfl)
noncomputable def ses_Open_sig : Sig := { pm := [(true, [(false, .int .i64), (false, .int .i64), (false, .int .i64), (false, .int .i64), (false, .int .i64), (false, .slice (.pair (.int .i64) (.pair (.int .i64) (.slice (.int .u8))))), (false, .int .i64)]), (true, [(false, .int .i64), (false, .int .i64), (false, .int .i64), (false, .str), (false, .str), (false, .int .i64), (false, .slice (.str)), (false, .slice (.int .i64)), (false, .int .i64), (false, .int .i64), (false, .int .i64), (false, .int .i64), (false, .slice (.int .u8))])], rm := [(true, [(false, .int .i64), (false, .int .i64), (false, .int .i64), (false, .int .i64), (false, .int .i64), (false, .slice (.pair (.int .i64) (.pair (.int .i64) (.slice (.int .u8))))), (false, .int .i64)]), (false, [(false, .int .i64)])], f := fun | [⟨.int .i64, x0⟩, ⟨.int .i64, x1⟩, ⟨.int .i64, x2⟩, ⟨.int .i64, x3⟩, ⟨.int .i64, x4⟩, ⟨.slice (.pair (.int .i64) (.pair (.int .i64) (.slice (.int .u8)))), x5⟩, ⟨.int .i64, x6⟩, ⟨.int .i64, x7⟩, ⟨.int .i64, x8⟩, ⟨.int .i64, x9⟩, ⟨.str, x10⟩, ⟨.str, x11⟩, ⟨.int .i64, x12⟩, ⟨.slice (.str), x13⟩, ⟨.slice (.int .i64), x14⟩, ⟨.int .i64, x15⟩, ⟨.int .i64, x16⟩, ⟨.int .i64, x17⟩, ⟨.int .i64, x18⟩, ⟨.slice (.int .u8), x19⟩] => .yes _ (ses_Open x0 x1 x2 x3 x4 x5 x6 x7 x8 x9 x10 x11 x12 x13 x14 x15 x16 x17 x18 x19) ses_Open_mk | _ => .no }
theorem ses_Open_ok : SigOk Tryd.prog 18 ses_Open_sig := by
  refine contract_of (C := ses_Open_C) (d := 3) ⟨S60_ok, noPs⟩ (callable_ex (by kernel_rfl)) ?_
  intro dvs
  unfold ses_Open_sig
  dsimp only
  split
  · refine .inr ⟨_, ses_Open_un, ses_Open_mk, congrArg (fun o => Cl.yes _ o _) (ses_Open_raw _ _ _ _ _ _ _ _ _ _ _ _ _ _ _ _ _ _ _ _), ?_⟩
    intro ds x h
    unfold ses_Open_un at h
    split at h
    · cases h; rfl
    · cases h
  · exact .inl rfl
noncomputable def S61 : List (Nat × Sig) := (18, ses_Open_sig) :: S60
theorem S61_ok : ListOk Tryd.prog S61 := ListOk.cons S60_ok ses_Open_ok
noncomputable def ref29_Open_C : Cfg := { P := Tryd.prog, sig := lookSig S61, hb := fun f b =>   bif Nat.beq f 19 && Nat.beq b 0 then some { tmps := [2, 3, 4, 6, 7, 9, 10], obs := [116, 124, 132, 172, 60], nils := [], kl := [172, 132, 124, 116, 884, 876, 740, 188, 60], cn := [(172, 5, 60, (.pair (.int .i64) (.pair (.int .i64) (.slice (.int .u8)))))] } else none, hr := fun _ _ => none }
noncomputable def ref29_Open_un : List DV → Option (Int × Int × Int × Int × Int × (List (Int × Int × (List Int))) × Int × Int) := fun | [⟨.int .i64, r0⟩, ⟨.int .i64, r1⟩, ⟨.int .i64, r2⟩, ⟨.int .i64, r3⟩, ⟨.int .i64, r4⟩, ⟨.slice (.pair (.int .i64) (.pair (.int .i64) (.slice (.int .u8)))), r5⟩, ⟨.int .i64, r6⟩, ⟨.int .i64, r7⟩] => some (r0, r1, r2, r3, r4, r5, r6, r7) | _ => none
noncomputable def ref29_Open_mk : (Int × Int × Int × Int × Int × (List (Int × Int × (List Int))) × Int × Int) → List DV := fun ⟨r0, r1, r2, r3, r4, r5, r6, r7⟩ => [⟨.int .i64, r0⟩, ⟨.int .i64, r1⟩, ⟨.int .i64, r2⟩, ⟨.int .i64, r3⟩, ⟨.int .i64, r4⟩, ⟨.slice (.pair (.int .i64) (.pair (.int .i64) (.slice (.int .u8)))), r5⟩, ⟨.int .i64, r6⟩, ⟨.int .i64, r7⟩]
theorem ref29_Open_ex : ∃ f : (Int) → (Int) → (Int) → (Int) → (Int) → (List (Int × Int × (List Int))) → (Int) → (Int) → (Int) → (Int) → (ByteArray) → (ByteArray) → (Int) → (List ByteArray) → (List Int) → (Int) → (Int) → (Int) → (Int) → (List Int) → Option (Int × Int × Int × Int × Int × (List (Int × Int × (List Int))) × Int × Int), f = fun (x0 : Int) (x1 : Int) (x2 : Int) (x3 : Int) (x4 : Int) (x5 : List (Int × Int × (List Int))) (x6 : Int) (x7 : Int) (x8 : Int) (x9 : Int) (x10 : ByteArray) (x11 : ByteArray) (x12 : Int) (x13 : List ByteArray) (x14 : List Int) (x15 : Int) (x16 : Int) (x17 : Int) (x18 : Int) (x19 : List Int) => funRun ref29_Open_C 3 19 [(true, [(false, .int .i64), (false, .int .i64), (false, .int .i64), (false, .int .i64), (false, .int .i64), (false, .slice (.pair (.int .i64) (.pair (.int .i64) (.slice (.int .u8))))), (false, .int .i64)]), (true, [(false, .int .i64), (false, .int .i64), (false, .int .i64), (false, .str), (false, .str), (false, .int .i64), (false, .slice (.str)), (false, .slice (.int .i64)), (false, .int .i64), (false, .int .i64), (false, .int .i64), (false, .int .i64), (false, .slice (.int .u8))])] [(true, [(false, .int .i64), (false, .int .i64), (false, .int .i64), (false, .int .i64), (false, .int .i64), (false, .slice (.pair (.int .i64) (.pair (.int .i64) (.slice (.int .u8))))), (false, .int .i64)]), (false, [(false, .int .i64)])] ref29_Open_un [⟨.int .i64, x0⟩, ⟨.int .i64, x1⟩, ⟨.int .i64, x2⟩, ⟨.int .i64, x3⟩, ⟨.int .i64, x4⟩, ⟨.slice (.pair (.int .i64) (.pair (.int .i64) (.slice (.int .u8)))), x5⟩, ⟨.int .i64, x6⟩, ⟨.int .i64, x7⟩, ⟨.int .i64, x8⟩, ⟨.int .i64, x9⟩, ⟨.str, x10⟩, ⟨.str, x11⟩, ⟨.int .i64, x12⟩, ⟨.slice (.str), x13⟩, ⟨.slice (.int .i64), x14⟩, ⟨.int .i64, x15⟩, ⟨.int .i64, x16⟩, ⟨.int .i64, x17⟩, ⟨.int .i64, x18⟩, ⟨.slice (.int .u8), x19⟩] := ⟨_, rfl⟩
noncomputable def ref29_Open : (Int) → (Int) → (Int) → (Int) → (Int) → (List (Int × Int × (List Int))) → (Int) → (Int) → (Int) → (Int) → (ByteArray) → (ByteArray) → (Int) → (List ByteArray) → (List Int) → (Int) → (Int) → (Int) → (Int) → (List Int) → Option (Int × Int × Int × Int × Int × (List (Int × Int × (List Int))) × Int × Int) := ref29_Open_ex.choose
theorem ref29_Open_raw (x0 : Int) (x1 : Int) (x2 : Int) (x3 : Int) (x4 : Int) (x5 : List (Int × Int × (List Int))) (x6 : Int) (x7 : Int) (x8 : Int) (x9 : Int) (x10 : ByteArray) (x11 : ByteArray) (x12 : Int) (x13 : List ByteArray) (x14 : List Int) (x15 : Int) (x16 : Int) (x17 : Int) (x18 : Int) (x19 : List Int) : ref29_Open x0 x1 x2 x3 x4 x5 x6 x7 x8 x9 x10 x11 x12 x13 x14 x15 x16 x17 x18 x19 = funRun ref29_Open_C 3 19 [(true, [(false, .int .i64), (false, .int .i64), (false, .int .i64), (false, .int .i64), (false, .int .i64), (false, .slice (.pair (.int .i64) (.pair (.int .i64) (.slice (.int .u8))))), (false, .int .i64)]), (true, [(false, .int .i64), (false, .int .i64), (false, .int .i64), (false, .str), (false, .str), (false, .int .i64), (false, .slice (.str)), (false, .slice (.int .i64)), (false, .int .i64), (false, .int .i64), (false, .int .i64), (false, .int .i64), (false, .slice (.int .u8))])] [(true, [(false, .int .i64), (false, .int .i64), (false, .int .i64), (false, .int .i64), (false, .int .i64), (false, .slice (.pair (.int .i64) (.pair (.int .i64) (.slice (.int .u8))))), (false, .int .i64)]), (false, [(false, .int .i64)])] ref29_Open_un [⟨.int .i64, x0⟩, ⟨.int .i64, x1⟩, ⟨.int .i64, x2⟩, ⟨.int .i64, x3⟩, ⟨.int .i64, x4⟩, ⟨.slice (.pair (.int .i64) (.pair (.int .i64) (.slice (.int .u8)))), x5⟩, ⟨.int .i64, x6⟩, ⟨.int .i64, x7⟩, ⟨.int .i64, x8⟩, ⟨.int .i64, x9⟩, ⟨.str, x10⟩, ⟨.str, x11⟩, ⟨.int .i64, x12⟩, ⟨.slice (.str), x13⟩, ⟨.slice (.int .i64), x14⟩, ⟨.int .i64, x15⟩, ⟨.int .i64, x16⟩, ⟨.int .i64, x17⟩, ⟨.int .i64, x18⟩, ⟨.slice (.int .u8), x19⟩] := congrFun (congrFun (congrFun (congrFun (congrFun (congrFun (congrFun (congrFun (congrFun (congrFun (congrFun (congrFun (congrFun (congrFun (congrFun (congrFun (congrFun (congrFun (congrFun (congrFun (ref29_Open_ex.choose_spec) x0) x1) x2) x3) x4) x5) x6) x7) x8) x9) x10) x11) x12) x13) x14) x15) x16) x17) x18) x19
noncomputable def ref29_Open_l0 (y0 : List (Int)) (y1 : Int) (y2 : Int) (y3 : Int) (y4 : Int) (y5 : Int) (y6 : Int) (y7 : Int) (y8 : List ((Int) × ((Int) × (List (Int))))) (y9 : Int) (y10 : Int) (y11 : Int) (y12 : Int) (y13 : ByteArray) (y14 : ByteArray) (y15 : Int) (y16 : List (ByteArray)) (y17 : List (Int)) (y18 : Int) (y19 : Int) (y20 : Int) (y21 : Int) (y22 : List (Int)) (y23 : Int) (y24 : Int) (y25 : Int) (y26 : Int) (y27 : Int) (y28 : Int) (y29 : Int) (y30 : Int) (y31 : Int) (y32 : Int) (y33 : Int) (y34 : Int) (y35 : List ((Int) × ((Int) × (List (Int))))) : Option (Int × Int × Int × Int × Int × (List (Int × Int × (List Int))) × Int × Int) := loopAt ref29_Open_C 3 19 [(true, [(false, .int .i64), (false, .int .i64), (false, .int .i64), (false, .int .i64), (false, .int .i64), (false, .slice (.pair (.int .i64) (.pair (.int .i64) (.slice (.int .u8))))), (false, .int .i64)]), (false, [(false, .int .i64)])] ref29_Open_un [true, true, true, true, true, true, true, false, true, false] (St.ofLists [(2, .ptr 116 0), (3, .ptr 124 0), (4, .ptr 132 0), (6, .fz (Ty.int IntKind.i64) y0 false false), (7, .int .i64 y1), (9, .ptr 172 0), (10, .int .i64 y2)] [(116, some (.cells [.int .i64 y3, .int .i64 y4, .int .i64 y5, .int .i64 y6, .int .i64 y7, .fz ((Ty.int IntKind.i64).pair ((Ty.int IntKind.i64).pair (Ty.int IntKind.u8).slice)) y8 false false, .int .i64 y9])), (124, some (.cells [.int .i64 y10, .int .i64 y11, .int .i64 y12, .str y13, .str y14, .int .i64 y15, .fz (Ty.str) y16 false false, .fz (Ty.int IntKind.i64) y17 false false, .int .i64 y18, .int .i64 y19, .int .i64 y20, .int .i64 y21, .fz (Ty.int IntKind.u8) y22 false false])), (132, some (.cells [.int .i64 y23, .int .i64 y24, .int .i64 y25, .int .i64 y26, .int .i64 y27, .nils, .int .i64 y28])), (172, some (.cells [.int .i64 y29, .int .i64 y30, .int .i64 y31, .int .i64 y32, .int .i64 y33, .ow 60, .int .i64 y34])), (60, some (.row ((Ty.int IntKind.i64).pair ((Ty.int IntKind.i64).pair (Ty.int IntKind.u8).slice)) y35 0 false))] [172, 132, 124, 116, 884, 876, 740, 188, 60])
theorem ref29_Open_eq (x0 : Int) (x1 : Int) (x2 : Int) (x3 : Int) (x4 : Int) (x5 : List (Int × Int × (List Int))) (x6 : Int) (x7 : Int) (x8 : Int) (x9 : Int) (x10 : ByteArray) (x11 : ByteArray) (x12 : Int) (x13 : List ByteArray) (x14 : List Int) (x15 : Int) (x16 : Int) (x17 : Int) (x18 : Int) (x19 : List Int) : ref29_Open x0 x1 x2 x3 x4 x5 x6 x7 x8 x9 x10 x11 x12 x13 x14 x15 x16 x17 x18 x19 =
  bif decide (ilen x5 > 0)
  then some ((0), ((0), ((0), ((0), ((0), (([]), ((0), (11))))))))
  else bif x8 != 0
    then some ((0), ((0), ((0), ((0), ((0), (([]), ((0), (1))))))))
    else bif x9 != 0
      then some ((0), ((0), ((0), ((0), ((0), (([]), ((0), (1))))))))
      else (ref29_where x0 x1 x2 x3 x4 x5 x6 x7 x8 x9 x10 x11 x12 x13 x14 x15 x16 x17 x18 x19).bind fun val6 =>
        bif val6.2.2 != 0
          then some ((0), ((0), ((0), ((0), ((0), (([]), ((0), (val6.2.2))))))))
          else bif decide (IntKind.i64.wrap (x1 + ilen val6.1) > 1099511627776)
            then some ((0), ((0), ((0), ((0), ((0), (([]), ((0), (14))))))))
            else ref29_Open_l0 (val6.1) (val6.2.1) (0) (x0) (x1) (x2) (x3) (x4) (x5) (x6) (x7) (x8) (x9) (x10) (x11) (x12) (x13) (x14) (x15) (x16) (x17) (x18) (x19) (0) (0) (0) (0) (0) (0) (x0) (IntKind.i64.wrap (x1 + ilen val6.1)) (x2) (x3) (x4) (0) ([]) := (ref29_Open_raw x0 x1 x2 x3 x4 x5 x6 x7 x8 x9 x10 x11 x12 x13 x14 x15 x16 x17 x18 x19).trans (by kernel_rfl)
theorem ref29_Open_l0_eq (y0 : List (Int)) (y1 : Int) (y2 : Int) (y3 : Int) (y4 : Int) (y5 : Int) (y6 : Int) (y7 : Int) (y8 : List ((Int) × ((Int) × (List (Int))))) (y9 : Int) (y10 : Int) (y11 : Int) (y12 : Int) (y13 : ByteArray) (y14 : ByteArray) (y15 : Int) (y16 : List (ByteArray)) (y17 : List (Int)) (y18 : Int) (y19 : Int) (y20 : Int) (y21 : Int) (y22 : List (Int)) (y23 : Int) (y24 : Int) (y25 : Int) (y26 : Int) (y27 : Int) (y28 : Int) (y29 : Int) (y30 : Int) (y31 : Int) (y32 : Int) (y33 : Int) (y34 : Int) (y35 : List ((Int) × ((Int) × (List (Int))))) : ref29_Open_l0 y0 y1 y2 y3 y4 y5 y6 y7 y8 y9 y10 y11 y12 y13 y14 y15 y16 y17 y18 y19 y20 y21 y22 y23 y24 y25 y26 y27 y28 y29 y30 y31 y32 y33 y34 y35 =
  bif decide (y2 < ilen y0)
  then (ref24_Put y10 y3 (IntKind.i64.wrap (IntKind.i64.wrap (y4 + 1) + y2)) y13 y14 y15 y16 y17 y1 y19 y20 y21 y22).bind fun val2 =>
    bif val2.2 != 0
      then some ((0), ((0), ((0), ((0), ((0), (([]), ((0), (val2.2))))))))
      else bif decide (0 ≤ y2)
        then (y0[y2.toNat]?).bind fun val8 =>
          bif decide ((ilen y35 + ilen [(val8, IntKind.i64.wrap (IntKind.i64.wrap (y4 + 1) + y2), val2.1)]) * 40 ≤ room)
            then ref29_Open_l0 (y0) (y1) (IntKind.i64.wrap (y2 + 1)) (y3) (y4) (y5) (y6) (y7) (y8) (y9) (y10) (y11) (y12) (y13) (y14) (y15) (y16) (y17) (y18) (y19) (y20) (y21) (y22) (y23) (y24) (y25) (y26) (y27) (y28) (y29) (y30) (y31) (y32) (y33) (y34) (y35 ++ [(val8, IntKind.i64.wrap (IntKind.i64.wrap (y4 + 1) + y2), val2.1)])
            else none
        else none
  else some ((y29), ((y30), ((y31), ((y32), ((y33), ((y35), ((y34), (0)))))))) := (loopAt_step _ _ _ _ _ _ _).trans (by kernel_rfl)
noncomputable def ref29_Open_sig : Sig := { pm := [(true, [(false, .int .i64), (false, .int .i64), (false, .int .i64), (false, .int .i64), (false, .int .i64), (false, .slice (.pair (.int .i64) (.pair (.int .i64) (.slice (.int .u8))))), (false, .int .i64)]), (true, [(false, .int .i64), (false, .int .i64), (false, .int .i64), (false, .str), (false, .str), (false, .int .i64), (false, .slice (.str)), (false, .slice (.int .i64)), (false, .int .i64), (false, .int .i64), (false, .int .i64), (false, .int .i64), (false, .slice (.int .u8))])], rm := [(true, [(false, .int .i64), (false, .int .i64), (false, .int .i64), (false, .int .i64), (false, .int .i64), (false, .slice (.pair (.int .i64) (.pair (.int .i64) (.slice (.int .u8))))), (false, .int .i64)]), (false, [(false, .int .i64)])], f := fun | [⟨.int .i64, x0⟩, ⟨.int .i64, x1⟩, ⟨.int .i64, x2⟩, ⟨.int .i64, x3⟩, ⟨.int .i64, x4⟩, ⟨.slice (.pair (.int .i64) (.pair (.int .i64) (.slice (.int .u8)))), x5⟩, ⟨.int .i64, x6⟩, ⟨.int .i64, x7⟩, ⟨.int .i64, x8⟩, ⟨.int .i64, x9⟩, ⟨.str, x10⟩, ⟨.str, x11⟩, ⟨.int .i64, x12⟩, ⟨.slice (.str), x13⟩, ⟨.slice (.int .i64), x14⟩, ⟨.int .i64, x15⟩, ⟨.int .i64, x16⟩, ⟨.int .i64, x17⟩, ⟨.int .i64, x18⟩, ⟨.slice (.int .u8), x19⟩] => .yes _ (ref29_Open x0 x1 x2 x3 x4 x5 x6 x7 x8 x9 x10 x11 x12 x13 x14 x15 x16 x17 x18 x19) ref29_Open_mk | _ => .no }
theorem ref29_Open_ok : SigOk Tryd.prog 19 ref29_Open_sig := by
  refine contract_of (C := ref29_Open_C) (d := 3) ⟨S61_ok, noPs⟩ (callable_ex (by kernel_rfl)) ?_
  intro dvs
  unfold ref29_Open_sig
  dsimp only
  split
  · refine .inr ⟨_, ref29_Open_un, ref29_Open_mk, congrArg (fun o => Cl.yes _ o _) (ref29_Open_raw _ _ _ _ _ _ _ _ _ _ _ _ _ _ _ _ _ _ _ _), ?_⟩
    intro ds x h
    unfold ref29_Open_un at h
    split at h
    · cases h; rfl
    · cases h
  · exact .inl rfl
noncomputable def S62 : List (Nat × Sig) := (19, ref29_Open_sig) :: S61
theorem S62_ok : ListOk Tryd.prog S62 := ListOk.cons S61_ok ref29_Open_ok
noncomputable def ref29_New_C : Cfg := { P := Tryd.prog, sig := lookSig S62, hb := fun _ _ => none, hr := fun _ _ => none }
noncomputable def ref29_New_un : List DV → Option (Int × Int × Int × Int × Int × (List (Int × Int × (List Int))) × Int × Int) := fun | [⟨.int .i64, r0⟩, ⟨.int .i64, r1⟩, ⟨.int .i64, r2⟩, ⟨.int .i64, r3⟩, ⟨.int .i64, r4⟩, ⟨.slice (.pair (.int .i64) (.pair (.int .i64) (.slice (.int .u8)))), r5⟩, ⟨.int .i64, r6⟩, ⟨.int .i64, r7⟩] => some (r0, r1, r2, r3, r4, r5, r6, r7) | _ => none
noncomputable def ref29_New_mk : (Int × Int × Int × Int × Int × (List (Int × Int × (List Int))) × Int × Int) → List DV := fun ⟨r0, r1, r2, r3, r4, r5, r6, r7⟩ => [⟨.int .i64, r0⟩, ⟨.int .i64, r1⟩, ⟨.int .i64, r2⟩, ⟨.int .i64, r3⟩, ⟨.int .i64, r4⟩, ⟨.slice (.pair (.int .i64) (.pair (.int .i64) (.slice (.int .u8)))), r5⟩, ⟨.int .i64, r6⟩, ⟨.int .i64, r7⟩]
theorem ref29_New_ex : ∃ f : (Int) → (Int) → (Int) → Option (Int × Int × Int × Int × Int × (List (Int × Int × (List Int))) × Int × Int), f = fun (x0 : Int) (x1 : Int) (x2 : Int) => funRun ref29_New_C 3 14 [(false, [(false, .int .i64)]), (false, [(false, .int .i64)]), (false, [(false, .int .i64)])] [(true, [(false, .int .i64), (false, .int .i64), (false, .int .i64), (false, .int .i64), (false, .int .i64), (true, .slice (.pair (.int .i64) (.pair (.int .i64) (.slice (.int .u8))))), (false, .int .i64)]), (false, [(false, .int .i64)])] ref29_New_un [⟨.int .i64, x0⟩, ⟨.int .i64, x1⟩, ⟨.int .i64, x2⟩] := ⟨_, rfl⟩
noncomputable def ref29_New : (Int) → (Int) → (Int) → Option (Int × Int × Int × Int × Int × (List (Int × Int × (List Int))) × Int × Int) := ref29_New_ex.choose
theorem ref29_New_raw (x0 : Int) (x1 : Int) (x2 : Int) : ref29_New x0 x1 x2 = funRun ref29_New_C 3 14 [(false, [(false, .int .i64)]), (false, [(false, .int .i64)]), (false, [(false, .int .i64)])] [(true, [(false, .int .i64), (false, .int .i64), (false, .int .i64), (false, .int .i64), (false, .int .i64), (true, .slice (.pair (.int .i64) (.pair (.int .i64) (.slice (.int .u8))))), (false, .int .i64)]), (false, [(false, .int .i64)])] ref29_New_un [⟨.int .i64, x0⟩, ⟨.int .i64, x1⟩, ⟨.int .i64, x2⟩] := congrFun (congrFun (congrFun (ref29_New_ex.choose_spec) x0) x1) x2
theorem ref29_New_eq (x0 : Int) (x1 : Int) (x2 : Int) : ref29_New x0 x1 x2 =
  bif decide (x0 < 1)
  then some ((0), ((0), ((0), ((0), ((0), (([]), ((0), (2))))))))
  else bif decide (x0 > 1099511627776)
    then some ((0), ((0), ((0), ((0), ((0), (([]), ((0), (2))))))))
    else bif decide (x1 < 1)
      then some ((0), ((0), ((0), ((0), ((0), (([]), ((0), (2))))))))
      else bif decide (x1 > 7)
        then some ((0), ((0), ((0), ((0), ((0), (([]), ((0), (2))))))))
        else bif decide (x2 < 1)
          then some ((0), ((0), ((0), ((0), ((0), (([]), ((0), (2))))))))
          else bif decide (x2 > 64)
            then some ((0), ((0), ((0), ((0), ((0), (([]), ((0), (2))))))))
            else some ((x0), ((0), ((x1), ((x2), ((1), (([]), ((0), (0)))))))) := (ref29_New_raw x0 x1 x2).trans (by kernel_rfl)
noncomputable def ref29_New_sig : Sig := { pm := [(false, [(false, .int .i64)]), (false, [(false, .int .i64)]), (false, [(false, .int .i64)])], rm := [(true, [(false, .int .i64), (false, .int .i64), (false, .int .i64), (false, .int .i64), (false, .int .i64), (true, .slice (.pair (.int .i64) (.pair (.int .i64) (.slice (.int .u8))))), (false, .int .i64)]), (false, [(false, .int .i64)])], f := fun | [⟨.int .i64, x0⟩, ⟨.int .i64, x1⟩, ⟨.int .i64, x2⟩] => .yes _ (ref29_New x0 x1 x2) ref29_New_mk | _ => .no }
theorem ref29_New_ok : SigOk Tryd.prog 14 ref29_New_sig := by
  refine contract_of (C := ref29_New_C) (d := 3) ⟨S62_ok, noPs⟩ (callable_ex (by kernel_rfl)) ?_
  intro dvs
  unfold ref29_New_sig
  dsimp only
  split
  · refine .inr ⟨_, ref29_New_un, ref29_New_mk, congrArg (fun o => Cl.yes _ o _) (ref29_New_raw _ _ _), ?_⟩
    intro ds x h
    unfold ref29_New_un at h
    split at h
    · cases h; rfl
    · cases h
  · exact .inl rfl
noncomputable def S63 : List (Nat × Sig) := (14, ref29_New_sig) :: S62
theorem S63_ok : ListOk Tryd.prog S63 := ListOk.cons S62_ok ref29_New_ok
noncomputable def ref29_Check_C : Cfg := { P := Tryd.prog, sig := lookSig S63, hb := fun f b =>   bif Nat.beq f 17 && Nat.beq b 0 then some { tmps := [1, 5, 6], obs := [108], nils := [], kl := [124, 220, 108, 156] } else none, hr := fun _ _ => none }
noncomputable def ref29_Check_un : List DV → Option (Int) := fun | [⟨.int .i64, r0⟩] => some r0 | _ => none
noncomputable def ref29_Check_mk : Int → List DV := fun r0 => [⟨.int .i64, r0⟩]
theorem ref29_Check_ex : ∃ f : (Int) → (Int) → (Int) → (Int) → (Int) → (List (Int × Int × (List Int))) → (Int) → Option (Int), f = fun (x0 : Int) (x1 : Int) (x2 : Int) (x3 : Int) (x4 : Int) (x5 : List (Int × Int × (List Int))) (x6 : Int) => funRun ref29_Check_C 3 17 [(true, [(false, .int .i64), (false, .int .i64), (false, .int .i64), (false, .int .i64), (false, .int .i64), (false, .slice (.pair (.int .i64) (.pair (.int .i64) (.slice (.int .u8))))), (false, .int .i64)])] [(false, [(false, .int .i64)])] ref29_Check_un [⟨.int .i64, x0⟩, ⟨.int .i64, x1⟩, ⟨.int .i64, x2⟩, ⟨.int .i64, x3⟩, ⟨.int .i64, x4⟩, ⟨.slice (.pair (.int .i64) (.pair (.int .i64) (.slice (.int .u8)))), x5⟩, ⟨.int .i64, x6⟩] := ⟨_, rfl⟩
noncomputable def ref29_Check : (Int) → (Int) → (Int) → (Int) → (Int) → (List (Int × Int × (List Int))) → (Int) → Option (Int) := ref29_Check_ex.choose
theorem ref29_Check_raw (x0 : Int) (x1 : Int) (x2 : Int) (x3 : Int) (x4 : Int) (x5 : List (Int × Int × (List Int))) (x6 : Int) : ref29_Check x0 x1 x2 x3 x4 x5 x6 = funRun ref29_Check_C 3 17 [(true, [(false, .int .i64), (false, .int .i64), (false, .int .i64), (false, .int .i64), (false, .int .i64), (false, .slice (.pair (.int .i64) (.pair (.int .i64) (.slice (.int .u8))))), (false, .int .i64)])] [(false, [(false, .int .i64)])] ref29_Check_un [⟨.int .i64, x0⟩, ⟨.int .i64, x1⟩, ⟨.int .i64, x2⟩, ⟨.int .i64, x3⟩, ⟨.int .i64, x4⟩, ⟨.slice (.pair (.int .i64) (.pair (.int .i64) (.slice (.int .u8)))), x5⟩, ⟨.int .i64, x6⟩] := congrFun (congrFun (congrFun (congrFun (congrFun (congrFun (congrFun (ref29_Check_ex.choose_spec) x0) x1) x2) x3) x4) x5) x6
noncomputable def ref29_Check_l0 (y0 : Int) (y1 : Int) (y2 : Int) (y3 : Int) (y4 : Int) (y5 : Int) (y6 : Int) (y7 : List ((Int) × ((Int) × (List (Int))))) (y8 : Int) : Option (Int) := loopAt ref29_Check_C 3 17 [(false, [(false, .int .i64)])] ref29_Check_un [true, true, true, true, false, true, false] (St.ofLists [(1, .ptr 108 0), (5, .int .i64 y0), (6, .int .i64 y1)] [(108, some (.cells [.int .i64 y2, .int .i64 y3, .int .i64 y4, .int .i64 y5, .int .i64 y6, .fz ((Ty.int IntKind.i64).pair ((Ty.int IntKind.i64).pair (Ty.int IntKind.u8).slice)) y7 false false, .int .i64 y8]))] [124, 220, 108, 156])
theorem ref29_Check_eq (x0 : Int) (x1 : Int) (x2 : Int) (x3 : Int) (x4 : Int) (x5 : List (Int × Int × (List Int))) (x6 : Int) : ref29_Check x0 x1 x2 x3 x4 x5 x6 =
  (ref29_New x0 x2 x3).bind fun val0 =>
  bif val0.2.2.2.2.2.2.2 != 0
    then some (val0.2.2.2.2.2.2.2)
    else bif decide (x1 < 0)
      then some (1)
      else bif decide (x1 > 1099511627776)
        then some (1)
        else bif decide (x4 < 1)
          then some (1)
          else bif decide (x4 > x2)
            then some (1)
            else bif decide (ilen x5 > x3)
              then some (1)
              else bif decide (x6 < 0)
                then some (1)
                else bif decide (x6 > 17)
                  then some (1)
                  else ref29_Check_l0 (x1) (IntKind.i64.wrap (ilen x5 - 1)) (x0) (x1) (x2) (x3) (x4) (x5) (x6) := (ref29_Check_raw x0 x1 x2 x3 x4 x5 x6).trans (by kernel_rfl)
theorem ref29_Check_l0_eq (y0 : Int) (y1 : Int) (y2 : Int) (y3 : Int) (y4 : Int) (y5 : Int) (y6 : Int) (y7 : List ((Int) × ((Int) × (List (Int))))) (y8 : Int) : ref29_Check_l0 y0 y1 y2 y3 y4 y5 y6 y7 y8 =
  bif decide (y1 ≥ 0)
  then bif decide (0 ≤ y1)
    then (y7[y1.toNat]?).bind fun val4 =>
      bif decide (val4.fst < 0)
        then some (1)
        else bif decide (val4.fst ≥ y5)
          then some (1)
          else bif val4.snd.fst != y0
            then some (1)
            else bif decide (y0 < 1)
              then some (1)
              else ref29_Check_l0 (IntKind.i64.wrap (y0 - 1)) (IntKind.i64.wrap (y1 - 1)) (y2) (y3) (y4) (y5) (y6) (y7) (y8)
    else none
  else some (0) := (loopAt_step _ _ _ _ _ _ _).trans (by kernel_rfl)
noncomputable def ref29_Check_sig : Sig := { pm := [(true, [(false, .int .i64), (false, .int .i64), (false, .int .i64), (false, .int .i64), (false, .int .i64), (false, .slice (.pair (.int .i64) (.pair (.int .i64) (.slice (.int .u8))))), (false, .int .i64)])], rm := [(false, [(false, .int .i64)])], f := fun | [⟨.int .i64, x0⟩, ⟨.int .i64, x1⟩, ⟨.int .i64, x2⟩, ⟨.int .i64, x3⟩, ⟨.int .i64, x4⟩, ⟨.slice (.pair (.int .i64) (.pair (.int .i64) (.slice (.int .u8)))), x5⟩, ⟨.int .i64, x6⟩] => .yes _ (ref29_Check x0 x1 x2 x3 x4 x5 x6) ref29_Check_mk | _ => .no }
theorem ref29_Check_ok : SigOk Tryd.prog 17 ref29_Check_sig := by
  refine contract_of (C := ref29_Check_C) (d := 3) ⟨S63_ok, noPs⟩ (callable_ex (by kernel_rfl)) ?_
  intro dvs
  unfold ref29_Check_sig
  dsimp only
  split
  · refine .inr ⟨_, ref29_Check_un, ref29_Check_mk, congrArg (fun o => Cl.yes _ o _) (ref29_Check_raw _ _ _ _ _ _ _), ?_⟩
    intro ds x h
    unfold ref29_Check_un at h
    split at h
    · cases h; rfl
    · cases h
  · exact .inl rfl
noncomputable def S64 : List (Nat × Sig) := (17, ref29_Check_sig) :: S63
theorem S64_ok : ListOk Tryd.prog S64 := ListOk.cons S63_ok ref29_Check_ok
noncomputable def ref29_Same_C : Cfg := { P := Tryd.prog, sig := lookSig S64, hb := fun f b =>   bif Nat.beq f 15 && Nat.beq b 0 then some { tmps := [2, 3, 5], obs := [116, 124], nils := [], kl := [124, 116] } else none, hr := fun _ _ => none }
noncomputable def ref29_Same_un : List DV → Option (Bool) := fun | [⟨.bool, r0⟩] => some r0 | _ => none
noncomputable def ref29_Same_mk : Bool → List DV := fun r0 => [⟨.bool, r0⟩]
theorem ref29_Same_ex : ∃ f : (Int) → (Int) → (Int) → (Int) → (Int) → (List (Int × Int × (List Int))) → (Int) → (Int) → (Int) → (Int) → (Int) → (Int) → (List (Int × Int × (List Int))) → (Int) → Option (Bool), f = fun (x0 : Int) (x1 : Int) (x2 : Int) (x3 : Int) (x4 : Int) (x5 : List (Int × Int × (List Int))) (x6 : Int) (x7 : Int) (x8 : Int) (x9 : Int) (x10 : Int) (x11 : Int) (x12 : List (Int × Int × (List Int))) (x13 : Int) => funRun ref29_Same_C 3 15 [(true, [(false, .int .i64), (false, .int .i64), (false, .int .i64), (false, .int .i64), (false, .int .i64), (false, .slice (.pair (.int .i64) (.pair (.int .i64) (.slice (.int .u8))))), (false, .int .i64)]), (true, [(false, .int .i64), (false, .int .i64), (false, .int .i64), (false, .int .i64), (false, .int .i64), (false, .slice (.pair (.int .i64) (.pair (.int .i64) (.slice (.int .u8))))), (false, .int .i64)])] [(false, [(false, .bool)])] ref29_Same_un [⟨.int .i64, x0⟩, ⟨.int .i64, x1⟩, ⟨.int .i64, x2⟩, ⟨.int .i64, x3⟩, ⟨.int .i64, x4⟩, ⟨.slice (.pair (.int .i64) (.pair (.int .i64) (.slice (.int .u8)))), x5⟩, ⟨.int .i64, x6⟩, ⟨.int .i64, x7⟩, ⟨.int .i64, x8⟩, ⟨.int .i64, x9⟩, ⟨.int .i64, x10⟩, ⟨.int .i64, x11⟩, ⟨.slice (.pair (.int .i64) (.pair (.int .i64) (.slice (.int .u8)))), x12⟩, ⟨.int .i64, x13⟩] := ⟨_, rfl⟩
noncomputable def ref29_Same : (Int) → (Int) → (Int) → (Int) → (Int) → (List (Int × Int × (List Int))) → (Int) → (Int) → (Int) → (Int) → (Int) → (Int) → (List (Int × Int × (List Int))) → (Int) → Option (Bool) := ref29_Same_ex.choose
theorem ref29_Same_raw (x0 : Int) (x1 : Int) (x2 : Int) (x3 : Int) (x4 : Int) (x5 : List (Int × Int × (List Int))) (x6 : Int) (x7 : Int) (x8 : Int) (x9 : Int) (x10 : Int) (x11 : Int) (x12 : List (Int × Int × (List Int))) (x13 : Int) : ref29_Same x0 x1 x2 x3 x4 x5 x6 x7 x8 x9 x10 x11 x12 x13 = funRun ref29_Same_C 3 15 [(true, [(false, .int .i64), (false, .int .i64), (false, .int .i64), (false, .int .i64), (false, .int .i64), (false, .slice (.pair (.int .i64) (.pair (.int .i64) (.slice (.int .u8))))), (false, .int .i64)]), (true, [(false, .int .i64), (false, .int .i64), (false, .int .i64), (false, .int .i64), (false, .int .i64), (false, .slice (.pair (.int .i64) (.pair (.int .i64) (.slice (.int .u8))))), (false, .int .i64)])] [(false, [(false, .bool)])] ref29_Same_un [⟨.int .i64, x0⟩, ⟨.int .i64, x1⟩, ⟨.int .i64, x2⟩, ⟨.int .i64, x3⟩, ⟨.int .i64, x4⟩, ⟨.slice (.pair (.int .i64) (.pair (.int .i64) (.slice (.int .u8)))), x5⟩, ⟨.int .i64, x6⟩, ⟨.int .i64, x7⟩, ⟨.int .i64, x8⟩, ⟨.int .i64, x9⟩, ⟨.int .i64, x10⟩, ⟨.int .i64, x11⟩, ⟨.slice (.pair (.int .i64) (.pair (.int .i64) (.slice (.int .u8)))), x12⟩, ⟨.int .i64, x13⟩] := congrFun (congrFun (congrFun (congrFun (congrFun (congrFun (congrFun (congrFun (congrFun (congrFun (congrFun (congrFun (congrFun (congrFun (ref29_Same_ex.choose_spec) x0) x1) x2) x3) x4) x5) x6) x7) x8) x9) x10) x11) x12) x13
noncomputable def ref29_Same_l0 (y0 : Int) (y1 : Int) (y2 : Int) (y3 : Int) (y4 : Int) (y5 : Int) (y6 : List ((Int) × ((Int) × (List (Int))))) (y7 : Int) (y8 : Int) (y9 : Int) (y10 : Int) (y11 : Int) (y12 : Int) (y13 : List ((Int) × ((Int) × (List (Int))))) (y14 : Int) : Option (Bool) := loopAt ref29_Same_C 3 15 [(false, [(false, .bool)])] ref29_Same_un [true, true, false, true, false] (St.ofLists [(2, .ptr 116 0), (3, .ptr 124 0), (5, .int .i64 y0)] [(116, some (.cells [.int .i64 y1, .int .i64 y2, .int .i64 y3, .int .i64 y4, .int .i64 y5, .fz ((Ty.int IntKind.i64).pair ((Ty.int IntKind.i64).pair (Ty.int IntKind.u8).slice)) y6 false false, .int .i64 y7])), (124, some (.cells [.int .i64 y8, .int .i64 y9, .int .i64 y10, .int .i64 y11, .int .i64 y12, .fz ((Ty.int IntKind.i64).pair ((Ty.int IntKind.i64).pair (Ty.int IntKind.u8).slice)) y13 false false, .int .i64 y14]))] [124, 116])
theorem ref29_Same_eq (x0 : Int) (x1 : Int) (x2 : Int) (x3 : Int) (x4 : Int) (x5 : List (Int × Int × (List Int))) (x6 : Int) (x7 : Int) (x8 : Int) (x9 : Int) (x10 : Int) (x11 : Int) (x12 : List (Int × Int × (List Int))) (x13 : Int) : ref29_Same x0 x1 x2 x3 x4 x5 x6 x7 x8 x9 x10 x11 x12 x13 =
  bif x0 != x7
  then some false
  else bif x1 != x8
    then some false
    else bif x2 != x9
      then some false
      else bif x3 != x10
        then some false
        else bif x4 != x11
          then some false
          else bif x6 != x13
            then some false
            else bif ilen x5 != ilen x12
              then some false
              else ref29_Same_l0 (0) (x0) (x1) (x2) (x3) (x4) (x5) (x6) (x7) (x8) (x9) (x10) (x11) (x12) (x13) := (ref29_Same_raw x0 x1 x2 x3 x4 x5 x6 x7 x8 x9 x10 x11 x12 x13).trans (by kernel_rfl)
theorem ref29_Same_l0_eq (y0 : Int) (y1 : Int) (y2 : Int) (y3 : Int) (y4 : Int) (y5 : Int) (y6 : List ((Int) × ((Int) × (List (Int))))) (y7 : Int) (y8 : Int) (y9 : Int) (y10 : Int) (y11 : Int) (y12 : Int) (y13 : List ((Int) × ((Int) × (List (Int))))) (y14 : Int) : ref29_Same_l0 y0 y1 y2 y3 y4 y5 y6 y7 y8 y9 y10 y11 y12 y13 y14 =
  bif decide (y0 < ilen y6)
  then bif decide (0 ≤ y0)
    then (y6[y0.toNat]?).bind fun val4 =>
      bif decide (0 ≤ y0)
        then (y13[y0.toNat]?).bind fun val8 =>
          bif val4.fst != val8.fst
            then some false
            else bif decide (0 ≤ y0)
              then (y6[y0.toNat]?).bind fun val14 =>
                bif decide (0 ≤ y0)
                  then (y13[y0.toNat]?).bind fun val18 =>
                    bif val14.snd.fst != val18.snd.fst
                      then some false
                      else bif decide (0 ≤ y0)
                        then (y6[y0.toNat]?).bind fun val24 =>
                          bif decide (0 ≤ y0)
                            then (y13[y0.toNat]?).bind fun val28 =>
                              bif !(strOf val24.snd.snd).toList == (strOf val28.snd.snd).toList
                                then some false
                                else ref29_Same_l0 (IntKind.i64.wrap (y0 + 1)) (y1) (y2) (y3) (y4) (y5) (y6) (y7) (y8) (y9) (y10) (y11) (y12) (y13) (y14)
                            else none
                        else none
                  else none
              else none
        else none
    else none
  else some true := (loopAt_step _ _ _ _ _ _ _).trans (by kernel_rfl)
noncomputable def ref29_Same_sig : Sig := { pm := [(true, [(false, .int .i64), (false, .int .i64), (false, .int .i64), (false, .int .i64), (false, .int .i64), (false, .slice (.pair (.int .i64) (.pair (.int .i64) (.slice (.int .u8))))), (false, .int .i64)]), (true, [(false, .int .i64), (false, .int .i64), (false, .int .i64), (false, .int .i64), (false, .int .i64), (false, .slice (.pair (.int .i64) (.pair (.int .i64) (.slice (.int .u8))))), (false, .int .i64)])], rm := [(false, [(false, .bool)])], f := fun | [⟨.int .i64, x0⟩, ⟨.int .i64, x1⟩, ⟨.int .i64, x2⟩, ⟨.int .i64, x3⟩, ⟨.int .i64, x4⟩, ⟨.slice (.pair (.int .i64) (.pair (.int .i64) (.slice (.int .u8)))), x5⟩, ⟨.int .i64, x6⟩, ⟨.int .i64, x7⟩, ⟨.int .i64, x8⟩, ⟨.int .i64, x9⟩, ⟨.int .i64, x10⟩, ⟨.int .i64, x11⟩, ⟨.slice (.pair (.int .i64) (.pair (.int .i64) (.slice (.int .u8)))), x12⟩, ⟨.int .i64, x13⟩] => .yes _ (ref29_Same x0 x1 x2 x3 x4 x5 x6 x7 x8 x9 x10 x11 x12 x13) ref29_Same_mk | _ => .no }
theorem ref29_Same_ok : SigOk Tryd.prog 15 ref29_Same_sig := by
  refine contract_of (C := ref29_Same_C) (d := 3) ⟨S64_ok, noPs⟩ (callable_ex (by kernel_rfl)) ?_
  intro dvs
  unfold ref29_Same_sig
  dsimp only
  split
  · refine .inr ⟨_, ref29_Same_un, ref29_Same_mk, congrArg (fun o => Cl.yes _ o _) (ref29_Same_raw _ _ _ _ _ _ _ _ _ _ _ _ _ _), ?_⟩
    intro ds x h
    unfold ref29_Same_un at h
    split at h
    · cases h; rfl
    · cases h
  · exact .inl rfl
noncomputable def S65 : List (Nat × Sig) := (15, ref29_Same_sig) :: S64
theorem S65_ok : ListOk Tryd.prog S65 := ListOk.cons S64_ok ref29_Same_ok
noncomputable def law29_light_C : Cfg := { P := Tryd.prog, sig := lookSig S65, hb := fun f b =>   bif Nat.beq f 12 && Nat.beq b 0 then some { tmps := [2, 3, 5, 6], obs := [116, 124], nils := [], kl := [124, 116] } else none, hr := fun _ _ => none }
noncomputable def law29_light_un : List DV → Option (Bool) := fun | [⟨.bool, r0⟩] => some r0 | _ => none
noncomputable def law29_light_mk : Bool → List DV := fun r0 => [⟨.bool, r0⟩]
theorem law29_light_ex : ∃ f : (Int) → (Int) → (Int) → (Int) → (Int) → (List (Int × Int × (List Int))) → (Int) → (Int) → (Int) → (Int) → (ByteArray) → (ByteArray) → (Int) → (List ByteArray) → (List Int) → (Int) → (Int) → (Int) → (Int) → (List Int) → Option (Bool), f = fun (x0 : Int) (x1 : Int) (x2 : Int) (x3 : Int) (x4 : Int) (x5 : List (Int × Int × (List Int))) (x6 : Int) (x7 : Int) (x8 : Int) (x9 : Int) (x10 : ByteArray) (x11 : ByteArray) (x12 : Int) (x13 : List ByteArray) (x14 : List Int) (x15 : Int) (x16 : Int) (x17 : Int) (x18 : Int) (x19 : List Int) => funRun law29_light_C 3 12 [(true, [(false, .int .i64), (false, .int .i64), (false, .int .i64), (false, .int .i64), (false, .int .i64), (false, .slice (.pair (.int .i64) (.pair (.int .i64) (.slice (.int .u8))))), (false, .int .i64)]), (true, [(false, .int .i64), (false, .int .i64), (false, .int .i64), (false, .str), (false, .str), (false, .int .i64), (false, .slice (.str)), (false, .slice (.int .i64)), (false, .int .i64), (false, .int .i64), (false, .int .i64), (false, .int .i64), (false, .slice (.int .u8))])] [(false, [(false, .bool)])] law29_light_un [⟨.int .i64, x0⟩, ⟨.int .i64, x1⟩, ⟨.int .i64, x2⟩, ⟨.int .i64, x3⟩, ⟨.int .i64, x4⟩, ⟨.slice (.pair (.int .i64) (.pair (.int .i64) (.slice (.int .u8)))), x5⟩, ⟨.int .i64, x6⟩, ⟨.int .i64, x7⟩, ⟨.int .i64, x8⟩, ⟨.int .i64, x9⟩, ⟨.str, x10⟩, ⟨.str, x11⟩, ⟨.int .i64, x12⟩, ⟨.slice (.str), x13⟩, ⟨.slice (.int .i64), x14⟩, ⟨.int .i64, x15⟩, ⟨.int .i64, x16⟩, ⟨.int .i64, x17⟩, ⟨.int .i64, x18⟩, ⟨.slice (.int .u8), x19⟩] := ⟨_, rfl⟩
noncomputable def law29_light : (Int) → (Int) → (Int) → (Int) → (Int) → (List (Int × Int × (List Int))) → (Int) → (Int) → (Int) → (Int) → (ByteArray) → (ByteArray) → (Int) → (List ByteArray) → (List Int) → (Int) → (Int) → (Int) → (Int) → (List Int) → Option (Bool) := law29_light_ex.choose
theorem law29_light_raw (x0 : Int) (x1 : Int) (x2 : Int) (x3 : Int) (x4 : Int) (x5 : List (Int × Int × (List Int))) (x6 : Int) (x7 : Int) (x8 : Int) (x9 : Int) (x10 : ByteArray) (x11 : ByteArray) (x12 : Int) (x13 : List ByteArray) (x14 : List Int) (x15 : Int) (x16 : Int) (x17 : Int) (x18 : Int) (x19 : List Int) : law29_light x0 x1 x2 x3 x4 x5 x6 x7 x8 x9 x10 x11 x12 x13 x14 x15 x16 x17 x18 x19 = funRun law29_light_C 3 12 [(true, [(false, .int .i64), (false, .int .i64), (false, .int .i64), (false, .int .i64), (false, .int .i64), (false, .slice (.pair (.int .i64) (.pair (.int .i64) (.slice (.int .u8))))), (false, .int .i64)]), (true, [(false, .int .i64), (false, .int .i64), (false, .int .i64), (false, .str), (false, .str), (false, .int .i64), (false, .slice (.str)), (false, .slice (.int .i64)), (false, .int .i64), (false, .int .i64), (false, .int .i64), (false, .int .i64), (false, .slice (.int .u8))])] [(false, [(false, .bool)])] law29_light_un [⟨.int .i64, x0⟩, ⟨.int .i64, x1⟩, ⟨.int .i64, x2⟩, ⟨.int .i64, x3⟩, ⟨.int .i64, x4⟩, ⟨.slice (.pair (.int .i64) (.pair (.int .i64) (.slice (.int .u8)))), x5⟩, ⟨.int .i64, x6⟩, ⟨.int .i64, x7⟩, ⟨.int .i64, x8⟩, ⟨.int .i64, x9⟩, ⟨.str, x10⟩, ⟨.str, x11⟩, ⟨.int .i64, x12⟩, ⟨.slice (.str), x13⟩, ⟨.slice (.int .i64), x14⟩, ⟨.int .i64, x15⟩, ⟨.int .i64, x16⟩, ⟨.int .i64, x17⟩, ⟨.int .i64, x18⟩, ⟨.slice (.int .u8), x19⟩] := congrFun (congrFun (congrFun (congrFun (congrFun (congrFun (congrFun (congrFun (congrFun (congrFun (congrFun (congrFun (congrFun (congrFun (congrFun (congrFun (congrFun (congrFun (congrFun (congrFun (law29_light_ex.choose_spec) x0) x1) x2) x3) x4) x5) x6) x7) x8) x9) x10) x11) x12) x13) x14) x15) x16) x17) x18) x19
noncomputable def law29_light_l0 (y0 : Int) (y1 : Int) (y2 : Int) (y3 : Int) (y4 : Int) (y5 : Int) (y6 : Int) (y7 : List ((Int) × ((Int) × (List (Int))))) (y8 : Int) (y9 : Int) (y10 : Int) (y11 : Int) (y12 : ByteArray) (y13 : ByteArray) (y14 : Int) (y15 : List (ByteArray)) (y16 : List (Int)) (y17 : Int) (y18 : Int) (y19 : Int) (y20 : Int) (y21 : List (Int)) : Option (Bool) := loopAt law29_light_C 3 12 [(false, [(false, .bool)])] law29_light_un [true, true, false, true, false] (St.ofLists [(2, .ptr 116 0), (3, .ptr 124 0), (5, .int .i64 y0), (6, .int .i64 y1)] [(116, some (.cells [.int .i64 y2, .int .i64 y3, .int .i64 y4, .int .i64 y5, .int .i64 y6, .fz ((Ty.int IntKind.i64).pair ((Ty.int IntKind.i64).pair (Ty.int IntKind.u8).slice)) y7 false false, .int .i64 y8])), (124, some (.cells [.int .i64 y9, .int .i64 y10, .int .i64 y11, .str y12, .str y13, .int .i64 y14, .fz (Ty.str) y15 false false, .fz (Ty.int IntKind.i64) y16 false false, .int .i64 y17, .int .i64 y18, .int .i64 y19, .int .i64 y20, .fz (Ty.int IntKind.u8) y21 false false]))] [124, 116])
theorem law29_light_eq (x0 : Int) (x1 : Int) (x2 : Int) (x3 : Int) (x4 : Int) (x5 : List (Int × Int × (List Int))) (x6 : Int) (x7 : Int) (x8 : Int) (x9 : Int) (x10 : ByteArray) (x11 : ByteArray) (x12 : Int) (x13 : List ByteArray) (x14 : List Int) (x15 : Int) (x16 : Int) (x17 : Int) (x18 : Int) (x19 : List Int) : law29_light x0 x1 x2 x3 x4 x5 x6 x7 x8 x9 x10 x11 x12 x13 x14 x15 x16 x17 x18 x19 =
  law29_light_l0 (0) (0) (x0) (x1) (x2) (x3) (x4) (x5) (x6) (x7) (x8) (x9) (x10) (x11) (x12) (x13) (x14) (x15) (x16) (x17) (x18) (x19) := (law29_light_raw x0 x1 x2 x3 x4 x5 x6 x7 x8 x9 x10 x11 x12 x13 x14 x15 x16 x17 x18 x19).trans (by kernel_rfl)
theorem law29_light_l0_eq (y0 : Int) (y1 : Int) (y2 : Int) (y3 : Int) (y4 : Int) (y5 : Int) (y6 : Int) (y7 : List ((Int) × ((Int) × (List (Int))))) (y8 : Int) (y9 : Int) (y10 : Int) (y11 : Int) (y12 : ByteArray) (y13 : ByteArray) (y14 : Int) (y15 : List (ByteArray)) (y16 : List (Int)) (y17 : Int) (y18 : Int) (y19 : Int) (y20 : Int) (y21 : List (Int)) : law29_light_l0 y0 y1 y2 y3 y4 y5 y6 y7 y8 y9 y10 y11 y12 y13 y14 y15 y16 y17 y18 y19 y20 y21 =
  bif decide (y1 < ilen y7)
  then bif decide (y1 < 70)
    then bif decide (0 ≤ y1)
      then (y7[y1.toNat]?).bind fun val6 =>
        bif decide (IntKind.i64.wrap (y0 + ilen val6.snd.snd) > 5000)
          then some false
          else law29_light_l0 (IntKind.i64.wrap (y0 + ilen val6.snd.snd)) (IntKind.i64.wrap (y1 + 1)) (y2) (y3) (y4) (y5) (y6) (y7) (y8) (y9) (y10) (y11) (y12) (y13) (y14) (y15) (y16) (y17) (y18) (y19) (y20) (y21)
      else none
    else bif decide (ilen y7 ≤ 70)
      then bif decide (ilen y15 ≤ 100)
        then bif decide (ilen y16 ≤ 100)
          then bif decide (ilen y21 ≤ 500)
            then bif decide (isize y12 ≤ 100)
              then some (decide (isize y13 ≤ 100))
              else some false
            else some false
          else some false
        else some false
      else some false
  else bif decide (ilen y7 ≤ 70)
    then bif decide (ilen y15 ≤ 100)
      then bif decide (ilen y16 ≤ 100)
        then bif decide (ilen y21 ≤ 500)
          then bif decide (isize y12 ≤ 100)
            then some (decide (isize y13 ≤ 100))
            else some false
          else some false
        else some false
      else some false
    else some false := (loopAt_step _ _ _ _ _ _ _).trans (by kernel_rfl)
noncomputable def law29_light_sig : Sig := { pm := [(true, [(false, .int .i64), (false, .int .i64), (false, .int .i64), (false, .int .i64), (false, .int .i64), (false, .slice (.pair (.int .i64) (.pair (.int .i64) (.slice (.int .u8))))), (false, .int .i64)]), (true, [(false, .int .i64), (false, .int .i64), (false, .int .i64), (false, .str), (false, .str), (false, .int .i64), (false, .slice (.str)), (false, .slice (.int .i64)), (false, .int .i64), (false, .int .i64), (false, .int .i64), (false, .int .i64), (false, .slice (.int .u8))])], rm := [(false, [(false, .bool)])], f := fun | [⟨.int .i64, x0⟩, ⟨.int .i64, x1⟩, ⟨.int .i64, x2⟩, ⟨.int .i64, x3⟩, ⟨.int .i64, x4⟩, ⟨.slice (.pair (.int .i64) (.pair (.int .i64) (.slice (.int .u8)))), x5⟩, ⟨.int .i64, x6⟩, ⟨.int .i64, x7⟩, ⟨.int .i64, x8⟩, ⟨.int .i64, x9⟩, ⟨.str, x10⟩, ⟨.str, x11⟩, ⟨.int .i64, x12⟩, ⟨.slice (.str), x13⟩, ⟨.slice (.int .i64), x14⟩, ⟨.int .i64, x15⟩, ⟨.int .i64, x16⟩, ⟨.int .i64, x17⟩, ⟨.int .i64, x18⟩, ⟨.slice (.int .u8), x19⟩] => .yes _ (law29_light x0 x1 x2 x3 x4 x5 x6 x7 x8 x9 x10 x11 x12 x13 x14 x15 x16 x17 x18 x19) law29_light_mk | _ => .no }
theorem law29_light_ok : SigOk Tryd.prog 12 law29_light_sig := by
  refine contract_of (C := law29_light_C) (d := 3) ⟨S65_ok, noPs⟩ (callable_ex (by kernel_rfl)) ?_
  intro dvs
  unfold law29_light_sig
  dsimp only
  split
  · refine .inr ⟨_, law29_light_un, law29_light_mk, congrArg (fun o => Cl.yes _ o _) (law29_light_raw _ _ _ _ _ _ _ _ _ _ _ _ _ _ _ _ _ _ _ _), ?_⟩
    intro ds x h
    unfold law29_light_un at h
    split at h
    · cases h; rfl
    · cases h
  · exact .inl rfl
noncomputable def S66 : List (Nat × Sig) := (12, law29_light_sig) :: S65
theorem S66_ok : ListOk Tryd.prog S66 := ListOk.cons S65_ok law29_light_ok
noncomputable def law29_SessionMessages_C : Cfg := { P := Tryd.prog, sig := lookSig S66, hb := fun _ _ => none, hr := fun _ _ => none }
noncomputable def law29_SessionMessages_un : List DV → Option (Bool) := fun | [⟨.bool, r0⟩] => some r0 | _ => none
noncomputable def law29_SessionMessages_mk : Bool → List DV := fun r0 => [⟨.bool, r0⟩]
theorem law29_SessionMessages_ex : ∃ f : (Int) → (Int) → (Int) → (Int) → (Int) → (List (Int × Int × (List Int))) → (Int) → (ByteArray) → (Int) → (Int) → Option (Bool), f = fun (x0 : Int) (x1 : Int) (x2 : Int) (x3 : Int) (x4 : Int) (x5 : List (Int × Int × (List Int))) (x6 : Int) (x7 : ByteArray) (x8 : Int) (x9 : Int) => funRun law29_SessionMessages_C 3 6 [(true, [(false, .int .i64), (false, .int .i64), (false, .int .i64), (false, .int .i64), (false, .int .i64), (false, .slice (.pair (.int .i64) (.pair (.int .i64) (.slice (.int .u8))))), (false, .int .i64)]), (false, [(false, .str)]), (false, [(false, .int .i64)]), (false, [(false, .int .i64)])] [(false, [(false, .bool)])] law29_SessionMessages_un [⟨.int .i64, x0⟩, ⟨.int .i64, x1⟩, ⟨.int .i64, x2⟩, ⟨.int .i64, x3⟩, ⟨.int .i64, x4⟩, ⟨.slice (.pair (.int .i64) (.pair (.int .i64) (.slice (.int .u8)))), x5⟩, ⟨.int .i64, x6⟩, ⟨.str, x7⟩, ⟨.int .i64, x8⟩, ⟨.int .i64, x9⟩] := ⟨_, rfl⟩
noncomputable def law29_SessionMessages : (Int) → (Int) → (Int) → (Int) → (Int) → (List (Int × Int × (List Int))) → (Int) → (ByteArray) → (Int) → (Int) → Option (Bool) := law29_SessionMessages_ex.choose
theorem law29_SessionMessages_raw (x0 : Int) (x1 : Int) (x2 : Int) (x3 : Int) (x4 : Int) (x5 : List (Int × Int × (List Int))) (x6 : Int) (x7 : ByteArray) (x8 : Int) (x9 : Int) : law29_SessionMessages x0 x1 x2 x3 x4 x5 x6 x7 x8 x9 = funRun law29_SessionMessages_C 3 6 [(true, [(false, .int .i64), (false, .int .i64), (false, .int .i64), (false, .int .i64), (false, .int .i64), (false, .slice (.pair (.int .i64) (.pair (.int .i64) (.slice (.int .u8))))), (false, .int .i64)]), (false, [(false, .str)]), (false, [(false, .int .i64)]), (false, [(false, .int .i64)])] [(false, [(false, .bool)])] law29_SessionMessages_un [⟨.int .i64, x0⟩, ⟨.int .i64, x1⟩, ⟨.int .i64, x2⟩, ⟨.int .i64, x3⟩, ⟨.int .i64, x4⟩, ⟨.slice (.pair (.int .i64) (.pair (.int .i64) (.slice (.int .u8)))), x5⟩, ⟨.int .i64, x6⟩, ⟨.str, x7⟩, ⟨.int .i64, x8⟩, ⟨.int .i64, x9⟩] := congrFun (congrFun (congrFun (congrFun (congrFun (congrFun (congrFun (congrFun (congrFun (congrFun (law29_SessionMessages_ex.choose_spec) x0) x1) x2) x3) x4) x5) x6) x7) x8) x9
theorem law29_SessionMessages_eq (x0 : Int) (x1 : Int) (x2 : Int) (x3 : Int) (x4 : Int) (x5 : List (Int × Int × (List Int))) (x6 : Int) (x7 : ByteArray) (x8 : Int) (x9 : Int) : law29_SessionMessages x0 x1 x2 x3 x4 x5 x6 x7 x8 x9 =
  (law29_light x0 x1 x2 x3 x4 x5 x6 0 0 0 x7 (⟨#[]⟩ : ByteArray) 0 [] [] 0 0 0 0 []).bind fun val0 =>
  bif !val0
    then (law29_works).bind fun val4 =>
      some (val4)
    else (ref29_Check x0 x1 x2 x3 x4 x5 x6).bind fun val4 =>
      bif val4 != 0
        then (law29_works).bind fun val8 =>
          some (val8)
        else (ses_Open x0 x1 x2 x3 x4 x5 x6 4 0 0 x7 (⟨#[]⟩ : ByteArray) x8 [] [] 0 0 x9 0 []).bind fun val8 =>
          bif val8.2.2.2.2.2.2.2 != 0
            then (law29_works).bind fun val12 =>
              some (val12)
            else (ses_Ask val8.1 val8.2.1 val8.2.2.1 val8.2.2.2.1 val8.2.2.2.2.1 val8.2.2.2.2.2.1 val8.2.2.2.2.2.2.1).bind fun val12 =>
              (ref25_Where x7 x8 x3).bind fun val14 =>
                bif val12.2.2.2
                  then bif val14.2 == 0
                    then bif val12.2.1 == val14.1
                      then (law29_works).bind fun val22 =>
                        some (val22)
                      else some false
                    else some false
                  else some false := (law29_SessionMessages_raw x0 x1 x2 x3 x4 x5 x6 x7 x8 x9).trans (by kernel_rfl)
noncomputable def law29_SessionMessages_sig : Sig := { pm := [(true, [(false, .int .i64), (false, .int .i64), (false, .int .i64), (false, .int .i64), (false, .int .i64), (false, .slice (.pair (.int .i64) (.pair (.int .i64) (.slice (.int .u8))))), (false, .int .i64)]), (false, [(false, .str)]), (false, [(false, .int .i64)]), (false, [(false, .int .i64)])], rm := [(false, [(false, .bool)])], f := fun | [⟨.int .i64, x0⟩, ⟨.int .i64, x1⟩, ⟨.int .i64, x2⟩, ⟨.int .i64, x3⟩, ⟨.int .i64, x4⟩, ⟨.slice (.pair (.int .i64) (.pair (.int .i64) (.slice (.int .u8)))), x5⟩, ⟨.int .i64, x6⟩, ⟨.str, x7⟩, ⟨.int .i64, x8⟩, ⟨.int .i64, x9⟩] => .yes _ (law29_SessionMessages x0 x1 x2 x3 x4 x5 x6 x7 x8 x9) law29_SessionMessages_mk | _ => .no }
theorem law29_SessionMessages_ok : SigOk Tryd.prog 6 law29_SessionMessages_sig := by
  refine contract_of (C := law29_SessionMessages_C) (d := 3) ⟨S66_ok, noPs⟩ (callable_ex (by kernel_rfl)) ?_
  intro dvs
  unfold law29_SessionMessages_sig
  dsimp only
  split
  · refine .inr ⟨_, law29_SessionMessages_un, law29_SessionMessages_mk, congrArg (fun o => Cl.yes _ o _) (law29_SessionMessages_raw _ _ _ _ _ _ _ _ _ _), ?_⟩
    intro ds x h
    unfold law29_SessionMessages_un at h
    split at h
    · cases h; rfl
    · cases h
  · exact .inl rfl
noncomputable def S67 : List (Nat × Sig) := (6, law29_SessionMessages_sig) :: S66
theorem S67_ok : ListOk Tryd.prog S67 := ListOk.cons S66_ok law29_SessionMessages_ok
noncomputable def law29_SessionStays_C : Cfg := { P := Tryd.prog, sig := lookSig S67, hb := fun _ _ => none, hr := fun _ _ => none }
noncomputable def law29_SessionStays_un : List DV → Option (Bool) := fun | [⟨.bool, r0⟩] => some r0 | _ => none
noncomputable def law29_SessionStays_mk : Bool → List DV := fun r0 => [⟨.bool, r0⟩]
theorem law29_SessionStays_ex : ∃ f : (Int) → (Int) → (Int) → (Int) → (Int) → (List (Int × Int × (List Int))) → (Int) → (Int) → (Int) → (Int) → (ByteArray) → (ByteArray) → (Int) → (List ByteArray) → (List Int) → (Int) → (Int) → (Int) → (Int) → (List Int) → (Int) → (Int) → (Int) → (Int) → (Int) → (Int) → (List (Int × Int × Int × ByteArray × Int × ByteArray × Int)) → Option (Bool), f = fun (x0 : Int) (x1 : Int) (x2 : Int) (x3 : Int) (x4 : Int) (x5 : List (Int × Int × (List Int))) (x6 : Int) (x7 : Int) (x8 : Int) (x9 : Int) (x10 : ByteArray) (x11 : ByteArray) (x12 : Int) (x13 : List ByteArray) (x14 : List Int) (x15 : Int) (x16 : Int) (x17 : Int) (x18 : Int) (x19 : List Int) (x20 : Int) (x21 : Int) (x22 : Int) (x23 : Int) (x24 : Int) (x25 : Int) (x26 : List (Int × Int × Int × ByteArray × Int × ByteArray × Int)) => funRun law29_SessionStays_C 3 5 [(true, [(false, .int .i64), (false, .int .i64), (false, .int .i64), (false, .int .i64), (false, .int .i64), (false, .slice (.pair (.int .i64) (.pair (.int .i64) (.slice (.int .u8))))), (false, .int .i64)]), (true, [(false, .int .i64), (false, .int .i64), (false, .int .i64), (false, .str), (false, .str), (false, .int .i64), (false, .slice (.str)), (false, .slice (.int .i64)), (false, .int .i64), (false, .int .i64), (false, .int .i64), (false, .int .i64), (false, .slice (.int .u8))]), (false, [(false, .int .i64)]), (true, [(false, .int .i64), (false, .int .i64), (false, .int .i64), (false, .int .i64), (false, .int .i64), (false, .slice (.pair (.int .i64) (.pair (.int .i64) (.pair (.int .i64) (.pair (.str) (.pair (.int .i64) (.pair (.str) (.int .i64))))))))])] [(false, [(false, .bool)])] law29_SessionStays_un [⟨.int .i64, x0⟩, ⟨.int .i64, x1⟩, ⟨.int .i64, x2⟩, ⟨.int .i64, x3⟩, ⟨.int .i64, x4⟩, ⟨.slice (.pair (.int .i64) (.pair (.int .i64) (.slice (.int .u8)))), x5⟩, ⟨.int .i64, x6⟩, ⟨.int .i64, x7⟩, ⟨.int .i64, x8⟩, ⟨.int .i64, x9⟩, ⟨.str, x10⟩, ⟨.str, x11⟩, ⟨.int .i64, x12⟩, ⟨.slice (.str), x13⟩, ⟨.slice (.int .i64), x14⟩, ⟨.int .i64, x15⟩, ⟨.int .i64, x16⟩, ⟨.int .i64, x17⟩, ⟨.int .i64, x18⟩, ⟨.slice (.int .u8), x19⟩, ⟨.int .i64, x20⟩, ⟨.int .i64, x21⟩, ⟨.int .i64, x22⟩, ⟨.int .i64, x23⟩, ⟨.int .i64, x24⟩, ⟨.int .i64, x25⟩, ⟨.slice (.pair (.int .i64) (.pair (.int .i64) (.pair (.int .i64) (.pair (.str) (.pair (.int .i64) (.pair (.str) (.int .i64))))))), x26⟩] := ⟨_, rfl⟩
noncomputable def law29_SessionStays : (Int) → (Int) → (Int) → (Int) → (Int) → (List (Int × Int × (List Int))) → (Int) → (Int) → (Int) → (Int) → (ByteArray) → (ByteArray) → (Int) → (List ByteArray) → (List Int) → (Int) → (Int) → (Int) → (Int) → (List Int) → (Int) → (Int) → (Int) → (Int) → (Int) → (Int) → (List (Int × Int × Int × ByteArray × Int × ByteArray × Int)) → Option (Bool) := law29_SessionStays_ex.choose
theorem law29_SessionStays_raw (x0 : Int) (x1 : Int) (x2 : Int) (x3 : Int) (x4 : Int) (x5 : List (Int × Int × (List Int))) (x6 : Int) (x7 : Int) (x8 : Int) (x9 : Int) (x10 : ByteArray) (x11 : ByteArray) (x12 : Int) (x13 : List ByteArray) (x14 : List Int) (x15 : Int) (x16 : Int) (x17 : Int) (x18 : Int) (x19 : List Int) (x20 : Int) (x21 : Int) (x22 : Int) (x23 : Int) (x24 : Int) (x25 : Int) (x26 : List (Int × Int × Int × ByteArray × Int × ByteArray × Int)) : law29_SessionStays x0 x1 x2 x3 x4 x5 x6 x7 x8 x9 x10 x11 x12 x13 x14 x15 x16 x17 x18 x19 x20 x21 x22 x23 x24 x25 x26 = funRun law29_SessionStays_C 3 5 [(true, [(false, .int .i64), (false, .int .i64), (false, .int .i64), (false, .int .i64), (false, .int .i64), (false, .slice (.pair (.int .i64) (.pair (.int .i64) (.slice (.int .u8))))), (false, .int .i64)]), (true, [(false, .int .i64), (false, .int .i64), (false, .int .i64), (false, .str), (false, .str), (false, .int .i64), (false, .slice (.str)), (false, .slice (.int .i64)), (false, .int .i64), (false, .int .i64), (false, .int .i64), (false, .int .i64), (false, .slice (.int .u8))]), (false, [(false, .int .i64)]), (true, [(false, .int .i64), (false, .int .i64), (false, .int .i64), (false, .int .i64), (false, .int .i64), (false, .slice (.pair (.int .i64) (.pair (.int .i64) (.pair (.int .i64) (.pair (.str) (.pair (.int .i64) (.pair (.str) (.int .i64))))))))])] [(false, [(false, .bool)])] law29_SessionStays_un [⟨.int .i64, x0⟩, ⟨.int .i64, x1⟩, ⟨.int .i64, x2⟩, ⟨.int .i64, x3⟩, ⟨.int .i64, x4⟩, ⟨.slice (.pair (.int .i64) (.pair (.int .i64) (.slice (.int .u8)))), x5⟩, ⟨.int .i64, x6⟩, ⟨.int .i64, x7⟩, ⟨.int .i64, x8⟩, ⟨.int .i64, x9⟩, ⟨.str, x10⟩, ⟨.str, x11⟩, ⟨.int .i64, x12⟩, ⟨.slice (.str), x13⟩, ⟨.slice (.int .i64), x14⟩, ⟨.int .i64, x15⟩, ⟨.int .i64, x16⟩, ⟨.int .i64, x17⟩, ⟨.int .i64, x18⟩, ⟨.slice (.int .u8), x19⟩, ⟨.int .i64, x20⟩, ⟨.int .i64, x21⟩, ⟨.int .i64, x22⟩, ⟨.int .i64, x23⟩, ⟨.int .i64, x24⟩, ⟨.int .i64, x25⟩, ⟨.slice (.pair (.int .i64) (.pair (.int .i64) (.pair (.int .i64) (.pair (.str) (.pair (.int .i64) (.pair (.str) (.int .i64))))))), x26⟩] := congrFun (congrFun (congrFun (congrFun (congrFun (congrFun (congrFun (congrFun (congrFun (congrFun (congrFun (congrFun (congrFun (congrFun (congrFun (congrFun (congrFun (congrFun (congrFun (congrFun (congrFun (congrFun (congrFun (congrFun (congrFun (congrFun (congrFun (law29_SessionStays_ex.choose_spec) x0) x1) x2) x3) x4) x5) x6) x7) x8) x9) x10) x11) x12) x13) x14) x15) x16) x17) x18) x19) x20) x21) x22) x23) x24) x25) x26
theorem law29_SessionStays_eq (x0 : Int) (x1 : Int) (x2 : Int) (x3 : Int) (x4 : Int) (x5 : List (Int × Int × (List Int))) (x6 : Int) (x7 : Int) (x8 : Int) (x9 : Int) (x10 : ByteArray) (x11 : ByteArray) (x12 : Int) (x13 : List ByteArray) (x14 : List Int) (x15 : Int) (x16 : Int) (x17 : Int) (x18 : Int) (x19 : List Int) (x20 : Int) (x21 : Int) (x22 : Int) (x23 : Int) (x24 : Int) (x25 : Int) (x26 : List (Int × Int × Int × ByteArray × Int × ByteArray × Int)) : law29_SessionStays x0 x1 x2 x3 x4 x5 x6 x7 x8 x9 x10 x11 x12 x13 x14 x15 x16 x17 x18 x19 x20 x21 x22 x23 x24 x25 x26 =
  (law29_light x0 x1 x2 x3 x4 x5 x6 x7 x8 x9 x10 x11 x12 x13 x14 x15 x16 x17 x18 x19).bind fun val0 =>
  bif !val0
    then (law29_works).bind fun val4 =>
      some (val4)
    else (ref29_Check x0 x1 x2 x3 x4 x5 x6).bind fun val4 =>
      bif val4 != 0
        then (law29_works).bind fun val8 =>
          some (val8)
        else bif decide (ilen x26 > 100)
          then (law29_works).bind fun val10 =>
            some (val10)
          else bif decide (x24 < 0)
            then (law29_works).bind fun val12 =>
              some (val12)
            else bif decide (x24 > 17)
              then (law29_works).bind fun val14 =>
                some (val14)
              else (ses_Turn x0 x1 x2 x3 x4 x5 x6 x20).bind fun val14 =>
                (ses_Check val14.1 val14.2.1 val14.2.2.1 val14.2.2.2.1 val14.2.2.2.2.1 val14.2.2.2.2.2.1 val14.2.2.2.2.2.2).bind fun val16 =>
                  bif val16 != 0
                    then some false
                    else (ses_Open x0 x1 x2 x3 x4 x5 x6 x7 x8 x9 x10 x11 x12 x13 x14 x15 x16 x17 x18 x19).bind fun val20 =>
                      bif val20.2.2.2.2.2.2.2 == 0
                        then (ses_Check val20.1 val20.2.1 val20.2.2.1 val20.2.2.2.1 val20.2.2.2.2.1 val20.2.2.2.2.2.1 val20.2.2.2.2.2.2.1).bind fun val24 =>
                          bif val24 != 0
                            then some false
                            else (ses_Heard x0 x1 x2 x3 x4 x5 x6 x21 x22 x23 x24 x25 x26).bind fun val28 =>
                              (ses_Check val28.1 val28.2.1 val28.2.2.1 val28.2.2.2.1 val28.2.2.2.2.1 val28.2.2.2.2.2.1 val28.2.2.2.2.2.2.1).bind fun val30 =>
                                bif val30 == 0
                                  then (law29_works).bind fun val34 =>
                                    some (val34)
                                  else some false
                        else (ses_Heard x0 x1 x2 x3 x4 x5 x6 x21 x22 x23 x24 x25 x26).bind fun val24 =>
                          (ses_Check val24.1 val24.2.1 val24.2.2.1 val24.2.2.2.1 val24.2.2.2.2.1 val24.2.2.2.2.2.1 val24.2.2.2.2.2.2.1).bind fun val26 =>
                            bif val26 == 0
                              then (law29_works).bind fun val30 =>
                                some (val30)
                              else some false := (law29_SessionStays_raw x0 x1 x2 x3 x4 x5 x6 x7 x8 x9 x10 x11 x12 x13 x14 x15 x16 x17 x18 x19 x20 x21 x22 x23 x24 x25 x26).trans (by kernel_rfl)
noncomputable def law29_SessionStays_sig : Sig := { pm := [(true, [(false, .int .i64), (false, .int .i64), (false, .int .i64), (false, .int .i64), (false, .int .i64), (false, .slice (.pair (.int .i64) (.pair (.int .i64) (.slice (.int .u8))))), (false, .int .i64)]), (true, [(false, .int .i64), (false, .int .i64), (false, .int .i64), (false, .str), (false, .str), (false, .int .i64), (false, .slice (.str)), (false, .slice (.int .i64)), (false, .int .i64), (false, .int .i64), (false, .int .i64), (false, .int .i64), (false, .slice (.int .u8))]), (false, [(false, .int .i64)]), (true, [(false, .int .i64), (false, .int .i64), (false, .int .i64), (false, .int .i64), (false, .int .i64), (false, .slice (.pair (.int .i64) (.pair (.int .i64) (.pair (.int .i64) (.pair (.str) (.pair (.int .i64) (.pair (.str) (.int .i64))))))))])], rm := [(false, [(false, .bool)])], f := fun | [⟨.int .i64, x0⟩, ⟨.int .i64, x1⟩, ⟨.int .i64, x2⟩, ⟨.int .i64, x3⟩, ⟨.int .i64, x4⟩, ⟨.slice (.pair (.int .i64) (.pair (.int .i64) (.slice (.int .u8)))), x5⟩, ⟨.int .i64, x6⟩, ⟨.int .i64, x7⟩, ⟨.int .i64, x8⟩, ⟨.int .i64, x9⟩, ⟨.str, x10⟩, ⟨.str, x11⟩, ⟨.int .i64, x12⟩, ⟨.slice (.str), x13⟩, ⟨.slice (.int .i64), x14⟩, ⟨.int .i64, x15⟩, ⟨.int .i64, x16⟩, ⟨.int .i64, x17⟩, ⟨.int .i64, x18⟩, ⟨.slice (.int .u8), x19⟩, ⟨.int .i64, x20⟩, ⟨.int .i64, x21⟩, ⟨.int .i64, x22⟩, ⟨.int .i64, x23⟩, ⟨.int .i64, x24⟩, ⟨.int .i64, x25⟩, ⟨.slice (.pair (.int .i64) (.pair (.int .i64) (.pair (.int .i64) (.pair (.str) (.pair (.int .i64) (.pair (.str) (.int .i64))))))), x26⟩] => .yes _ (law29_SessionStays x0 x1 x2 x3 x4 x5 x6 x7 x8 x9 x10 x11 x12 x13 x14 x15 x16 x17 x18 x19 x20 x21 x22 x23 x24 x25 x26) law29_SessionStays_mk | _ => .no }
theorem law29_SessionStays_ok : SigOk Tryd.prog 5 law29_SessionStays_sig := by
  refine contract_of (C := law29_SessionStays_C) (d := 3) ⟨S67_ok, noPs⟩ (callable_ex (by kernel_rfl)) ?_
  intro dvs
  unfold law29_SessionStays_sig
  dsimp only
  split
  · refine .inr ⟨_, law29_SessionStays_un, law29_SessionStays_mk, congrArg (fun o => Cl.yes _ o _) (law29_SessionStays_raw _ _ _ _ _ _ _ _ _ _ _ _ _ _ _ _ _ _ _ _ _ _ _ _ _ _ _), ?_⟩
    intro ds x h
    unfold law29_SessionStays_un at h
    split at h
    · cases h; rfl
    · cases h
  · exact .inl rfl
noncomputable def S68 : List (Nat × Sig) := (5, law29_SessionStays_sig) :: S67
theorem S68_ok : ListOk Tryd.prog S68 := ListOk.cons S67_ok law29_SessionStays_ok
noncomputable def law29_SessionOpens_C : Cfg := { P := Tryd.prog, sig := lookSig S68, hb := fun _ _ => none, hr := fun _ _ => none }
noncomputable def law29_SessionOpens_un : List DV → Option (Bool) := fun | [⟨.bool, r0⟩] => some r0 | _ => none
noncomputable def law29_SessionOpens_mk : Bool → List DV := fun r0 => [⟨.bool, r0⟩]
theorem law29_SessionOpens_ex : ∃ f : (Int) → (Int) → (Int) → (Int) → (Int) → (Int) → (Int) → (Int) → (List (Int × Int × (List Int))) → (Int) → (Int) → (Int) → (Int) → (ByteArray) → (ByteArray) → (Int) → (List ByteArray) → (List Int) → (Int) → (Int) → (Int) → (Int) → (List Int) → Option (Bool), f = fun (x0 : Int) (x1 : Int) (x2 : Int) (x3 : Int) (x4 : Int) (x5 : Int) (x6 : Int) (x7 : Int) (x8 : List (Int × Int × (List Int))) (x9 : Int) (x10 : Int) (x11 : Int) (x12 : Int) (x13 : ByteArray) (x14 : ByteArray) (x15 : Int) (x16 : List ByteArray) (x17 : List Int) (x18 : Int) (x19 : Int) (x20 : Int) (x21 : Int) (x22 : List Int) => funRun law29_SessionOpens_C 3 4 [(false, [(false, .int .i64)]), (false, [(false, .int .i64)]), (false, [(false, .int .i64)]), (true, [(false, .int .i64), (false, .int .i64), (false, .int .i64), (false, .int .i64), (false, .int .i64), (false, .slice (.pair (.int .i64) (.pair (.int .i64) (.slice (.int .u8))))), (false, .int .i64)]), (true, [(false, .int .i64), (false, .int .i64), (false, .int .i64), (false, .str), (false, .str), (false, .int .i64), (false, .slice (.str)), (false, .slice (.int .i64)), (false, .int .i64), (false, .int .i64), (false, .int .i64), (false, .int .i64), (false, .slice (.int .u8))])] [(false, [(false, .bool)])] law29_SessionOpens_un [⟨.int .i64, x0⟩, ⟨.int .i64, x1⟩, ⟨.int .i64, x2⟩, ⟨.int .i64, x3⟩, ⟨.int .i64, x4⟩, ⟨.int .i64, x5⟩, ⟨.int .i64, x6⟩, ⟨.int .i64, x7⟩, ⟨.slice (.pair (.int .i64) (.pair (.int .i64) (.slice (.int .u8)))), x8⟩, ⟨.int .i64, x9⟩, ⟨.int .i64, x10⟩, ⟨.int .i64, x11⟩, ⟨.int .i64, x12⟩, ⟨.str, x13⟩, ⟨.str, x14⟩, ⟨.int .i64, x15⟩, ⟨.slice (.str), x16⟩, ⟨.slice (.int .i64), x17⟩, ⟨.int .i64, x18⟩, ⟨.int .i64, x19⟩, ⟨.int .i64, x20⟩, ⟨.int .i64, x21⟩, ⟨.slice (.int .u8), x22⟩] := ⟨_, rfl⟩
noncomputable def law29_SessionOpens : (Int) → (Int) → (Int) → (Int) → (Int) → (Int) → (Int) → (Int) → (List (Int × Int × (List Int))) → (Int) → (Int) → (Int) → (Int) → (ByteArray) → (ByteArray) → (Int) → (List ByteArray) → (List Int) → (Int) → (Int) → (Int) → (Int) → (List Int) → Option (Bool) := law29_SessionOpens_ex.choose
theorem law29_SessionOpens_raw (x0 : Int) (x1 : Int) (x2 : Int) (x3 : Int) (x4 : Int) (x5 : Int) (x6 : Int) (x7 : Int) (x8 : List (Int × Int × (List Int))) (x9 : Int) (x10 : Int) (x11 : Int) (x12 : Int) (x13 : ByteArray) (x14 : ByteArray) (x15 : Int) (x16 : List ByteArray) (x17 : List Int) (x18 : Int) (x19 : Int) (x20 : Int) (x21 : Int) (x22 : List Int) : law29_SessionOpens x0 x1 x2 x3 x4 x5 x6 x7 x8 x9 x10 x11 x12 x13 x14 x15 x16 x17 x18 x19 x20 x21 x22 = funRun law29_SessionOpens_C 3 4 [(false, [(false, .int .i64)]), (false, [(false, .int .i64)]), (false, [(false, .int .i64)]), (true, [(false, .int .i64), (false, .int .i64), (false, .int .i64), (false, .int .i64), (false, .int .i64), (false, .slice (.pair (.int .i64) (.pair (.int .i64) (.slice (.int .u8))))), (false, .int .i64)]), (true, [(false, .int .i64), (false, .int .i64), (false, .int .i64), (false, .str), (false, .str), (false, .int .i64), (false, .slice (.str)), (false, .slice (.int .i64)), (false, .int .i64), (false, .int .i64), (false, .int .i64), (false, .int .i64), (false, .slice (.int .u8))])] [(false, [(false, .bool)])] law29_SessionOpens_un [⟨.int .i64, x0⟩, ⟨.int .i64, x1⟩, ⟨.int .i64, x2⟩, ⟨.int .i64, x3⟩, ⟨.int .i64, x4⟩, ⟨.int .i64, x5⟩, ⟨.int .i64, x6⟩, ⟨.int .i64, x7⟩, ⟨.slice (.pair (.int .i64) (.pair (.int .i64) (.slice (.int .u8)))), x8⟩, ⟨.int .i64, x9⟩, ⟨.int .i64, x10⟩, ⟨.int .i64, x11⟩, ⟨.int .i64, x12⟩, ⟨.str, x13⟩, ⟨.str, x14⟩, ⟨.int .i64, x15⟩, ⟨.slice (.str), x16⟩, ⟨.slice (.int .i64), x17⟩, ⟨.int .i64, x18⟩, ⟨.int .i64, x19⟩, ⟨.int .i64, x20⟩, ⟨.int .i64, x21⟩, ⟨.slice (.int .u8), x22⟩] := congrFun (congrFun (congrFun (congrFun (congrFun (congrFun (congrFun (congrFun (congrFun (congrFun (congrFun (congrFun (congrFun (congrFun (congrFun (congrFun (congrFun (congrFun (congrFun (congrFun (congrFun (congrFun (congrFun (law29_SessionOpens_ex.choose_spec) x0) x1) x2) x3) x4) x5) x6) x7) x8) x9) x10) x11) x12) x13) x14) x15) x16) x17) x18) x19) x20) x21) x22
theorem law29_SessionOpens_eq (x0 : Int) (x1 : Int) (x2 : Int) (x3 : Int) (x4 : Int) (x5 : Int) (x6 : Int) (x7 : Int) (x8 : List (Int × Int × (List Int))) (x9 : Int) (x10 : Int) (x11 : Int) (x12 : Int) (x13 : ByteArray) (x14 : ByteArray) (x15 : Int) (x16 : List ByteArray) (x17 : List Int) (x18 : Int) (x19 : Int) (x20 : Int) (x21 : Int) (x22 : List Int) : law29_SessionOpens x0 x1 x2 x3 x4 x5 x6 x7 x8 x9 x10 x11 x12 x13 x14 x15 x16 x17 x18 x19 x20 x21 x22 =
  (law29_light x3 x4 x5 x6 x7 x8 x9 x10 x11 x12 x13 x14 x15 x16 x17 x18 x19 x20 x21 x22).bind fun val0 =>
  bif !val0
    then (law29_works).bind fun val4 =>
      some (val4)
    else (ses_New x0 x1 x2).bind fun val4 =>
      (ref29_New x0 x1 x2).bind fun val6 =>
        bif val4.2.2.2.2.2.2.2 != val6.2.2.2.2.2.2.2
          then some false
          else (ref29_Same val4.1 val4.2.1 val4.2.2.1 val4.2.2.2.1 val4.2.2.2.2.1 val4.2.2.2.2.2.1 val4.2.2.2.2.2.2.1 val6.1 val6.2.1 val6.2.2.1 val6.2.2.2.1 val6.2.2.2.2.1 val6.2.2.2.2.2.1 val6.2.2.2.2.2.2.1).bind fun val10 =>
            bif !val10
              then some false
              else (ses_Check x3 x4 x5 x6 x7 x8 x9).bind fun val14 =>
                (ref29_Check x3 x4 x5 x6 x7 x8 x9).bind fun val16 =>
                  bif val14 != val16
                    then some false
                    else (ref29_Check x3 x4 x5 x6 x7 x8 x9).bind fun val20 =>
                      bif val20 != 0
                        then (law29_works).bind fun val24 =>
                          some (val24)
                        else (ses_Open x3 x4 x5 x6 x7 x8 x9 x10 x11 x12 x13 x14 x15 x16 x17 x18 x19 x20 x21 x22).bind fun val24 =>
                          (ref29_Open x3 x4 x5 x6 x7 x8 x9 x10 x11 x12 x13 x14 x15 x16 x17 x18 x19 x20 x21 x22).bind fun val26 =>
                            bif val24.2.2.2.2.2.2.2 == val26.2.2.2.2.2.2.2
                              then (ref29_Same val24.1 val24.2.1 val24.2.2.1 val24.2.2.2.1 val24.2.2.2.2.1 val24.2.2.2.2.2.1 val24.2.2.2.2.2.2.1 val26.1 val26.2.1 val26.2.2.1 val26.2.2.2.1 val26.2.2.2.2.1 val26.2.2.2.2.2.1 val26.2.2.2.2.2.2.1).bind fun val30 =>
                                bif val30
                                  then (law29_works).bind fun val34 =>
                                    some (val34)
                                  else some false
                              else some false := (law29_SessionOpens_raw x0 x1 x2 x3 x4 x5 x6 x7 x8 x9 x10 x11 x12 x13 x14 x15 x16 x17 x18 x19 x20 x21 x22).trans (by kernel_rfl)
noncomputable def law29_SessionOpens_sig : Sig := { pm := [(false, [(false, .int .i64)]), (false, [(false, .int .i64)]), (false, [(false, .int .i64)]), (true, [(false, .int .i64), (false, .int .i64), (false, .int .i64), (false, .int .i64), (false, .int .i64), (false, .slice (.pair (.int .i64) (.pair (.int .i64) (.slice (.int .u8))))), (false, .int .i64)]), (true, [(false, .int .i64), (false, .int .i64), (false, .int .i64), (false, .str), (false, .str), (false, .int .i64), (false, .slice (.str)), (false, .slice (.int .i64)), (false, .int .i64), (false, .int .i64), (false, .int .i64), (false, .int .i64), (false, .slice (.int .u8))])], rm := [(false, [(false, .bool)])], f := fun | [⟨.int .i64, x0⟩, ⟨.int .i64, x1⟩, ⟨.int .i64, x2⟩, ⟨.int .i64, x3⟩, ⟨.int .i64, x4⟩, ⟨.int .i64, x5⟩, ⟨.int .i64, x6⟩, ⟨.int .i64, x7⟩, ⟨.slice (.pair (.int .i64) (.pair (.int .i64) (.slice (.int .u8)))), x8⟩, ⟨.int .i64, x9⟩, ⟨.int .i64, x10⟩, ⟨.int .i64, x11⟩, ⟨.int .i64, x12⟩, ⟨.str, x13⟩, ⟨.str, x14⟩, ⟨.int .i64, x15⟩, ⟨.slice (.str), x16⟩, ⟨.slice (.int .i64), x17⟩, ⟨.int .i64, x18⟩, ⟨.int .i64, x19⟩, ⟨.int .i64, x20⟩, ⟨.int .i64, x21⟩, ⟨.slice (.int .u8), x22⟩] => .yes _ (law29_SessionOpens x0 x1 x2 x3 x4 x5 x6 x7 x8 x9 x10 x11 x12 x13 x14 x15 x16 x17 x18 x19 x20 x21 x22) law29_SessionOpens_mk | _ => .no }
theorem law29_SessionOpens_ok : SigOk Tryd.prog 4 law29_SessionOpens_sig := by
  refine contract_of (C := law29_SessionOpens_C) (d := 3) ⟨S68_ok, noPs⟩ (callable_ex (by kernel_rfl)) ?_
  intro dvs
  unfold law29_SessionOpens_sig
  dsimp only
  split
  · refine .inr ⟨_, law29_SessionOpens_un, law29_SessionOpens_mk, congrArg (fun o => Cl.yes _ o _) (law29_SessionOpens_raw _ _ _ _ _ _ _ _ _ _ _ _ _ _ _ _ _ _ _ _ _ _ _), ?_⟩
    intro ds x h
    unfold law29_SessionOpens_un at h
    split at h
    · cases h; rfl
    · cases h
  · exact .inl rfl
noncomputable def S69 : List (Nat × Sig) := (4, law29_SessionOpens_sig) :: S68
theorem S69_ok : ListOk Tryd.prog S69 := ListOk.cons S68_ok law29_SessionOpens_ok
end Go.Proofs.YtdbenenonfldkaaDoor.PE

