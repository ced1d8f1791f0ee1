/- FrameFlips: for every input the law of that name returns true, and its arguments read as before: the row, out of its contract. -/
import Derived.Test.YtadcekchmaiihaaRows
import Derived.Test.YtadcekchmaiihaaERow
import Derived.Test.YtadcekchmaiihaaP05e
import Derived.WalkKit
import Derived.ProofKit
import Derived.OpenShut
import Derived.ShutString
import Derived.ChangeOld
import Derived.Below
import Derived.SizedLaws
namespace Go.Proofs.Ytadcekchmaiihaa.frameFlips
open Go.ChangeShapes Go.WideShapes Go.ChangeAt Go.RowKit
set_option linter.unusedVariables false
theorem own : ownKnob Try.prog.godebug = none := by kernel_rfl
theorem laidOut : laidOutB Try.prog = true := by kernel_rfl
abbrev qs : List (Bool × PE.Ty) := [(false, .slice (.slice (.int .u8))), (false, .int .i64), (false, .int .i64), (false, .int .u8)]
theorem law (xs : List PE.DV) (h : xs.map (·.t) = qs.map (·.2)) (hw : ∀ d ∈ xs, PE.Wf d.t d.x) : ∃ (o : Option Bool) (mk : Bool → List PE.DV), PE.law05_FrameFlips_sig.f (PE.flatAll xs) = .yes Bool o mk ∧ o = some true ∧ mk true = [⟨.bool, true⟩] := by
  obtain ⟨x0, ys0, rfl, h0⟩ := PE.dv_cons h
  obtain ⟨x1, ys1, rfl, h1⟩ := PE.dv_cons h0
  obtain ⟨x2, ys2, rfl, h2⟩ := PE.dv_cons h1
  obtain ⟨x3, ys3, rfl, h3⟩ := PE.dv_cons h2
  obtain rfl := PE.dv_nil h3
  have w0 : PE.Wf (.slice (.slice (.int .u8))) x0 := hw ⟨_, x0⟩ (by simp)
  have w1 : PE.Wf (.int .i64) x1 := hw ⟨_, x1⟩ (by simp)
  have w2 : PE.Wf (.int .i64) x2 := hw ⟨_, x2⟩ (by simp)
  have w3 : PE.Wf (.int .u8) x3 := hw ⟨_, x3⟩ (by simp)
  exact ⟨_, _, rfl, PE.flips_law _ _ _ _ (PE.recs_of w0) (PE.u8_range w3), rfl⟩
set_option maxRecDepth 100000 in
theorem lifted (os : Os) (started : os.Started) (H : Type) (enc : TypeId × Value → H) :
    ReturnsInHanded {} Try.checked os 7 .any (Rows.frameFlipsSpec.pre6 enc Try.prog Try.f7 Rows.frameFlipsRow.domain false) (Rows.frameFlipsSpec.post enc Try.prog Try.f7 false true false false) := by
  refine returnsInHanded_of_change_sized (C := Try.checked) own started (by kernel_rfl) Try.func7
    (ChangeSpec.witness6 (enc := enc) (C := Try.checked) false ⟨#[], #[.slice none 0 0, .int .i64 0, .int .i64 0, .int .u8 0], []⟩ 8 (by kernel_rfl) (by kernel_rfl) (by kernel_rfl) (by kernel_rfl)) ?_
  intro W base args ds gs before hval0 hW hcnd hsz0 _
  have hsz : (DataW.weightsEach Try.prog (Try.f7.params.toList ++ Rows.frameFlipsSpec.plain.varTypes Try.prog) (ds ++ gs)).all (· ≤ reachBytes) = true := hsz0
  have hval : ∀ (j : Nat) t v, Try.f7.params[j]? = some t → args[j]? = some v → Value.okWide Try.prog W .any base t v := hval0
  have hW' := hW
  obtain ⟨p, q, hA0, hV, rfl, hfz, hnd⟩ := hW
  have hA : DataW.TrodAll enc Try.prog W 0 (fun _ => true) true Try.f7.params.toList args.toList ds p := hA0
  rw [Try.params7] at hA hval hsz
  obtain ⟨rfl, rfl⟩ := trodVars_none hV
  have hA' := hA
  have hlight : ∀ m ∈ DataW.weightsEach Try.prog [27, 3, 3, 5] ds, m ≤ reachBytes := by
    intro m hm
    have e : Rows.frameFlipsSpec.plain.varTypes Try.prog = [] := by kernel_rfl
    rw [e] at hsz
    have := List.all_eq_true.1 hsz m (by simpa using hm)
    simpa using this
  obtain ⟨v0, vs0, d0, ds0, p0, q0, hargs0, rfl, rfl, k0, r0⟩ := trodAll_cons hA
  have lt0 : ∀ x ∈ p0, x.block < W.heap.size := by obtain ⟨m, hm⟩ := k0; exact DataW.trod_lt m _ _ _ hm
  obtain ⟨v1, vs1, d1, ds1, p1, q1, hargs1, rfl, rfl, k1, r1⟩ := trodAll_cons r0
  have lt1 : ∀ x ∈ p1, x.block < W.heap.size := by obtain ⟨m, hm⟩ := k1; exact DataW.trod_lt m _ _ _ hm
  obtain ⟨v2, vs2, d2, ds2, p2, q2, hargs2, rfl, rfl, k2, r2⟩ := trodAll_cons r1
  have lt2 : ∀ x ∈ p2, x.block < W.heap.size := by obtain ⟨m, hm⟩ := k2; exact DataW.trod_lt m _ _ _ hm
  obtain ⟨v3, vs3, d3, ds3, p3, q3, hargs3, rfl, rfl, k3, r3⟩ := trodAll_cons r2
  have lt3 : ∀ x ∈ p3, x.block < W.heap.size := by obtain ⟨m, hm⟩ := k3; exact DataW.trod_lt m _ _ _ hm
  obtain ⟨rfl, rfl, rfl⟩ := trodAll_nil r3
  refine (PE.law_calls PE.law05_FrameFlips_ok (qs := qs) (by kernel_rfl) (by kernel_rfl) law (by kernel_rfl) hA' (fun j t v ht hv => hval j t v (by simpa using ht) hv) hlight).mono fun e W' ⟨he, bel⟩ => ?_
  subst he
  have hback := (trodAll_cons_mk (Below.trod laidOut (by kernel_rfl) (of_decide_eq_true (by kernel_rfl)) k0 bel lt0) (trodAll_cons_mk (Below.trod laidOut (by kernel_rfl) (of_decide_eq_true (by kernel_rfl)) k1 bel lt1) (trodAll_cons_mk (Below.trod laidOut (by kernel_rfl) (of_decide_eq_true (by kernel_rfl)) k2 bel lt2) (trodAll_cons_mk (Below.trod laidOut (by kernel_rfl) (of_decide_eq_true (by kernel_rfl)) k3 bel lt3) (trodAll_mk0)))) : DataW.TrodAll enc Try.prog W' 0 (fun b => decide (b < W.heap.size)) true [27, 3, 3, 5] [v0, v1, v2, v3] [d0, d1, d2, d3] _)
  have hargs : args.toList = [v0, v1, v2, v3] := by simp_all
  exact ⟨_, rfl, _, _, _, [], _, [], hW', trodAll_mk1 (shut_bool Try.underlying4 _), (by rw [Try.params7, hargs]; exact hback), rfl, bel.frame _, fun h => by cases h⟩
theorem over : Rows.frameFlipsRow.holds Try.pinned (OpenSpec.ofChange Rows.frameFlipsSpec) :=
  OpenClaim.holds_of_wide 7 Try.f7 rfl rfl rfl rfl rfl rfl rfl ⟨rfl, rfl, rfl, rfl, rfl⟩ rfl rfl rfl rfl rfl (by kernel_rfl) Try.func7 (by kernel_rfl)
    (of_decide_eq_true (by kernel_rfl)) (by unfold Func.isWrapper; first | (rw [if_pos (by decide +kernel)]; kernel_rfl) | (rw [if_neg (by decide +kernel)]; exact ⟨rfl, rfl⟩))
    (fun os started H enc _ => lifted os started H enc)
theorem proved : Rows.FrameFlipsSaid := over
#print axioms proved
end Go.Proofs.Ytadcekchmaiihaa.frameFlips
namespace Go.Proofs.Ytadcekchmaiihaa
/-- The row, under a short name, for the claim. -/
theorem frameFlips_holds : Rows.FrameFlipsSaid := frameFlips.proved
end Go.Proofs.Ytadcekchmaiihaa
