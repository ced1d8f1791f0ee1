/- SessionOpens: for every input the law of that name returns true, and its arguments read as before: the row, out of its contract. -/
import Derived.Test.YtdbenenonfldkaaDoorTie
import Derived.Test.YtdbenenonfldkaaDoorCards
import Derived.LaidMore
import Derived.ChangeVars
import Derived.JoinedOf
import Derived.Stop.Joined
import Derived.SevenTiedAt
import Derived.Test.YtdbenenonfldkaaDoorRows
import Derived.Test.YtdbenenonfldkaaDoorERow
import Derived.Test.YtdbenenonfldkaaDoorN29b
import Derived.WalkKit
import Derived.ProofKit
import Derived.OpenShut
import Derived.ShutString
import Derived.ChangeOld
import Derived.Below
import Derived.SizedLaws
namespace Go.Proofs.YtdbenenonfldkaaDoor.sessionOpens
open Go.ChangeShapes Go.WideShapes Go.ChangeAt Go.RowKit
set_option linter.unusedVariables false
theorem own : ownKnob Tryd.prog.godebug = none := by kernel_rfl
theorem laidOut : laidOutB Tryd.prog = true := by kernel_rfl
abbrev qs : List (Bool × PE.Ty) := [(false, .int .i64), (false, .int .i64), (false, .int .i64), (true, .pair (.int .i64) (.pair (.int .i64) (.pair (.int .i64) (.pair (.int .i64) (.pair (.int .i64) (.pair (.slice (.pair (.int .i64) (.pair (.int .i64) (.slice (.int .u8))))) (.int .i64))))))), (true, .pair (.int .i64) (.pair (.int .i64) (.pair (.int .i64) (.pair (.str) (.pair (.str) (.pair (.int .i64) (.pair (.pair (.slice (.str)) (.slice (.int .i64))) (.pair (.int .i64) (.pair (.int .i64) (.pair (.int .i64) (.pair (.int .i64) (.slice (.int .u8)))))))))))))]
theorem law (xs : List PE.DV) (h : xs.map (·.t) = qs.map (·.2)) (hw : ∀ d ∈ xs, PE.Wf d.t d.x) : ∃ (o : Option Bool) (mk : Bool → List PE.DV), PE.law29_SessionOpens_sig.f (PE.flatAll xs) = .yes Bool o mk ∧ o = some true ∧ mk true = [⟨.bool, true⟩] := by
  obtain ⟨x0, ys0, rfl, h0⟩ := PE.dv_cons h
  obtain ⟨x1, ys1, rfl, h1⟩ := PE.dv_cons h0
  obtain ⟨x2, ys2, rfl, h2⟩ := PE.dv_cons h1
  obtain ⟨x3, ys3, rfl, h3⟩ := PE.dv_cons h2
  obtain ⟨x4, ys4, rfl, h4⟩ := PE.dv_cons h3
  obtain rfl := PE.dv_nil h4
  have w0 : PE.Wf (.int .i64) x0 := hw ⟨_, x0⟩ (by simp)
  have w1 : PE.Wf (.int .i64) x1 := hw ⟨_, x1⟩ (by simp)
  have w2 : PE.Wf (.int .i64) x2 := hw ⟨_, x2⟩ (by simp)
  have w3 : PE.Wf (.pair (.int .i64) (.pair (.int .i64) (.pair (.int .i64) (.pair (.int .i64) (.pair (.int .i64) (.pair (.slice (.pair (.int .i64) (.pair (.int .i64) (.slice (.int .u8))))) (.int .i64))))))) x3 := hw ⟨_, x3⟩ (by simp)
  have w4 : PE.Wf (.pair (.int .i64) (.pair (.int .i64) (.pair (.int .i64) (.pair (.str) (.pair (.str) (.pair (.int .i64) (.pair (.pair (.slice (.str)) (.slice (.int .i64))) (.pair (.int .i64) (.pair (.int .i64) (.pair (.int .i64) (.pair (.int .i64) (.slice (.int .u8))))))))))))) x4 := hw ⟨_, x4⟩ (by simp)
  exact ⟨_, _, rfl, PE.opens_law _ _ _ _ _ _ _ _ _ _ _ _ _ _ _ _ _ _ _ _ _ _ _ (PE.errands_of w3.2.2.2.2.2.1) (PE.txt_of w4.2.2.2.2.2.2.1.1) (PE.i64_range w4.2.2.2.2.2.1) (PE.i64s_of w4.2.2.2.2.2.2.1.2) (PE.bytes29 w4.2.2.2.2.2.2.2.2.2.2.2) (PE.i64_range w4.2.2.2.2.2.2.2.1).2, rfl⟩
theorem door_met (os : Os) (args : Array Value) : laidMetH Tryd.prog Rows.sessionOpensRow.laid ((World.doorLaid Tryd.prog 400 os).forCall (fun _ _ => 0) ⟨#[], args, []⟩).memory :=
  laidMetH_of_parts3 (fuel := 8) (laidMet_of_run' 8 (by kernel_rfl) (by kernel_rfl)) (by kernel_rfl) (by kernel_rfl)
set_option maxRecDepth 100000 in
theorem lifted (os : Os) (started : os.Started) (H : Type) (enc : TypeId × Value → H) :
    ReturnsInHanded {} Tryd.checked os 4 .any (fun w args => (Rows.sessionOpensSpec.pre enc Tryd.prog Tryd.f4 [] false w args ∧ laidMetH Tryd.prog Rows.sessionOpensRow.laid w) ∧ sizedMet enc Tryd.prog Tryd.f4 (OpenSpec.ofChange Rows.sessionOpensSpec) false w args)
      (Rows.sessionOpensSpec.post enc Tryd.prog Tryd.f4 false true false false) := by
  refine returnsInHanded_of_change_and (C := Tryd.checked) (X := fun w _ => laidMetH Tryd.prog Rows.sessionOpensRow.laid w) (fun _ _ _ hh h => h.of_heap hh) own started (by kernel_rfl) Tryd.func4
    (ChangeSpec.witness_shaped (enc := enc) (C := Tryd.checked) (os := os) (X := fun w _ => laidMetH Tryd.prog Rows.sessionOpensRow.laid w) false (World.doorLaid Tryd.prog 400 os) #[.int .i64 0, .int .i64 0, .int .i64 0, .agg #[.int .i64 0, .int .i64 0, .int .i64 0, .int .i64 0, .int .i64 0, .slice none 0 0, .int .i64 0], .agg #[.int .i64 0, .int .i64 0, .int .i64 0, .string ⟨#[]⟩, .string ⟨#[]⟩, .int .i64 0, .slice none 0 0, .slice none 0 0, .int .i64 0, .int .i64 0, .int .i64 0, .int .i64 0, .slice none 0 0]] 8 rfl (World.shaped_of_RefB (by kernel_rfl) (by kernel_rfl)) (by kernel_rfl) (by kernel_rfl) (by kernel_rfl) (door_met os _)) ?_
  intro W base args ds gs before hval0 hW hcnd hsz0 hlaid _
  have hsz : (DataW.weightsEach Tryd.prog (Tryd.f4.params.toList ++ Rows.sessionOpensSpec.plain.varTypes Tryd.prog) (ds ++ gs)).all (· ≤ reachBytes) = true := hsz0
  have hval : ∀ (j : Nat) t v, Tryd.f4.params[j]? = some t → args[j]? = some v → Value.okWide Tryd.prog W .any base t v := hval0
  have hW' := hW
  obtain ⟨p, q, hA0, hV, rfl, hfz, hnd⟩ := hW
  have hA : DataW.TrodAll enc Tryd.prog W 0 (fun _ => true) true Tryd.f4.params.toList args.toList ds p := hA0
  rw [Tryd.params4] at hA hval hsz
  obtain ⟨rfl, rfl⟩ := trodVars_none hV
  have hA' := hA
  have hlight : ∀ m ∈ DataW.weightsEach Tryd.prog [3, 3, 3, 31, 38] ds, m ≤ reachBytes := by
    intro m hm
    have e : Rows.sessionOpensSpec.plain.varTypes Tryd.prog = [] := by kernel_rfl
    rw [e] at hsz
    have := List.all_eq_true.1 hsz m (by simpa using hm)
    simpa using this
  obtain ⟨v0, vs0, d0, ds0, p0, q0, hargs0, rfl, rfl, k0, r0⟩ := trodAll_cons hA
  have lt0 : ∀ x ∈ p0, x.block < W.heap.size := by obtain ⟨m, hm⟩ := k0; exact DataW.trod_lt m _ _ _ hm
  obtain ⟨v1, vs1, d1, ds1, p1, q1, hargs1, rfl, rfl, k1, r1⟩ := trodAll_cons r0
  have lt1 : ∀ x ∈ p1, x.block < W.heap.size := by obtain ⟨m, hm⟩ := k1; exact DataW.trod_lt m _ _ _ hm
  obtain ⟨v2, vs2, d2, ds2, p2, q2, hargs2, rfl, rfl, k2, r2⟩ := trodAll_cons r1
  have lt2 : ∀ x ∈ p2, x.block < W.heap.size := by obtain ⟨m, hm⟩ := k2; exact DataW.trod_lt m _ _ _ hm
  obtain ⟨v3, vs3, d3, ds3, p3, q3, hargs3, rfl, rfl, k3, r3⟩ := trodAll_cons r2
  have lt3 : ∀ x ∈ p3, x.block < W.heap.size := by obtain ⟨m, hm⟩ := k3; exact DataW.trod_lt m _ _ _ hm
  obtain ⟨v4, vs4, d4, ds4, p4, q4, hargs4, rfl, rfl, k4, r4⟩ := trodAll_cons r3
  have lt4 : ∀ x ∈ p4, x.block < W.heap.size := by obtain ⟨m, hm⟩ := k4; exact DataW.trod_lt m _ _ _ hm
  obtain ⟨rfl, rfl, rfl⟩ := trodAll_nil r4
  refine (PE.law_calls PE.law29_SessionOpens_ok (qs := qs) (by kernel_rfl) (by kernel_rfl) law (by kernel_rfl) hA' (fun j t v ht hv => hval j t v (by simpa using ht) hv) hlight (PE.known_row hlaid)).mono fun e W' ⟨he, bel⟩ => ?_
  subst he
  have hback := (trodAll_cons_mk (Below.trod laidOut (by kernel_rfl) (of_decide_eq_true (by kernel_rfl)) k0 bel lt0) (trodAll_cons_mk (Below.trod laidOut (by kernel_rfl) (of_decide_eq_true (by kernel_rfl)) k1 bel lt1) (trodAll_cons_mk (Below.trod laidOut (by kernel_rfl) (of_decide_eq_true (by kernel_rfl)) k2 bel lt2) (trodAll_cons_mk (Below.trod laidOut (by kernel_rfl) (of_decide_eq_true (by kernel_rfl)) k3 bel lt3) (trodAll_cons_mk (Below.trod laidOut (by kernel_rfl) (of_decide_eq_true (by kernel_rfl)) k4 bel lt4) (trodAll_mk0))))) : DataW.TrodAll enc Tryd.prog W' 0 (fun b => decide (b < W.heap.size)) true [3, 3, 3, 31, 38] [v0, v1, v2, v3, v4] [d0, d1, d2, d3, d4] _)
  have hargs : args.toList = [v0, v1, v2, v3, v4] := by simp_all
  exact ⟨_, rfl, _, _, _, [], _, [], hW', trodAll_mk1 (shut_bool Tryd.underlying4 _), (by rw [Tryd.params4, hargs]; exact hback), rfl, bel.frame _, fun h => by cases h⟩
theorem over : Rows.sessionOpensRow.holds Tryd.pinned (OpenSpec.ofChange Rows.sessionOpensSpec) :=
  OpenClaim.holds_of_wide 4 Tryd.f4 rfl rfl rfl rfl rfl rfl rfl ⟨rfl, rfl, rfl, rfl, rfl⟩ rfl rfl rfl rfl rfl (by kernel_rfl) Tryd.func4 (by kernel_rfl)
    (of_decide_eq_true (by kernel_rfl)) (by unfold Func.isWrapper; first | (rw [if_pos (by decide +kernel)]; kernel_rfl) | (rw [if_neg (by decide +kernel)]; exact ⟨rfl, rfl⟩))
    (fun os started H enc _ => lifted os started H enc)
theorem proved : Rows.SessionOpensSaid := over
#print axioms proved
end Go.Proofs.YtdbenenonfldkaaDoor.sessionOpens
namespace Go.Proofs.YtdbenenonfldkaaDoor
open Go
/-- The card: the row, its listed variables tied to the program's text. -/
theorem sessionOpensCard_holds : Rows.SessionOpensCardSaid :=
  Claim7.holds_tied_plain_at .later [] [.data, .data, .data] true (true, "655802043e6848f00c4a31f278b0a459324e2274c12fcd7bda2207e4c85f0db5") false
    sessionOpens.proved (fun _ h => by cases h) (by kernel_rfl) (fun _ h => by cases h) sessionOpens_row_tie rfl ⟨rfl, rfl⟩ (by kernel_rfl) rfl
    (fun f fn hf hfn => by
      obtain rfl : f = 4 := Option.some.inj ((show Tryd.prog.funcNamed "funicular/funicularlaw29.SessionOpens" = some 4 by kernel_rfl).symm.trans hf) |>.symm
      obtain rfl : fn = Tryd.f4 := (Option.some.inj (Tryd.func4.symm.trans hfn)).symm
      exact ⟨by kernel_rfl, fun j t ht => by
        rw [Tryd.params4] at ht
        have hm : t ∈ [3, 3, 3, 31, 38] := by simpa using Array.mem_of_getElem? ht
        have hall : ([3, 3, 3, 31, 38].all fun u => !Tryd.prog.wantsStandIn u) = true := by kernel_rfl
        exact (show Tryd.prog.wantsStandIn t = false by simpa using List.all_eq_true.1 hall t hm)⟩)
    (by kernel_rfl)
#print axioms sessionOpensCard_holds
end Go.Proofs.YtdbenenonfldkaaDoor
