/- A run on the abstract state, held against the model's code. -/
import Derived.Test.YtdbenenonfldkaaDoorECall4
import Derived.Test.YtdbenenonfldkaaDoorEInl
import Derived.Scope
import Derived.Deep.LoopGhost
import Derived.Orders
namespace Go.Proofs.YtdbenenonfldkaaDoor.PE
set_option linter.unusedVariables false
open Go.RowKit
/-- What holds all along an activation. -/
structure Inv (w0 : World) (F0 : Nat → Prop) (g0 : Nat → Loc) (ob0 : Nat → Option Ob) (mine : Nat → Prop) (n : Nat) (w : World) (F : Nat → Prop) (g : Nat → Loc) (σ : St) (a : Act) : Prop where
  rel : Rel w F g mine σ a
  step : Step mine w0 F0 w F
  kept : Kept σ.kl g0 g ob0 σ.ob
  size : a.tmps.size = n
  defers : a.defers = []
section
variable {α : Type} {r : α} {P : Program} {w0 w w' : World} {F0 F F' : Nat → Prop} {g0 g g' : Nat → Loc} {ob0 : Nat → Option Ob} {mine : Nat → Prop} {n : Nat} {σ σ' : St} {a : Act}
theorem app_kl (u : Upd) (σ : St) (d : Option Nat) : (u.app σ d).kl = u.kills ++ σ.kl := by cases d <;> rfl
theorem Inv.upd (h : Inv w0 F0 g0 ob0 mine n w F g σ a) {u : Upd} {d : Option Nat} {x : Value} (st : Step mine w F w' F') (hr : Rel w' F' g' mine (u.app σ d) (a.put d x)) (hk : Kept u.kills g g' σ.ob (u.app σ d).ob) :
    Inv w0 F0 g0 ob0 mine n w' F' g' (u.app σ d) (a.put d x) where
  rel := hr
  step := h.step.trans st
  kept := by
    intro id hid
    rw [app_kl] at hid
    simp only [List.mem_append, not_or] at hid
    exact ⟨(hk id hid.1).1.trans (h.kept id hid.2).1, fun m hm => (h.kept id hid.2).2 m ((hk id hid.1).2 m hm)⟩
  size := by rw [put_size]; exact h.size
  defers := by rw [put_defers]; exact h.defers
def Ex.to : Ex → Exit
  | .normal => .normal
  | .exit id => .exit id
  | .ret => .ret
  | .jump l => .goto l
/-- A call that is run in place does what it says. -/
def InlOk (P : Program) (inl : Inl α) (r : α) : Prop :=
  ∀ (f : FuncId) (base : Nat) (args : List AV) (ob : Nat → Option Ob) (k : AV → (Nat → Option Ob) → List Nat → Option α), inl f base args ob k = some r →
    (∃ fn c, P.funcs[f]? = some fn ∧ fn.body = some c ∧ (fn.name == "runtime.NumGoroutine") = false) ∧
    ∀ (w : World) (F : Nat → Prop) (g : Nat → Loc) (mine : Nat → Prop) (xs : Array Value), RAll w F g ob args xs.toList → (∀ id o, ob id = some o → ORel w F g ob mine id o) →
      (∀ i j o p b, ob i = some o → ob j = some p → o.own → p.own → (g i).blk = some b → (g j).blk = some b → i = j) → KnownC w F → (∀ b, F b → b < w.heap.size) → (∀ b, w.heap.size ≤ b → mine b) →
      Calls P f xs w fun e w' => ∃ x V ob' kl F' g', e = .returned x ∧ k V ob' kl = some r ∧ Step mine w F w' F' ∧ R w' F' g' ob' V x ∧ (∀ id o, ob' id = some o → ORel w' F' g' ob' mine id o) ∧
        (∀ i j o p b, ob' i = some o → ob' j = some p → o.own → p.own → (g' i).blk = some b → (g' j).blk = some b → i = j) ∧ (∀ b, F' b → b < w'.heap.size) ∧ Kept kl g g' ob ob'
def SigsOk (C : Cfg) : Prop := (∀ f s, C.sig f = some s → SigOk C.P f s) ∧ ∀ f a s, C.ps f a = some s → PSigOk C.P f s
theorem run_enter {f : FuncId} {fn : Func} {c : Code} (hf : P.funcs[f]? = some fn) (hb : fn.body = some c) (hn : (fn.name == "runtime.NumGoroutine") = false) (args : Array Value) : (callFunc f args).run P w = .ok (.enter f args) w := by
  unfold callFunc
  simp only [Sem.run_bind, run_program, Result.andThen_ok, hf, hn, hb]
  rfl
theorem calleeOf_rel {g : Nat → Loc} {F : Nat → Prop} {ob : Nat → Option Ob} {v : AV} {x : Value} (h : R w F g ob v x) {f : FuncId} {fs cs : List AV} (hc : calleeOf v = some (f, fs, cs)) :
    ∃ us vs : Array Value, x = .func (.func f) us vs ∧ RAll w F g ob fs us.toList ∧ RAll w F g ob cs vs.toList := by
  cases v <;> simp only [calleeOf, Option.some.injEq, Prod.mk.injEq] at hc <;> first | (cases hc; done) | skip
  · obtain ⟨rfl, rfl, rfl⟩ := hc
    obtain ⟨vs, rfl, h⟩ := h
    exact ⟨#[], vs, rfl, rfl, h⟩
  · obtain ⟨rfl, rfl, rfl⟩ := hc
    obtain ⟨vs, rfl, h⟩ := h
    exact ⟨vs, #[], rfl, h, rfl⟩
/-- One operation. -/
theorem oper_sound [KnownC w0 F0] {C : Cfg} {inl : Inl α} (hsig : SigsOk C) (hinl : InlOk C.P inl r) (h : Inv w0 F0 g0 ob0 mine n w F g σ a) {base : Nat} {o : Oper} (hd : ∀ e, o.dst = some e → e < n) {k : St → Fp → Option α}
    (hq : operC C inl base o σ k = some r) {K : Act → World → Prop} {Qp : Exit → Act → World → Prop}
    (hK : ∀ σ' fp w' F' g' a', k σ' fp = some r → Inv w0 F0 g0 ob0 mine n w' F' g' σ' a' → K a' w') : o.wp C.P a w K Qp := by
  have hd' : ∀ e, o.dst = some e → e < a.tmps.size := fun e he => by rw [h.size]; exact hd e he
  have good : ∀ (u : Upd) (run : Result Next), Good w F g mine σ a run u o.dst → (∃ fp, k (u.app σ o.dst) fp = some r) → o.upon C.P a K Qp run := by
    rintro u run ⟨x, nx, w', F', g', rfl, hx, st, hr, hk⟩ ⟨fp, hfp⟩
    have := hK _ fp w' F' g' _ hfp (h.upd st hr hk)
    rcases hx with rfl | ⟨rfl, rfl⟩ <;> exact this
  have quiet : ∀ (q : Q Upd) (refs : List Nat), quietC q refs o σ k = some r → ∃ u, q.val σ.ob = some u ∧ ∃ fp, k (u.app σ o.dst) fp = some r := by
    intro q refs hq
    unfold quietC at hq
    rw [Q.cps_eq] at hq
    obtain ⟨p, hp, hq⟩ := Option.bind_eq_some_iff.1 hq
    refine ⟨p.1, ?_, _, hq⟩
    rw [← Q.log_val q [], hp]; rfl
  unfold operC at hq
  unfold Oper.wp
  split at hq
  · rename_i c hop
    have hexec : execOp a.eval o = (do let d ← resolve a.eval c o.type; invoke d.target d.args) := by unfold execOp; rw [hop]
    split at hq
    · rename_i fo hcal
      split at hq
      · rename_i f first caps hfo
        obtain ⟨us, vs, hev, hfirst, hcaps⟩ := calleeOf_rel (opnd_rel h.rel fo) hfo
        have hargs : RAll w F g σ.ob (first ++ c.args.toList.map (opnd σ) ++ caps) (us ++ c.args.map a.eval ++ vs).toList := by
          rw [Array.toList_append, Array.toList_append, Array.toList_map]
          exact RAll.append (RAll.append hfirst (opnds_rel h.rel c.args.toList)) hcaps
        have hrun : ∀ fn cd, C.P.funcs[f]? = some fn → fn.body = some cd → (fn.name == "runtime.NumGoroutine") = false → (execOp a.eval o).run C.P w = .ok (.enter f (us ++ c.args.map a.eval ++ vs)) w := by
          intro fn cd h1 h2 h3
          rw [hexec]
          simp only [resolve, hcal, hev, Deferred.ofValue, Sem.run_bind, Sem.run_pure, Result.andThen_ok, invoke]
          exact run_enter h1 h2 h3 _
        simp only at hq
        split at hq
        · -- by contract
          rename_i s hs
          obtain ⟨u, hu, fp, hfp⟩ := quiet _ _ hq
          have hso := hsig.1 f s hs
          obtain ⟨fn, cd, h1, h2, h3⟩ := hso.1
          rw [hrun fn cd h1 h2 h3, Oper.upon_enter]
          refine (call_sound ((KnownC.out (w := w0) (F := F0)).step h.step) h.rel hso hargs hu hd').mono fun e w' he => ?_
          cases e with
          | returned v =>
            obtain ⟨F', g', st, hr, hk⟩ := he
            exact hK _ fp w' F' g' _ hfp (h.upd st hr hk)
          | panicked _ => exact he.elim
          | outgrown => exact he.elim
        · -- in place
          rw [Q.cps_eq] at hq
          obtain ⟨⟨ids, T⟩, hl, hq⟩ := Option.bind_eq_some_iff.1 hq
          obtain ⟨⟨fn, cd, h1, h2, h3⟩, hcall⟩ := hinl f base _ _ _ hq
          rw [hrun fn cd h1 h2 h3, Oper.upon_enter]
          have hre : ∀ i o, (bif ids.any (Nat.beq i) then σ.ob i else none) = some o → i ∈ ids ∧ σ.ob i = some o := by
            intro i o ho
            cases hm : ids.any (Nat.beq i) with
            | false => rw [hm] at ho; cases ho
            | true => rw [hm] at ho; exact ⟨any_beq.1 hm, ho⟩
          have hlen : ∀ i n, lenOf (bif ids.any (Nat.beq i) then σ.ob i else none) = some n → lenOf (σ.ob i) = some n := by
            intro i n hn
            cases hm : ids.any (Nat.beq i) with
            | false => rw [hm] at hn; cases hn
            | true => rw [hm] at hn; exact hn
          refine (hcall w F g (mineIn w g σ.ob ids) _ (RAll.step (fun _ _ => rfl) (fun _ h => h) hargs fun i _ => ⟨rfl, hlen i⟩) (fun i o ho => ?_) (fun i j o p b hi hj => ?_) ⟨(KnownC.out (w := w0) (F := F0)).step h.step⟩ h.rel.low (fun b hb => .inr hb)).mono fun e w' he => ?_
          · obtain ⟨k1, k2⟩ := hre i o ho
            exact (h.rel.ob i o k2).restrict hlen fun hown b hb => .inl ⟨i, k1, o, k2, hown, hb⟩
          · exact h.rel.uniq i j o p b (hre i o hi).2 (hre j p hj).2
          · obtain ⟨x, V, ob1, kl, F', g', rfl, hk, st, hV, hO, hU, hlow, hK'⟩ := he
            cases hb : (inlUpd (idOf base o) ids V ob1 kl).1.all (fun p => isRow (ob1 p.1) && !(ids.any (Nat.beq p.2))) with
            | false => simp only [hb] at hk; cases hk
            | true =>
              simp only [hb, cond_true] at hk
              obtain ⟨hst, g2, hr, hkk⟩ := inl_back h.rel hd' hb st hV hO hU hlow hK'
              exact hK _ _ w' F' g2 _ hk (h.upd hst hr hkk)
      · cases hq
    · rename_i b hcal
      obtain ⟨u, hu, hfp⟩ := quiet _ _ hq
      refine good u _ ?_ hfp
      rw [hexec]
      simp only [resolve, hcal, Sem.run_bind, Sem.run_pure, Result.andThen_ok, invoke]
      exact bltin_sound (P := C.P) h.rel hu hd'
    · cases hq
  · obtain ⟨u, hu, hfp⟩ := quiet _ _ hq
    exact good u _ (opQ_sound h.rel o hu hd') hfp
theorem yielded_eq {ops : List Oper} {all : Array Oper} (hall : all.toList = ops) {j d : Nat} {b : Bool} (hd : dstOf ops j = some d) (hb : a.tmps.getD d undef = .bool b) : yielded all a.tmps j = some b := by
  unfold dstOf at hd
  split at hd
  · rename_i o ho
    have ho' : all[j]? = some o := by rw [← Array.getElem?_toList, hall]; exact ho
    have hlt : a.tmps[d]? = some (.bool b) := by
      rw [Array.getD_eq_getD_getElem?] at hb
      cases ht : a.tmps[d]? with
      | none => rw [ht] at hb; cases hb
      | some v => rw [ht] at hb; rw [show v = _ from hb]
    simp [yielded, ho', hd, hlt]
  · cases hd
theorem Inv.setBool (h : Inv w0 F0 g0 ob0 mine n w F g σ a) {d : Nat} {b : Bool} (hb : σ.tm d = .bool b) : Inv w0 F0 g0 ob0 mine n w F g (σ.set d (.bool b)) a := by
  refine ⟨⟨fun t => ?_, h.rel.ob, h.rel.uniq, h.rel.low, h.rel.up⟩, h.step, h.kept, h.size, h.defers⟩
  show R w F g σ.ob (bif Nat.beq t d then .bool b else σ.tm t) _
  cases e : Nat.beq t d
  · exact h.rel.tm t
  · have := Nat.eq_of_beq_eq_true e
    subst this
    have h1 := h.rel.tm t
    rw [hb] at h1
    exact h1
theorem yielded_none {ops : List Oper} {all : Array Oper} (hall : all.toList = ops) {j d : Nat} (hd : dstOf ops j = some d) (hb : R w F g ob0 (.tup []) (a.tmps.getD d undef)) : yielded all a.tmps j = none := by
  obtain ⟨vs, hv, _⟩ := hb
  unfold dstOf at hd
  split at hd
  · rename_i o ho
    have ho' : all[j]? = some o := by rw [← Array.getElem?_toList, hall]; exact ho
    rw [Array.getD_eq_getD_getElem?] at hv
    cases ht : a.tmps[d]? with
    | none => simp [yielded, ho', hd, ht]
    | some v =>
      rw [ht] at hv
      have hv : v = .tuple vs := hv
      simp [yielded, ho', hd, ht, hv]
  · cases hd
theorem Inv.setSame (h : Inv w0 F0 g0 ob0 mine n w F g σ a) {d : Nat} {v : AV} (hb : σ.tm d = v) : Inv w0 F0 g0 ob0 mine n w F g (σ.set d v) a := by
  have : σ.set d v = σ := by
    have : (fun t => bif Nat.beq t d then v else σ.tm t) = σ.tm := by
      funext t
      cases e : Nat.beq t d
      · rfl
      · rw [Nat.eq_of_beq_eq_true e, hb]; rfl
    unfold St.set
    rw [this]
  rw [this]
  exact h
theorem Inv.skip (h : Inv w0 F0 g0 ob0 mine n w F g σ a) {d : Option Nat} (hd : ∀ e, d = some e → e < n) : Inv w0 F0 g0 ob0 mine n w F g (σ.put d (.tup [])) (a.put d undef) := by
  have hu : ∀ {w : World} {F : Nat → Prop} {g : Nat → Loc} {ob : Nat → Option Ob}, R w F g ob (.tup []) undef := ⟨#[], rfl, rfl⟩
  have hr := h.rel.val (v := .tup []) (x := undef) hu d (fun e he => by rw [h.size]; exact hd e he)
  refine ⟨⟨fun t => ?_, ?_, ?_, h.rel.low, h.rel.up⟩, h.step, ?_, by rw [put_size]; exact h.size, by rw [put_defers]; exact h.defers⟩
  · rw [put_ob]; exact Rel.dst h.rel.tm (v := .tup []) (x := undef) hu d (fun e he => by rw [h.size]; exact hd e he) t
  · rw [put_ob]; exact h.rel.ob
  · rw [put_ob]; exact h.rel.uniq
  · rw [put_ob]
    cases d <;> exact h.kept
/-- One operation, with its guard. -/
theorem step_sound [KnownC w0 F0] {C : Cfg} {inl : Inl α} (hsig : SigsOk C) (hinl : InlOk C.P inl r) {base : Nat} {all : List Oper} {ops : Array Oper} (hops : ops.toList = all) {Qp : Exit → Act → World → Prop} {o : Oper} {K : Act → World → Prop}
    (h : Inv w0 F0 g0 ob0 mine n w F g σ a) (hdo : ∀ e, o.dst = some e → e < n) {k : St → Fp → Option α} (hq : stepC C inl base all o σ k = some r)
    (hK : ∀ σ' fp w' F' g' a', k σ' fp = some r → Inv w0 F0 g0 ob0 mine n w' F' g' σ' a' → K a' w') : if Region.wanted o (yielded ops a.tmps) then o.wp C.P a w K Qp else K (a.put o.dst undef) w := by
  unfold stepC at hq
  split at hq
  · rename_i hg
    rw [if_pos (by simp [Region.wanted, hg])]
    exact oper_sound hsig hinl h hdo hq hK
  · rename_i j want hg
    split at hq
    · cases hq
    · rename_i d hdj
      split at hq
      · rename_i b hb
        have hv := h.rel.tm d
        rw [hb] at hv
        have hy := yielded_eq (a := a) hops hdj hv
        have run : ∀ (hw : b = want), operC C inl base o (σ.set d (.bool b)) k = some r → o.wp C.P a w K Qp := fun _ hq' => oper_sound hsig hinl (h.setBool hb) hdo hq' hK
        have skp : ∀ f, k ((σ.set d (.bool b)).put o.dst (.tup [])) f = some r → K (a.put o.dst undef) w := fun f hq' => hK _ _ _ _ _ _ hq' ((h.setBool hb).skip hdo)
        cases b <;> cases want <;> simp only [cond_true, cond_false] at hq
        · rw [if_pos (by simp [Region.wanted, hg, hy])]; exact run rfl hq
        · rw [if_neg (by simp [Region.wanted, hg, hy])]; exact skp _ hq
        · rw [if_neg (by simp [Region.wanted, hg, hy])]; exact skp _ hq
        · rw [if_pos (by simp [Region.wanted, hg, hy])]; exact run rfl hq
      · rename_i hb
        have hv := h.rel.tm d
        rw [hb] at hv
        have hy := yielded_none (a := a) hops hdj hv
        rw [if_neg (by simp [Region.wanted, hg, hy])]
        exact hK _ _ _ _ _ _ hq ((h.setSame hb).skip hdo)
      · cases hq
/-- A region's operations, in their order. -/
theorem ops_sound [KnownC w0 F0] {C : Cfg} {inl : Inl α} (hsig : SigsOk C) (hinl : InlOk C.P inl r) {base : Nat} {all : List Oper} {ops : Array Oper} (hops : ops.toList = all) {Qp : Exit → Act → World → Prop} :
    ∀ (rest : List Oper) (i : Nat) {w : World} {F : Nat → Prop} {g : Nat → Loc} {σ : St} {a : Act} (fs : List (Nat × Fp)) (k : St → List (Nat × Fp) → Option α), Inv w0 F0 g0 ob0 mine n w F g σ a → (∀ o ∈ rest, ∀ e, o.dst = some e → e < n) →
      opsC C inl base all i rest σ fs k = some r →
      (∀ σ' fs' w' F' g' a', k σ' fs' = some r → Inv w0 F0 g0 ob0 mine n w' F' g' σ' a' → Qp .normal a' w') → wpList C.P ops Qp rest a w
  | [], i, w, F, g, σ, a, fs, k, h, hd, hq, hQ => by
    simp only [opsC] at hq
    exact wpList_nil (hQ _ _ _ _ _ _ hq h)
  | o :: rest, i, w, F, g, σ, a, fs, k, h, hd, hq, hQ => by
    have hdo := hd o (by simp)
    have hdr : ∀ o ∈ rest, ∀ e, o.dst = some e → e < n := fun o ho => hd o (by simp [ho])
    refine wpList_step fun K hK => ?_
    unfold opsC at hq
    exact step_sound hsig hinl hops h hdo hq fun σ' fp w' F' g' a' hk hi => hK _ _ (ops_sound hsig hinl hops rest (i + 1) _ k hi hdr hk hQ)
end
end Go.Proofs.YtdbenenonfldkaaDoor.PE
