/- A function's contract, out of its run. -/
import Derived.Test.YtdbenenonfldkaaDoorERunS
namespace Go.Proofs.YtdbenenonfldkaaDoor.PE
set_option linter.unusedVariables false
open Go.RowKit
section
variable {α : Type} {r : α} {P : Program} {w0 w w' : World} {F0 F F' : Nat → Prop} {g0 g g' : Nat → Loc} {ob0 : Nat → Option Ob} {mine mine' : Nat → Prop} {n : Nat} {σ σ' : St} {a : Act}
theorem callable_spec {f : FuncId} {fn : Func} {c : Code} (h : callable P f = some (fn, c)) : P.funcs[f]? = some fn ∧ fn.body = some c ∧ (fn.name == "runtime.NumGoroutine") = false ∧ dstsBelow fn.ntmps c = true := by
  unfold callable at h
  split at h
  · rename_i fn' hf
    split at h
    · rename_i c' hc
      cases hb : (fn'.name == "runtime.NumGoroutine" || !dstsBelow fn'.ntmps c') with
      | true => rw [hb] at h; cases h
      | false =>
        rw [hb, cond_false] at h
        cases h
        simp only [Bool.or_eq_false_iff, Bool.not_eq_false'] at hb
        exact ⟨hf, hc, hb.1, hb.2⟩
    · cases h
  · cases h
theorem dsts_mono {n m : Nat} (hm : n ≤ m) : ∀ {c : Code}, dstsBelow n c = true → dstsBelow m c = true
  | .region _ ops _, h => by
    simp only [dstsBelow, List.all_eq_true] at h ⊢
    intro o ho
    have := h o ho
    cases hd : o.dst with
    | none => rfl
    | some d =>
      rw [hd] at this
      have h2 : Nat.ble (d + 1) n = true := this
      exact Nat.ble_eq_true_of_le (Nat.le_trans (Nat.le_of_ble_eq_true h2) hm)
  | .seq a b, h => by simp only [dstsBelow, Bool.and_eq_true] at h ⊢; exact ⟨dsts_mono hm h.1, dsts_mono hm h.2⟩
  | .cond _ a b, h => by simp only [dstsBelow, Bool.and_eq_true] at h ⊢; exact ⟨dsts_mono hm h.1, dsts_mono hm h.2⟩
  | .block _ c, h => by simp only [dstsBelow] at h ⊢; exact dsts_mono hm h
  | .loop c, h => by simp only [dstsBelow] at h ⊢; exact dsts_mono hm h
  | .scope c, h => by simp only [dstsBelow] at h ⊢; exact dsts_mono hm h
  | .skip, _ => rfl
  | .ret, _ => rfl
  | .exit _, _ => rfl
  | .label _, _ => rfl
  | .goto _, _ => rfl
  | .refuse _, _ => rfl
  | .rangeFunc _ _ _ _, _ => rfl
theorem argOf_rel {ob : Nat → Option Ob} : ∀ {args : List AV} {xs : List Value} {rest : List Value}, RAll w F g ob args xs → ∀ t, R w F g ob (argOf args t) ((xs ++ rest).getD t undef)
  | [], xs, rest, h, t => trivial
  | v :: r, xs, rest, h, t => by
    obtain ⟨x, s, rfl, h1, h2⟩ := h
    cases t with
    | zero => simpa [argOf] using h1
    | succ t =>
      have := argOf_rel (rest := rest) h2 t
      simpa [argOf] using this
theorem enter_inv {fn : Func} {args : List AV} {xs : Array Value} {ob : Nat → Option Ob} (hr : RAll w F g ob args xs.toList) (ho : ∀ id o, ob id = some o → ORel w F g ob mine id o)
    (hu : ∀ i j o p b, ob i = some o → ob j = some p → o.own → p.own → (g i).blk = some b → (g j).blk = some b → i = j) (hl : ∀ b, F b → b < w.heap.size) (hup : ∀ b, w.heap.size ≤ b → mine b) :
    Inv w F g ob mine (xs ++ Array.replicate (fn.ntmps - xs.size) undef).size w F g (enter args ob) { tmps := xs ++ Array.replicate (fn.ntmps - xs.size) undef, defers := [] } := by
  refine ⟨⟨fun t => ?_, ho, hu, hl, hup⟩, Step.refl _ _ _, Kept.refl _ _ _, rfl, rfl⟩
  have := argOf_rel (rest := List.replicate (fn.ntmps - xs.size) undef) hr t
  show R w F g ob (argOf args t) _
  have e : (xs ++ Array.replicate (fn.ntmps - xs.size) undef).getD t undef = (xs.toList ++ List.replicate (fn.ntmps - xs.size) undef).getD t undef := by
    rw [Array.getD_eq_getD_getElem?, ← Array.getElem?_toList]
    simp [List.getD]
  rw [e]
  exact this
def resOne (tm : Array Value) : ResultVar → Sem Value
  | .tmp t => pure (tm.getD t undef)
  | .cell p t => do loadVar t (← asAddr (tm.getD p undef))
theorem results_sound (h : Rel w F g mine σ a) : ∀ {rs : List ResultVar} {vs : List AV}, (resultsQ P σ rs).val σ.ob = some vs → ∃ xs, RAll w F g σ.ob vs xs ∧
    (rs.mapM (resOne a.tmps)).run P w = .ok xs w
  | [], vs, hq => by
    simp only [resultsQ, val_ret_some] at hq
    subst hq
    exact ⟨[], rfl, rfl⟩
  | .tmp t :: r, vs, hq => by
    simp only [resultsQ, val_bind_some, val_ret_some] at hq
    obtain ⟨us, h1, rfl⟩ := hq
    obtain ⟨xs, k1, k2⟩ := results_sound h h1
    refine ⟨a.tmps.getD t undef :: xs, ⟨_, _, rfl, h.tm t, k1⟩, ?_⟩
    simp only [List.mapM_cons, resOne, Sem.run_bind, Sem.run_pure, Result.andThen_ok, k2]
  | .cell p t :: r, vs, hq => by
    simp only [resultsQ, val_bind_some, val_ret_some] at hq
    obtain ⟨v, hv, us, h1, rfl⟩ := hq
    obtain ⟨xs, k1, k2⟩ := results_sound h h1
    have hv' : ((Q.cellsAt (σ.tm p)).bind fun y => part P t y.1 y.2).val σ.ob = some v := by rw [val_bind_some]; exact hv
    obtain ⟨y, l1, l2⟩ := load_sound (P := P) h (h.tm p) hv'
    refine ⟨y :: xs, ⟨_, _, rfl, l2, k1⟩, ?_⟩
    have hp : ∃ ad, a.tmps.getD p undef = .pointer (some ad) := by
      obtain ⟨⟨cs, off⟩, h2, _⟩ := hv
      obtain ⟨b, base, c, T, fr, e, _⟩ := cellsAt_sound h (h.tm p) h2
      exact ⟨_, e⟩
    obtain ⟨ad, hp⟩ := hp
    have l1' : (loadVar t ad).run P w = .ok y w := by
      rw [hp] at l1
      unfold Instr.loadAt at l1
      simpa [Instr.sureAddr] using l1
    have l2' : (resOne a.tmps (.cell p t)).run P w = .ok y w := by
      show (do loadVar t (← asAddr (a.tmps.getD p undef)) : Sem Value).run P w = _
      rw [hp]
      simp only [Sem.run_bind, asAddr, Sem.run_pure, Result.andThen_ok, l1']
    simp only [List.mapM_cons, Sem.run_bind, l2', Result.andThen_ok, Sem.run_pure, k2]
theorem results_run {fn : Func} (h : Rel w F g mine σ a) {vs : List AV} (hq : (resultsQ P σ fn.results.toList).val σ.ob = some vs) : ∃ xs, RAll w F g σ.ob vs xs ∧ (results fn a.tmps).run P w = .ok (packV xs) w := by
  obtain ⟨xs, k1, k2⟩ := results_sound (P := P) h hq
  refine ⟨xs, k1, ?_⟩
  have e : (fn.results.mapM (resOne a.tmps)).run P w = .ok xs.toArray w := by
    rw [Array.mapM_eq_mapM_toList]
    simp only [Sem.run_bind, Sem.run_map, k2]
    rfl
  have e2 : results fn a.tmps = (do
      let vs ← fn.results.mapM (resOne a.tmps)
      pure (if h : vs.size = 1 then vs[0] else .tuple vs)) := by
    unfold results
    have : (fun (x : ResultVar) => (match x with
      | .tmp t => pure (a.tmps.getD t undef)
      | .cell p t => do loadVar t (← asAddr (a.tmps.getD p undef)) : Sem Value)) = resOne a.tmps := by
      funext x
      cases x <;> rfl
    rw [← this]
    rfl
  rw [e2]
  simp only [Sem.run_bind, e, Result.andThen_ok, Sem.run_pure]
  congr 1
  match xs with
  | [] => rfl
  | [v] => rfl
  | v :: w :: r => simp [packV]
theorem Hand.mono {ms : List Mode} {dvs : List DV} {vals : List Value} (h : Hand w F g mine n ms dvs vals) (hm : ∀ b, mine b → mine' b) : Hand w F g mine' n ms dvs vals := by
  refine ⟨h.vals, fun id o ho => ?_, h.uniq⟩
  have hO := h.ob id o ho
  cases o with
  | cells cs =>
    obtain ⟨b, c, T, fr, k1, k2, k3⟩ := hO
    exact ⟨b, c, T, fr, k1, hm b k2, k3⟩
  | row e l cm frz =>
    obtain ⟨k1, k2, k3, k4, k5⟩ := hO
    refine ⟨k1, k2, k3, k4, fun b hb => ?_⟩
    obtain ⟨c, T, fr, q1, q2, q3, q4, q5, q6⟩ := k5 b hb
    exact ⟨c, T, fr, q1, q2, q3, q4, fun e => ⟨hm b (q5 e).1, (q5 e).2⟩, q6⟩
theorem cps_val {β γ : Type} {q : Q β} {H : Nat → Option Ob} {T : List Nat} {k : β → List Nat → Option γ} {r : γ} (h : q.cps H T k = some r) : ∃ x T', q.val H = some x ∧ k x T' = some r := by
  rw [Q.cps_eq] at h
  obtain ⟨p, hp, hk⟩ := Option.bind_eq_some_iff.1 h
  exact ⟨p.1, p.2, by rw [← Q.log_val q T, hp]; rfl, hk⟩
theorem given_nil {ob : Nat → Option Ob} {n : Nat} {s : List (Nat × Option Ob)} {x : List (Option Nat × Nat)} (h : SetsOk ob n s x) (hx : x.isEmpty = true) : s = [] := by
  have := h.length
  rw [List.isEmpty_iff.1 hx] at this
  exact List.length_eq_zero_iff.1 this
theorem noRefs_rel {ms : List Mode} {ds : List DV} {n : Nat} (hs : (avVals n ms ds).2 = []) {ob ob' : Nat → Option Ob} {vs : List Value} (h : RAll w F g ob (avVals n ms ds).1 vs) : RAll w F g' ob' (avVals n ms ds).1 vs :=
  RAll.step (fun _ _ => rfl) (fun _ h => h) h fun id hi => by
    have := avVals_refs id hi
    rw [hs] at this
    cases this
/-- What was lent is no one's from now on; a variable that was not lent stays what it is. -/
theorem lend (h : Rel w F g mine σ a) {lent : List Nat} (hlent : ∀ id ∈ lent, ∃ o, σ.ob id = some o) {id : Nat} {cs : List AV} (ho : σ.ob id = some (.cells cs)) {b : Nat} (hb : (g id).blk = some b) (hn : id ∉ lent) :
    Step mine w F w (Frz F g lent) ∧ (∀ b, Frz F g lent b → b < w.heap.size) ∧ ¬ Frz F g lent b := by
  have hfz : IsFrz σ.ob (lent.map fun i => (i, (match σ.ob i with | some (.row e l cm _) => some (.row e l cm true) | _ => none))) := by
    intro p hp
    obtain ⟨i, hi', rfl⟩ := List.mem_map.1 hp
    obtain ⟨o, ho⟩ := hlent i hi'
    cases o with
    | row e l cm frz => exact .inl ⟨e, l, cm, frz, ho, by simp only [ho]⟩
    | cells cs => exact .inr ⟨cs, ho, by simp only [ho]⟩
  obtain ⟨st1, hR1⟩ := h.freeze hfz
  have hmap : (lent.map fun i => (i, (match σ.ob i with | some (.row e l cm _) => some (Ob.row e l cm true) | _ => none))).map (·.1) = lent := List.map_map.trans (List.map_id _)
  rw [hmap] at st1 hR1
  refine ⟨st1, hR1.low, fun hF => ?_⟩
  have hown := own_not_F h ho trivial hb
  rcases hF with hF | ⟨id', hid', hb'⟩
  · exact hown.1 hF
  · obtain ⟨o', ho'⟩ := hlent id' hid'
    cases o' with
    | cells cs' => exact hn (by rw [h.uniq id id' _ _ b ho ho' trivial trivial hb hb']; exact hid')
    | row e' l' cm' frz' =>
      cases frz' with
      | false => exact hn (by rw [h.uniq id id' _ _ b ho ho' trivial rfl hb hb']; exact hid')
      | true => exact hown.1 (frz_in h ho' hb')
/-- A call of a method by its contract. -/
theorem psC_ok {f : FuncId} {s : Sig} (hs : PSigOk P f s) {args : List AV} {ob : Nat → Option Ob} {k : AV → (Nat → Option Ob) → List Nat → Option α} (hq : psC s args ob k = some r) :
    ∀ (w : World) (F : Nat → Prop) (g : Nat → Loc) (mine : Nat → Prop) (xs : Array Value), RAll w F g ob args xs.toList → (∀ id o, ob id = some o → ORel w F g ob mine id o) →
      (∀ i j o p b, ob i = some o → ob j = some p → o.own → p.own → (g i).blk = some b → (g j).blk = some b → i = j) → KnownC w F → (∀ b, F b → b < w.heap.size) → (∀ b, w.heap.size ≤ b → mine b) →
      Calls P f xs w fun e w' => ∃ x V ob' kl F' g', e = .returned x ∧ k V ob' kl = some r ∧ Step mine w F w' F' ∧ R w' F' g' ob' V x ∧ (∀ id o, ob' id = some o → ORel w' F' g' ob' mine id o) ∧
        (∀ i j o p b, ob' i = some o → ob' j = some p → o.own → p.own → (g' i).blk = some b → (g' j).blk = some b → i = j) ∧ (∀ b, F' b → b < w'.heap.size) ∧ Kept kl g g' ob ob' := by
  intro w F g mine xs hr ho hu hkn hl hup
  obtain ⟨⟨fn, _, _, _, _⟩, hs⟩ := hs
  have hrel := (enter_inv (fn := fn) hr ho hu hl hup).rel
  unfold psC at hq
  split at hq
  · rename_i id rest
    split at hq
    · rename_i cs hob
      obtain ⟨G, _, hG, hq⟩ := cps_val hq
      split at hq
      · cases hq
      · rename_i β o mk hf
        obtain ⟨x, hx, hq⟩ := Option.bind_eq_some_iff.1 hq
        split at hq
        · rename_i cs' vs hav
          cases hb : (G.given.isEmpty && !(G.lent.any (Nat.beq id))) with
          | false => rw [hb] at hq; cases hq
          | true =>
            rw [hb, cond_true] at hq
            simp only [Bool.and_eq_true, Bool.not_eq_true', any_beq_false] at hb
            obtain ⟨hgiv, hnl⟩ := hb
            obtain ⟨v, rv, hxs, ⟨b, hbl, hv⟩, hrest⟩ := hr
            obtain ⟨b', c, T, fr, c1, c2, c3, c4, c5, c6, c7, c8⟩ := ho id _ hob
            rw [hbl] at c1; cases c1
            have k1 : RAll w F g ob (.agg cs :: rest) (.agg c :: rv) := ⟨_, _, rfl, ⟨c, rfl, c6⟩, hrest⟩
            have hG' : (argsCells (.agg cs :: rest) s.pm).val (enter (.ptr id 0 :: rest) ob).ob = some G := hG
            have hgone : G.given.filterMap (·.1) = [] := by rw [List.isEmpty_iff.1 hgiv]; rfl
            obtain ⟨hlent, g1, hand⟩ := hand_of hrel k1 hG' (by rw [hgone]; rfl) (by rw [hgone]; intro i hi; cases hi) 0
            obtain ⟨sets0, c0, hs0, _, hav0, _⟩ := argsCells_sound hrel k1 hG' (fun id hi => hi) 0
            have hsets : (avVals 0 s.pm G.dvs).2 = [] := by rw [hav0]; exact given_nil hs0 hgiv
            obtain ⟨st1, hlow1, hnF⟩ := lend hrel hlent (id := id) hob hbl hnl
            have hvals := noRefs_rel (g' := lo0) (ob' := noOb) hsets hand.vals
            have hxs' : xs = (Value.pointer (some ⟨b, 0, none⟩) :: rv).toArray := by
              apply Array.ext'
              rw [hxs, hv]
            rw [hxs']
            refine (hs w _ mine G.dvs b c T fr rv β o mk x hf hx c4 c5 c2 hnF hvals hsets ⟨hkn.out.mono fun b hb => .inl hb⟩ hlow1 hup).mono fun e w' he => ?_
            obtain ⟨v', F', vs', c', T', fr', rfl, st, hlow', d1, d2, d3, d4, d5, rfl⟩ := he
            have hm : (avVals 0 s.rm (mk x)).2 = [] := by rw [hav]
            have hres := noRefs_rel (g' := g) (ob' := fun i => bif Nat.beq i id then some (.cells cs') else none) hm (d5 hm)
            rw [hav] at hres
            obtain ⟨y, ys, e1, ⟨c'', e2, hcs'⟩, hvs⟩ := hres
            cases e1
            cases e2
            have only : ∀ i o', (bif Nat.beq i id then some (Ob.cells cs') else none) = some o' → i = id ∧ o' = .cells cs' := by
              intro i o' hi
              cases e : Nat.beq i id with
              | false => rw [e] at hi; cases hi
              | true => rw [e] at hi; cases hi; exact ⟨Nat.eq_of_beq_eq_true e, rfl⟩
            refine ⟨_, resOf vs, _, [], F', g, rfl, hq, st1.trans st, resOf_rel hvs, ?_, ?_, hlow', ?_⟩
            · intro i o' hi
              obtain ⟨rfl, rfl⟩ := only i o' hi
              exact ⟨b, c', T', fr', hbl, c2, d4, d1, d2, hcs', by rw [d3]; exact c7, c8⟩
            · intro i j o' p b2 hi hj _ _ _ _
              rw [(only i o' hi).1, (only j p hj).1]
            · intro i _
              refine ⟨rfl, fun n hn => ?_⟩
              cases e : Nat.beq i id with
              | false => simp only [e, cond_false] at hn; cases hn
              | true => simp only [e, cond_true] at hn; cases hn
        · cases hq
    · cases hq
  · cases hq
/-- Calls that are run in place, so many deep. -/
theorem inl_ok {C : Cfg} (hsig : SigsOk C) : ∀ d, InlOk C.P (inlN C d : Inl α) r
  | 0 => fun f base args ob k h => by cases h
  | d + 1 => fun f base args ob k h => by
    unfold inlN at h
    split at h
    · rename_i s hs
      exact ⟨(hsig.2 f _ s hs).1, psC_ok (hsig.2 f _ s hs) h⟩
    split at h
    · rename_i fn c hc
      obtain ⟨h1, h2, h3, h4⟩ := callable_spec hc
      refine ⟨⟨fn, c, h1, h2, h3⟩, fun w F g mine xs hr ho hu hkn hl hup => ?_⟩
      refine calls_of_wp h1 h2 (run_sound hsig (inl_ok hsig d) (inlN_lin C d) c 0 (enter_inv (fn := fn) hr ho hu hl hup) (dsts_mono (by simp; omega) h4) h fun e σ' w' F' g' a' hk hi => ?_)
      have fin : (resultsQ C.P σ' fn.results.toList).cps σ'.ob [] (fun vs _ => k (resOf vs) σ'.ob σ'.kl) = some r → a'.defers = [] ∧ ∃ v, (results fn a'.tmps).run C.P w' = .ok v w' ∧ (∃ x V ob' kl F1 g1, Ending.returned v = .returned x ∧ k V ob' kl = some r ∧ Step mine w F w' F1 ∧ R w' F1 g1 ob' V x ∧ (∀ id o, ob' id = some o → ORel w' F1 g1 ob' mine id o) ∧
        (∀ i j o p b, ob' i = some o → ob' j = some p → o.own → p.own → (g1 i).blk = some b → (g1 j).blk = some b → i = j) ∧ (∀ b, F1 b → b < w'.heap.size) ∧ Kept kl g g1 ob ob') := by
        intro hk
        obtain ⟨vs, _, hv, hk⟩ := cps_val hk
        obtain ⟨ys, k1, k2⟩ := results_run (P := C.P) hi.rel hv
        exact ⟨hi.defers, _, k2, _, _, _, _, F', g', rfl, hk, hi.step, resOf_rel k1, hi.rel.ob, hi.rel.uniq, hi.rel.low, hi.kept⟩
      cases e with
      | normal => exact fin hk
      | ret => exact fin hk
      | exit id => cases hk
      | jump l => cases hk
    · cases h
/-- A function's run, from whatever it is given. -/
theorem calls_of_run [hkn : KnownC w F] {C : Cfg} (hsig : SigsOk C) {d : Nat} {f : FuncId} {rm : List Mode} {fn : Func} {c : Code} (hc : callable C.P f = some (fn, c)) {args : List AV} {ob : Nat → Option Ob} {vals : Array Value} {β : Type} {un : List DV → Option β} {mk : β → List DV} (hinv : ∀ ds x, un ds = some x → mk x = ds) {x : β}
    (ho : runC C (inlN C d) f 100 c 0 (enter args ob) (retD C.P fn rm un) = some x) (hr : RAll w F g ob args vals.toList) (hob : ∀ id o, ob id = some o → ORel w F g ob mine id o)
    (huq : ∀ i j o p b, ob i = some o → ob j = some p → o.own → p.own → (g i).blk = some b → (g j).blk = some b → i = j) (hl : ∀ b, F b → b < w.heap.size) (hup : ∀ b, w.heap.size ≤ b → mine b) (nid : Nat) :
    Calls C.P f vals w fun e w' => ∃ v F' g' vs, e = .returned v ∧ Step mine w F w' F' ∧ (∀ b, F' b → b < w'.heap.size) ∧ Hand w' F' g' mine nid rm (mk x) vs ∧ v = packV vs := by
  obtain ⟨h1, h2, h3, h4⟩ := callable_spec hc
  refine calls_of_wp h1 h2 (run_sound hsig (inl_ok hsig d) (inlN_lin C d) c 0 (enter_inv (fn := fn) hr hob huq hl hup) (dsts_mono (by simp; omega) h4) ho fun e σ' w' F' g' a' hk hi => ?_)
  have fin : ((resultsQ C.P σ' fn.results.toList).cps σ'.ob [] fun vs _ => (argsCells vs rm).cps σ'.ob [] fun G _ =>
      bif !((G.given.filterMap (·.1)).any fun i => G.lent.any (Nat.beq i)) && distinct (G.given.filterMap (·.1)) then un G.dvs else none) = some x →
      a'.defers = [] ∧ ∃ v, (results fn a'.tmps).run C.P w' = .ok v w' ∧ ∃ v' F1 g1 vs, Ending.returned v = .returned v' ∧ Step mine w F w' F1 ∧ (∀ b, F1 b → b < w'.heap.size) ∧ Hand w' F1 g1 mine nid rm (mk x) vs ∧ v' = packV vs := by
    intro hk
    obtain ⟨vs, _, hv, hk⟩ := cps_val hk
    obtain ⟨G, _, hG, hk⟩ := cps_val hk
    cases hb : (!((G.given.filterMap (·.1)).any fun i => G.lent.any (Nat.beq i)) && distinct (G.given.filterMap (·.1))) with
    | false => rw [hb] at hk; cases hk
    | true =>
      rw [hb, cond_true] at hk
      simp only [Bool.and_eq_true] at hb
      have hmk := hinv _ _ hk
      rw [hmk]
      obtain ⟨ys, k1, k2⟩ := results_run (P := C.P) hi.rel hv
      obtain ⟨hlent, g1, hand⟩ := hand_of hi.rel k1 hG hb.2 (distinct_mem hb.1) nid
      obtain ⟨sets0, c0, hs0, _⟩ := argsCells_sound hi.rel k1 hG (fun id hi => hi) 0
      have hgone := given_own hs0
      have hfz : IsFrz σ'.ob (G.lent.map fun i => (i, (match σ'.ob i with | some (.row e l cm _) => some (.row e l cm true) | _ => none))) := by
        intro p hp
        obtain ⟨i, hi', rfl⟩ := List.mem_map.1 hp
        obtain ⟨o, ho⟩ := hlent i hi'
        cases o with
        | row e l cm frz => exact .inl ⟨e, l, cm, frz, ho, by simp only [ho]⟩
        | cells cs => exact .inr ⟨cs, ho, by simp only [ho]⟩
      obtain ⟨st1, hR1⟩ := hi.rel.freeze hfz
      have hmap : (G.lent.map fun i => (i, (match σ'.ob i with | some (.row e l cm _) => some (Ob.row e l cm true) | _ => none))).map (·.1) = G.lent := List.map_map.trans (List.map_id _)
      rw [hmap] at st1 hR1
      refine ⟨hi.defers, _, k2, _, Frz F' g' G.lent, g1, ys, rfl, hi.step.trans st1, hR1.low, hand.mono fun b hb' => ?_, rfl⟩
      rcases hb' with ⟨id, hid, hb'⟩ | hb'
      · obtain ⟨o, ho', hown⟩ := hgone id hid
        exact (own_not_F hi.rel ho' hown hb').2.1
      · exact hi.rel.up b hb'
  cases e with
  | normal => exact fin hk
  | ret => exact fin hk
  | exit id => cases hk
  | jump l => cases hk
/-- A function's contract. -/
theorem contract_of {C : Cfg} (hsig : SigsOk C) {d : Nat} {f : FuncId} {s : Sig} (hc : ∃ fn c, callable C.P f = some (fn, c))
    (hs : ∀ dvs, s.f dvs = .no ∨ ∃ (β : Type) (un : List DV → Option β) (mk : β → List DV), s.f dvs = .yes β (funRun C d f s.pm s.rm un dvs) mk ∧ ∀ ds x, un ds = some x → mk x = ds) : SigOk C.P f s := by
  obtain ⟨fn, c, hc⟩ := hc
  obtain ⟨h1, h2, h3, h4⟩ := callable_spec hc
  refine ⟨⟨fn, c, h1, h2, h3⟩, fun w F g mine dvs vals β o mk x hf ho hh hkn hl hup nid => ?_⟩
  rcases hs dvs with hno | ⟨β', un, mk', hyes, hinv⟩
  · rw [hno] at hf; cases hf
  · rw [hyes] at hf
    cases hf
    unfold funRun at ho
    rw [hc] at ho
    exact calls_of_run hsig hc hinv ho hh.vals hh.ob hh.uniq hl hup nid
theorem contract_slice {C : Cfg} (hsig : SigsOk C) {d : Nat} {f : FuncId} {s : Sig} {e : Ty} (hpm : s.pm = [(false, [(false, .slice e)])]) (hc : ∃ fn c, callable C.P f = some (fn, c))
    (hs : ∀ dvs, s.f dvs = .no ∨ ∃ (β : Type) (un : List DV → Option β) (mk : β → List DV) (l : List e.den), dvs = [⟨.slice e, l⟩] ∧ s.f dvs = .yes β (avRun C d f s.rm un [.fz e l false true]) mk ∧ (∀ ds x, un ds = some x → mk x = ds) ∧ ∀ x, l = [] → avRun C d f s.rm un [.fz e l false true] = some x → avRun C d f s.rm un [.nils] = some x) : SigOk C.P f s := by
  obtain ⟨fn, c, hc⟩ := hc
  obtain ⟨h1, h2, h3, h4⟩ := callable_spec hc
  refine ⟨⟨fn, c, h1, h2, h3⟩, fun w F g mine dvs vals β o mk x hf ho hh hkn hl hup nid => ?_⟩
  rcases hs dvs with hno | ⟨β', un, mk', l, rfl, hyes, hinv, hnil⟩
  · rw [hno] at hf; cases hf
  · rw [hyes] at hf
    cases hf
    have hv := hh.vals
    rw [hpm] at hv
    obtain ⟨y, r, e1, hv, e2⟩ := hv
    cases (show r = [] from e2)
    obtain ⟨⟨A, n, cp, h5, h6, h7, h8, h9⟩, _⟩ := hv
    simp only [List.cons.injEq, and_true] at h5
    have key : ∀ args : List AV, RAll w F g noOb args [y] → avRun C d f s.rm un args = some x → Calls C.P f vals w fun e w' => ∃ v F' g' vs, e = .returned v ∧ Step mine w F w' F' ∧ (∀ b, F' b → b < w'.heap.size) ∧ Hand w' F' g' mine nid s.rm (mk x) vs ∧ v = packV vs := by
      intro args hr ha
      unfold avRun at ha
      rw [hc] at ha
      exact calls_of_run hsig hc hinv ha (by rw [e1]; exact hr) (fun id o h => by cases h) (fun i j o p b h => by cases h) hl hup nid
    cases A with
    | none =>
      have hc0 := h8 rfl
      have hn0 : n = 0 := by omega
      have hl0 : l = [] := List.length_eq_zero_iff.1 (by omega)
      refine key [.nils] ⟨y, [], rfl, ?_, rfl⟩ (hnil x hl0 ho)
      show y = .slice none 0 0
      rw [h5, hn0, hc0]
    | some A =>
      refine key [.fz e l false true] ⟨y, [], rfl, ⟨⟨some A, n, cp, by rw [h5], h6, h7, h8, h9⟩, fun A' n' c' h' => ⟨(fun h => nomatch h), fun _ => ?_⟩⟩, rfl⟩ ho
      rw [h5] at h'
      cases h'
      simp
/-- A method's contract. -/
theorem pcontract_of {C : Cfg} (hsig : SigsOk C) {d : Nat} {f : FuncId} {s : Sig} (hc : ∃ fn c, callable C.P f = some (fn, c))
    (hs : ∀ dvs, s.f dvs = .no ∨ ∃ (β : Type) (un : List DV → Option β) (mk : β → List DV), s.f dvs = .yes β (pRun C d f s.pm s.rm un dvs) mk ∧ ∀ ds x, un ds = some x → mk x = ds) : PSigOk C.P f s := by
  obtain ⟨fn, c, hc⟩ := hc
  obtain ⟨h1, h2, h3, h4⟩ := callable_spec hc
  refine ⟨⟨fn, c, h1, h2, h3⟩, fun w F mine dvs b cc T fr rv β o mk x hf ho hheap hfr hmine hnF hr hsets hkn hl hup => ?_⟩
  rcases hs dvs with hno | ⟨β', un, mk', hyes, hinv⟩
  · rw [hno] at hf; cases hf
  rw [hyes] at hf
  cases hf
  unfold pRun at ho
  rw [hc] at ho
  simp only at ho
  split at ho
  · rename_i cs vs hav
    have hr0 := noRefs_rel (g' := fun _ => ⟨some b, cc.size, 1⟩) (ob' := setOb noOb [(50, some (.cells cs))]) hsets hr
    rw [hav] at hr0
    obtain ⟨y, ys, e1, ⟨c'', e2, hcs⟩, hvs⟩ := hr0
    cases e1
    cases e2
    have only : ∀ i o', setOb noOb [(50, some (Ob.cells cs))] i = some o' → i = 50 ∧ o' = .cells cs := by
      intro i o' hi
      simp only [setOb] at hi
      cases e : Nat.beq i 50 with
      | false => rw [e] at hi; cases hi
      | true => rw [e] at hi; cases hi; exact ⟨Nat.eq_of_beq_eq_true e, rfl⟩
    have hr1 : RAll w F (fun _ => ⟨some b, cc.size, 1⟩) (setOb noOb [(50, some (.cells cs))]) (.ptr 50 0 :: vs) (Value.pointer (some ⟨b, 0, none⟩) :: rv).toArray.toList :=
      ⟨_, _, rfl, ⟨b, rfl, rfl⟩, hvs⟩
    refine calls_of_wp h1 h2 (run_sound hsig (inl_ok hsig d) (inlN_lin C d) c 0 (enter_inv (fn := fn) hr1 (fun i o' hi => ?_) (fun i j o' p b2 hi hj _ _ _ _ => ?_) hl hup) (dsts_mono (by simp; omega) h4) ho fun e σ' w' F' g' a' hk hi => ?_)
    · obtain ⟨rfl, rfl⟩ := only i o' hi
      exact ⟨b, cc, T, fr, rfl, hmine, hnF, hheap, hfr, hcs, rfl, rfl⟩
    · rw [(only i o' hi).1, (only j p hj).1]
    · have fin : ((resultsQ C.P σ' fn.results.toList).cps σ'.ob [] fun vs _ => match σ'.ob 50 with
        | some (.cells cs) => (argsCells (.agg cs :: vs) s.rm).cps σ'.ob [] fun G _ => bif G.given.isEmpty && !(G.lent.any (Nat.beq 50)) && !(σ'.kl.any (Nat.beq 50)) then un G.dvs else none
        | _ => none) = some x →
        a'.defers = [] ∧ ∃ v, (results fn a'.tmps).run C.P w' = .ok v w' ∧ ∃ v' F' vs c' T' fr', Ending.returned v = .returned v' ∧ Step mine w F w' F' ∧ (∀ b, F' b → b < w'.heap.size) ∧ w'.heap[b]? = some (.cells c' T' fr') ∧ NoFr fr' c'.size ∧ c'.size = cc.size ∧ ¬ F' b ∧
          ((avVals 0 s.rm (mk x)).2 = [] → RAll w' F' lo0 noOb (avVals 0 s.rm (mk x)).1 (.agg c' :: vs)) ∧ v' = packV vs := by
        intro hk
        obtain ⟨vs2, _, hv, hk⟩ := cps_val hk
        split at hk
        · rename_i cs2 ho2
          obtain ⟨G, _, hG, hk⟩ := cps_val hk
          cases hb : (G.given.isEmpty && !(G.lent.any (Nat.beq 50)) && !(σ'.kl.any (Nat.beq 50))) with
          | false => rw [hb] at hk; cases hk
          | true =>
            rw [hb, cond_true] at hk
            simp only [Bool.and_eq_true, Bool.not_eq_true', any_beq_false] at hb
            obtain ⟨⟨hgiv, hnl⟩, hnk⟩ := hb
            have hmk := hinv _ _ hk
            rw [hmk]
            obtain ⟨ys, q1, q2⟩ := results_run (P := C.P) hi.rel hv
            have hg50 := (hi.kept 50 hnk).1
            obtain ⟨b2, c2, T2, fr2, d1, d2, d3, d4, d5, d6, d7, d8⟩ := hi.rel.ob 50 _ ho2
            have hb2 : (g' 50).blk = some b := by rw [hg50]
            rw [hb2] at d1; cases d1
            have k1 : RAll w' F' g' σ'.ob (.agg cs2 :: vs2) (.agg c2 :: ys) := ⟨_, _, rfl, ⟨c2, rfl, d6⟩, q1⟩
            have hgone : G.given.filterMap (·.1) = [] := by rw [List.isEmpty_iff.1 hgiv]; rfl
            obtain ⟨hlent, g1, hand⟩ := hand_of hi.rel k1 hG (by rw [hgone]; rfl) (by rw [hgone]; intro i hi; cases hi) 0
            obtain ⟨st1, hlow1, hnF1⟩ := lend hi.rel hlent (id := 50) ho2 hb2 hnl
            refine ⟨hi.defers, _, q2, _, _, ys, c2, T2, fr2, rfl, hi.step.trans st1, hlow1, d4, d5, ?_, hnF1, fun hm => noRefs_rel hm hand.vals, rfl⟩
            rw [← d7, hg50]
        · cases hk
      cases e with
      | normal => exact fin hk
      | ret => exact fin hk
      | exit id => cases hk
      | jump l => cases hk
  · cases ho
def ListPOk (P : Program) (S : List (Nat × Sig)) : Prop := ∀ f a s, lookP S f a = some s → PSigOk P f s
theorem ListPOk.nil : ListPOk P [] := fun _ _ _ h => nomatch h
theorem ListPOk.cons {S : List (Nat × Sig)} {f : Nat} {s : Sig} (h : ListPOk P S) (hs : PSigOk P f s) : ListPOk P ((f, s) :: S) := by
  intro g a t hg
  unfold lookP at hg
  cases e : (Nat.beq f g && fits s.pm a) with
  | false => rw [e] at hg; exact h g a t hg
  | true =>
    rw [e] at hg
    rw [Bool.and_eq_true] at e
    cases hg
    rw [← Nat.eq_of_beq_eq_true e.1]
    exact hs
theorem noPs : ∀ (f : FuncId) (a : List AV) (s : Sig), (none : Option Sig) = some s → PSigOk P f s := fun _ _ _ h => nomatch h
theorem callable_ex {f : FuncId} (h : (callable P f).isSome = true) : ∃ fn c, callable P f = some (fn, c) := by
  obtain ⟨p, hp⟩ := Option.isSome_iff_exists.1 h
  exact ⟨p.1, p.2, hp⟩
def ListOk (P : Program) (S : List (Nat × Sig)) : Prop := ∀ f s, lookSig S f = some s → SigOk P f s
theorem ListOk.nil : ListOk P [] := fun _ _ h => nomatch h
theorem ListOk.cons {S : List (Nat × Sig)} {f : Nat} {s : Sig} (h : ListOk P S) (hs : SigOk P f s) : ListOk P ((f, s) :: S) := by
  intro g t hg
  unfold lookSig at hg
  cases e : Nat.beq f g with
  | true =>
    rw [e, cond_true] at hg
    cases hg
    rw [← Nat.eq_of_beq_eq_true e]
    exact hs
  | false =>
    rw [e, cond_false] at hg
    exact h g t hg
end
end Go.Proofs.YtdbenenonfldkaaDoor.PE
