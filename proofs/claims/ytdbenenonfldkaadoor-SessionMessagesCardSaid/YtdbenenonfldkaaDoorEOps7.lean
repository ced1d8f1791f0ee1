/- Stores into one's own memory, held against the model's. -/
import Derived.Test.YtdbenenonfldkaaDoorEOps6
namespace Go.Proofs.YtdbenenonfldkaaDoor.PE
set_option linter.unusedVariables false
open Go.RowKit
variable {P : Program} {w w' : World} {F F' : Nat → Prop} {g g' : Nat → Loc} {mine : Nat → Prop} {σ : St} {a : Act}
/-- An object that is one's own is written anew. -/
theorem Rel.write (h : Rel w F g mine σ a) {id b : Nat} {o o' : Ob} (ho : σ.ob id = some o) (hown : o.own) (hown' : o'.own) (hb : (g id).blk = some b) {c c' : Array Value} {T : TypeId} {fr : Nat × Nat} (hh : w.heap[b]? = some (.cells c T fr))
    (ks : List Nat) (hk : (ks = [] ∧ lenOf (some o') = lenOf (some o)) ∨ ks = [id]) (v : AV) (x : Value) (d : Option Nat) (hd : ∀ e, d = some e → e < a.tmps.size)
    (hn : ∀ ob' : Nat → Option Ob, (∀ i, i ≠ id → lenOf (ob' i) = lenOf (σ.ob i)) → ob' id = some o' → ORel (putBlk w b (.cells c' T fr)) F g ob' mine id o')
    (hv : ∀ ob' : Nat → Option Ob, (∀ i, i ≠ id → lenOf (ob' i) = lenOf (σ.ob i)) → ob' id = some o' → R (putBlk w b (.cells c' T fr)) F g ob' v x) :
    Step mine w F (putBlk w b (.cells c' T fr)) F ∧ Rel (putBlk w b (.cells c' T fr)) F g mine (({ v := v, sets := [(id, some o')], kills := ks } : Upd).app σ d) (a.put d x) ∧ Kept ks g g σ.ob (({ v := v, sets := [(id, some o')], kills := ks } : Upd).app σ d).ob := by
  obtain ⟨hF, hm, _⟩ := own_not_F h ho hown hb
  have st : Step mine w F (putBlk w b (.cells c' T fr)) F :=
    ⟨rfl, rfl, rfl, by rw [putBlk_size]; exact Nat.le_refl _, fun k _ hk => putBlk_other (fun e => hk (by rw [e]; exact hm)), fun k hk => putBlk_other (fun e => hF (by rw [← e]; exact hk)), fun _ hk => hk, fun _ hk => .inl hk⟩
  have hkept : Kept ks g g σ.ob (({ v := v, sets := [(id, some o')], kills := ks } : Upd).app σ d).ob := by
    intro i hi
    refine ⟨rfl, fun n hn => ?_⟩
    rw [app_ob] at hn
    have hn' : lenOf (setOb (σ.kill ks).ob [(id, some o')] i) = some n := hn
    rw [setOb_one] at hn'
    by_cases e : i = id
    · rw [if_pos e] at hn'
      rcases hk with ⟨_, e2⟩ | e2
      · rw [e, ho, ← e2]; exact hn'
      · exact absurd (show i ∈ ks by rw [e2, e]; simp) hi
    · rw [if_neg e, lenOf_killOb] at hn'; exact hn'
  refine ⟨st, ?_, hkept⟩
  have hob : setOb (σ.kill ks).ob [(id, some o')] id = some o' := by rw [setOb_one, if_pos rfl]
  have hoth : ∀ i, i ≠ id → lenOf (setOb (σ.kill ks).ob [(id, some o')] i) = lenOf (σ.ob i) := fun i hi => by rw [setOb_one, if_neg hi, lenOf_killOb]
  refine h.upd st _ d x hd (fun i hi => ?_) (fun _ _ => rfl) ?_ ?_ ?_ ?_ (fun k hk => by rw [putBlk_size]; exact h.low k hk) (hv _ hoth hob)
  · rcases hk with ⟨e, _⟩ | e
    · have hi' : i ∈ ks := hi
      rw [e] at hi'; cases hi'
    · have hi' : i ∈ ks := hi
      rw [e] at hi'; exact hi'
  · intro i hi n hn'
    by_cases e : i = id
    · rcases hk with ⟨_, e2⟩ | e2
      · rw [e] at hn' ⊢
        have hn'' : lenOf (setOb (σ.kill ks).ob [(id, some o')] id) = some n := hn'
        rw [hob, e2] at hn''
        rw [ho]; exact hn''
      · exact absurd (show i ∈ ks by rw [e2, e]; simp) hi
    · have hn'' : lenOf (setOb (σ.kill ks).ob [(id, some o')] i) = some n := hn'
      rw [hoth i e] at hn''; exact hn''
  · intro i o1 h1 h2
    simp only [List.map_cons, List.map_nil, List.mem_singleton] at h2
    subst h2
    have h1' : setOb (σ.kill ks).ob [(i, some o')] i = some o1 := h1
    rw [hob] at h1'; cases h1'
    exact hn _ hoth hob
  · intro i o1 b1 ho1 hs hb1
    simp only [List.map_cons, List.map_nil, List.mem_singleton] at hs
    refine ⟨?_, fun hown1 => (own_not_F h ho1 hown1 hb1).1⟩
    by_cases e : b1 = b
    · subst e
      by_cases hown1 : o1.own
      · exact absurd (h.uniq i id o1 o b1 ho1 ho hown1 hown hb1 hb) hs
      · cases o1 with
        | cells _ => exact absurd trivial hown1
        | row e l cm frz =>
          cases frz with
          | false => exact absurd rfl hown1
          | true =>
            obtain ⟨_, _, _, _, k5⟩ := h.ob i _ ho1
            obtain ⟨_, _, _, _, _, _, q4, _⟩ := k5 b1 hb1
            exact absurd (q4 rfl) hF
    · exact putBlk_other e
  · intro i j p q b1 hp hq hop hoq hi hj
    have src : ∀ k r, setOb (σ.kill ks).ob [(id, some o')] k = some r → r.own → ∃ r1, σ.ob k = some r1 ∧ r1.own := by
      intro k r hr hro
      by_cases e : k = id
      · exact ⟨o, by rw [e]; exact ho, hown⟩
      · rw [setOb_one, if_neg e] at hr
        obtain ⟨r1, h1, h2⟩ := own_of hr
        exact ⟨r1, h1, h2 hro⟩
    obtain ⟨p1, hp1, ho1⟩ := src i p hp hop
    obtain ⟨q1, hq1, ho2⟩ := src j q hq hoq
    exact h.uniq i j p1 q1 b1 hp1 hq1 ho1 ho2 hi hj
theorem RAll.splice {ob : Nat → Option Ob} {cs vs : List AV} {xs ys : List Value} (h : RAll w F g ob cs xs) (k : RAll w F g ob vs ys) {off : Nat} :
    RAll w F g ob (putCells cs off vs) (xs.take off ++ ys ++ xs.drop (off + ys.length)) := by
  unfold putCells
  rw [RAll.length k]
  exact RAll.append (RAll.append (RAll.take h off) k) (RAll.drop h _)
theorem putVals_toList {c : Array Value} {off : Nat} {vs : List Value} : (putVals c off vs).toList = c.toList.take off ++ vs ++ c.toList.drop (off + vs.length) := by simp [putVals]
theorem run_storeVar' {b off : Nat} {t : TypeId} {d : TypeDesc} (hu : P.underlying t = some d) {c : Array Value} {T : TypeId} {fr : Nat × Nat} {x : Value} (h : w.heap[b]? = some (.cells c T fr)) (hf : NoFr fr c.size) (hsz : x.cells.size = P.cellsOf t)
    (hn : off + x.cells.size ≤ c.size) (h1 : ∀ v ∈ x.cells.toList, v.oneCell' = true) :
    (Instr.storeAt t (.pointer (some ⟨b, off, none⟩)) x).run P w = .ok () (putBlk w b (.cells (putVals c off x.cells.toList) T fr)) := by
  have := run_storeCells' (P := P) (b := b) (off := off) x.cells.toList 0 c w h hf (by simpa using hn) h1
  unfold Instr.storeAt storeVar
  simp only [Sem.run_bind, sureAddr_run, Result.andThen_ok, run_sizeOf' hu, hsz, ne_eq, not_true, if_false]
  simpa using this
theorem ones_rel {ob : Nat → Option Ob} : ∀ {cs : List AV} {vs : List Value}, RAll w F g ob cs vs → cs.all AV.one = true → ∀ v ∈ vs, v.oneCell' = true
  | [], _, h, _, v, hv => by rw [show _ = [] from h] at hv; cases hv
  | _ :: r, _, h, ha, v, hv => by
    obtain ⟨y, s, rfl, h1, h2⟩ := h
    simp only [List.all_cons, Bool.and_eq_true] at ha
    rcases List.mem_cons.1 hv with rfl | hv
    · exact one_rel ha.1 h1
    · exact ones_rel h2 ha.2 v hv
theorem solid_of_one {v : AV} (h : v.cells.all AV.one = true) : v.solid = true := by
  cases v with
  | top => simp [AV.cells, AV.one] at h
  | tup _ => simp [AV.cells, AV.one] at h
  | _ => rfl
end Go.Proofs.YtdbenenonfldkaaDoor.PE
