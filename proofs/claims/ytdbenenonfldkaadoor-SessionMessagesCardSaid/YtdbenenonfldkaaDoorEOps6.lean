/- New memory: variables, rows; stores; held against the model's. -/
import Derived.Test.YtdbenenonfldkaaDoorEOps5
namespace Go.Proofs.YtdbenenonfldkaaDoor.PE
set_option linter.unusedVariables false
open Go.RowKit
variable {P : Program} {w w' : World} {F F' : Nat → Prop} {g g' : Nat → Loc} {mine : Nat → Prop} {σ : St} {a : Act}
theorem heap_some_lt {b : Nat} {o : Obj} (h : w.heap[b]? = some o) : b < w.heap.size := by
  rcases Nat.lt_or_ge b w.heap.size with h' | h'
  · exact h'
  · rw [Array.getElem?_eq_none h'] at h; cases h
theorem own_not_F (h : Rel w F g mine σ a) {id : Nat} {o : Ob} (ho : σ.ob id = some o) (hown : o.own) {b : Nat} (hb : (g id).blk = some b) : ¬ F b ∧ mine b ∧ ∃ c T fr, w.heap[b]? = some (.cells c T fr) ∧ NoFr fr c.size := by
  have hO := h.ob id o ho
  cases o with
  | cells cs =>
    obtain ⟨b', c, T, fr, k1, k2, k3, k4, k5, _⟩ := hO
    rw [hb] at k1; cases k1
    exact ⟨k3, k2, c, T, fr, k4, k5⟩
  | row e l cm frz =>
    obtain ⟨_, _, _, _, k5⟩ := hO
    obtain ⟨c, T, fr, q1, _, q3, _, q5, _⟩ := k5 b hb
    exact ⟨(q5 hown).2, (q5 hown).1, c, T, fr, q1, q3.of⟩
/-- A block of an object, frozen or not, is there. -/
theorem ob_blk (h : Rel w F g mine σ a) {id : Nat} {o : Ob} (ho : σ.ob id = some o) {b : Nat} (hb : (g id).blk = some b) : b < w.heap.size := by
  have hO := h.ob id o ho
  cases o with
  | cells cs =>
    obtain ⟨b', c, T, fr, k1, k2, k3, k4, k5, _⟩ := hO
    rw [hb] at k1; cases k1
    exact heap_some_lt k4
  | row e l cm frz =>
    obtain ⟨_, _, _, _, k5⟩ := hO
    obtain ⟨c, T, fr, q1, _⟩ := k5 b hb
    exact heap_some_lt q1
theorem setOb_one {ob : Nat → Option Ob} {id i : Nat} {o : Option Ob} : setOb ob [(id, o)] i = if i = id then o else ob i := by
  show (bif Nat.beq i id then o else ob i) = _
  cases e : Nat.beq i id
  · rw [if_neg (fun e' => by rw [e'] at e; simp [Nat.beq_refl] at e)]; rfl
  · rw [if_pos (Nat.eq_of_beq_eq_true e)]; rfl
/-- A world with one block more. -/
structure OneMore (w w1 : World) (o : Obj) : Prop where
  os : w1.os = w.os
  tape : w1.tape = w.tape
  output : w1.output = w.output
  size : w1.heap.size = w.heap.size + 1
  old : ∀ b, b < w.heap.size → w1.heap[b]? = w.heap[b]?
  new : w1.heap[w.heap.size]? = some o
theorem OneMore.alloc (w : World) (o : Obj) : OneMore w (w.alloc o) o :=
  ⟨rfl, rfl, rfl, by simp, fun b hb => by show (w.heap.push o)[b]? = _; rw [Array.getElem?_push, if_neg (by omega)], Array.getElem?_push_size⟩
theorem OneMore.step (h : Rel w F g mine σ a) {w1 : World} {o : Obj} (m : OneMore w w1 o) : Step mine w F w1 F :=
  ⟨m.os, m.tape, m.output, by have := m.size; omega, fun b hb _ => m.old b hb, fun b hb => m.old b (h.low b hb), fun _ hb => hb, fun _ hb => .inl hb⟩
theorem own_of {ks : List Nat} {k : Nat} {r : Ob} (hr : (σ.kill ks).ob k = some r) : ∃ r1, σ.ob k = some r1 ∧ (r.own → r1.own) := by
  rcases kill_ob σ ks k with ⟨_, e⟩ | e
  · exact ⟨r, by rw [← e]; exact hr, fun h => h⟩
  · rw [e] at hr
    cases hc : σ.ob k with
    | none => rw [hc] at hr; cases hr
    | some r1 =>
      rw [hc] at hr
      refine ⟨r1, rfl, fun ho => ?_⟩
      cases r1 with
      | cells _ => trivial
      | row _ _ _ _ => cases (Option.some.inj hr); exact ho
/-- A new block for a new object. -/
theorem Rel.new (h : Rel w F g mine σ a) {w1 : World} {obj : Obj} (m : OneMore w w1 obj) (nid : Nat) (o : Ob) (L : Loc) (hL : L.blk = some w.heap.size) (v : AV) (x : Value) (d : Option Nat) (hd : ∀ e, d = some e → e < a.tmps.size)
    (hn : ∀ (g' : Nat → Loc) ob', g' nid = L → (∀ i, i ≠ nid → g' i = g i) → (∀ i, i ≠ nid → lenOf (ob' i) = lenOf (σ.ob i)) → ob' nid = some o → ORel w1 F g' ob' mine nid o)
    (hv : ∀ (g' : Nat → Loc) ob', g' nid = L → ob' nid = some o → R w1 F g' ob' v x) :
    ∃ g', Rel w1 F g' mine (({ v := v, sets := [(nid, some o)], kills := [nid] } : Upd).app σ d) (a.put d x) ∧ Kept [nid] g g' σ.ob (({ v := v, sets := [(nid, some o)], kills := [nid] } : Upd).app σ d).ob := by
  obtain ⟨g', hg1, hg2⟩ : ∃ g' : Nat → Loc, g' nid = L ∧ ∀ i, i ≠ nid → g' i = g i := ⟨fun i => if i = nid then L else g i, if_pos rfl, fun i hi => if_neg hi⟩
  refine ⟨g', ?_, fun id hid => ⟨hg2 id (by simpa using hid), fun n hn => by
    rw [app_ob] at hn
    have hn' : lenOf (setOb (σ.kill [nid]).ob [(nid, some o)] id) = some n := hn
    rw [setOb_one, if_neg (by simpa using hid), lenOf_killOb] at hn'
    exact hn'⟩⟩
  have hob : setOb (σ.kill [nid]).ob [(nid, some o)] nid = some o := by rw [setOb_one, if_pos rfl]
  refine h.upd (m.step h) _ d x hd (fun id hid => hid) (fun id hid => hg2 id (fun e => hid (by simp [e]))) ?_ ?_ ?_ ?_ (fun b hb => by have := h.low b hb; have := m.size; omega) (hv _ _ hg1 hob)
  · intro id hid n
    rw [setOb_one, if_neg (fun e => hid (by simp [e])), lenOf_killOb]
    exact fun hh => hh
  · intro id o' h1 h2
    simp only [List.map_cons, List.map_nil, List.mem_singleton] at h2
    subst h2
    rw [hob] at h1; cases h1
    exact hn _ _ hg1 hg2 (fun i hi => by rw [setOb_one, if_neg hi, lenOf_killOb]) hob
  · intro id o' b ho hs hb
    exact ⟨m.old b (ob_blk h ho hb), fun ho' => (own_not_F h ho ho' hb).1⟩
  · intro i j p q b hp hq hop hoq hi hj
    by_cases ei : i = nid <;> by_cases ej : j = nid
    · rw [ei, ej]
    · exfalso
      rw [ei, hg1, hL] at hi
      rw [hg2 j ej] at hj
      rw [setOb_one, if_neg ej] at hq
      obtain ⟨q1, hq1, _⟩ := own_of hq
      have := ob_blk h hq1 hj
      cases hi; omega
    · exfalso
      rw [ej, hg1, hL] at hj
      rw [hg2 i ei] at hi
      rw [setOb_one, if_neg ei] at hp
      obtain ⟨q1, hq1, _⟩ := own_of hp
      have := ob_blk h hq1 hi
      cases hj; omega
    · rw [hg2 i ei] at hi
      rw [hg2 j ej] at hj
      rw [setOb_one, if_neg ei] at hp
      rw [setOb_one, if_neg ej] at hq
      obtain ⟨p1, hp1, ho1⟩ := own_of hp
      obtain ⟨q1, hq1, ho2⟩ := own_of hq
      exact h.uniq i j p1 q1 b hp1 hq1 (ho1 hop) (ho2 hoq) hi hj
theorem nofr_zero (n : Nat) : NoFr (0, 0) n := fun i _ h => by omega
theorem killAll_length (ids : List Nat) : ∀ cs : List AV, (AV.killAll ids cs).length = cs.length
  | [] => rfl
  | _ :: r => by simp [AV.killAll, killAll_length ids r]
/-- A variable's block. -/
theorem Good.box (h : Rel w F g mine σ a) {nid : Nat} {v : AV} {x : Value} {T : TypeId} {d : Option Nat} (hd : ∀ e, d = some e → e < a.tmps.size) (hs : v.solid = true) (hv : R w F g σ.ob v x) {s : Sem Value}
    (hr : s.run P w = .ok (.pointer (some ⟨w.heap.size, 0, none⟩)) (w.alloc (.cells x.cells T))) :
    Good w F g mine σ a ((do pure (Next.value (← s)) : Sem Next).run P w) { v := .ptr nid 0, sets := [(nid, some (.cells (AV.killAll [nid] v.cells)))], kills := [nid] } d := by
  have hrel := cells_rel hs hv
  have m := OneMore.alloc w (.cells x.cells T)
  obtain ⟨g', hg'⟩ := h.new m nid (.cells (AV.killAll [nid] v.cells)) ⟨some w.heap.size, x.cells.size, 1⟩ rfl (.ptr nid 0) (.pointer (some ⟨w.heap.size, 0, none⟩)) d hd
    (fun g' ob' e1 e2 e3 e4 => ⟨w.heap.size, x.cells, T, (0, 0), by rw [e1], h.up _ (Nat.le_refl _), fun hF => by have := h.low _ hF; omega, m.new, nofr_zero _,
      RAll.step (fun b hb => m.old b (h.low b hb)) (fun _ hb => hb) (RAll.kill [nid] hrel) (fun i hi => by
        have hne : i ≠ nid := fun e => (refsAll_kill _ _ _ hi).2 (by simp [e])
        exact ⟨e2 i hne, fun n hn => by rw [e3 i hne] at hn; exact hn⟩), by rw [e1], by rw [e1]⟩)
    (fun g' ob' e1 _ => ⟨w.heap.size, by rw [e1], rfl⟩)
  exact ⟨_, _, _, F, g', bind_value hr, .inl rfl, m.step h, hg'.1, hg'.2⟩
/-- A row's block, with these elements. -/
theorem Good.row (h : Rel w F g mine σ a) {nid : Nat} {e : Ty} {l : List e.den} {c : Array Value} {T : TypeId} {fr : Nat × Nat} {cap : Nat} {d : Option Nat} (hd : ∀ e, d = some e → e < a.tmps.size) {run : Result Next} {w1 : World}
    (hr : run = .ok (.value (.slice (some ⟨w.heap.size, 0, none⟩) l.length cap)) w1) (m : OneMore w w1 (.cells c T fr))
    (hc : c.size = cap * e.cells) (hl : l.length ≤ cap) (hfr : NoFr fr (c.size + slack e)) {cm : Nat} (hcm : cm ≤ cap) (hel : ∀ i x, l[i]? = some x → Rd w F e x (cut c (i * e.cells) e.cells)) :
    Good w F g mine σ a run { v := .ow nid, sets := [(nid, some (.row e l cm false))], kills := [nid] } d := by
  obtain ⟨g', hg'⟩ := h.new m nid (.row e l cm false) ⟨some w.heap.size, cap, e.cells⟩ rfl (.ow nid) (.slice (some ⟨w.heap.size, 0, none⟩) l.length cap) d hd
    (fun g' ob' e1 _ _ _ => ⟨by rw [e1], by rw [e1]; exact hl, by rw [e1]; exact hcm, by rw [e1]; exact (fun h => nomatch h), fun b hb => by
      rw [e1] at hb ⊢; cases hb
      exact ⟨c, T, fr, m.new, hc, hfr, (fun h => nomatch h), fun _ => ⟨h.up _ (Nat.le_refl _), fun hF => by have := h.low _ hF; omega⟩, fun i x hx => (hel i x hx).step (fun b hb => m.old b (h.low b hb)) fun _ hb => hb⟩⟩)
    (fun g' ob' e1 e2 => ⟨⟨_, _, _, rfl⟩, fun n hn => by
      rw [e2] at hn
      simp only [lenOf, Option.some.injEq] at hn
      subst hn
      rw [e1]
      exact ⟨_, rfl, by simpa using hl, fun b hb _ => by cases hb; simp, (fun h => nomatch h)⟩⟩)
  exact ⟨_, _, w1, F, g', hr, .inl rfl, m.step h, hg'.1, hg'.2⟩
end Go.Proofs.YtdbenenonfldkaaDoor.PE
