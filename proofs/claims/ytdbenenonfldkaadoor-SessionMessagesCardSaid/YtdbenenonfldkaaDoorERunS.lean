/- A run on the abstract state, held against the model's code. -/
import Derived.Test.YtdbenenonfldkaaDoorEDraw4
import Derived.ScopeJumps
namespace Go.Proofs.YtdbenenonfldkaaDoor.PE
set_option linter.unusedVariables false
open Go.RowKit
section
variable {α : Type} {r : α} {P : Program} {w0 w w' : World} {F0 F F' : Nat → Prop} {g0 g g' : Nat → Loc} {ob0 : Nat → Option Ob} {mine : Nat → Prop} {n : Nat} {σ σ' : St} {a : Act}
theorem emptyRow_sound (h : Inv w0 F0 g0 ob0 mine n w F g σ a) (id : Nat) (e : Ty) {d : Option Nat} (hd : ∀ t, d = some t → a.tmps.getD t undef = .slice none 0 0) : ∃ g', g' id = ⟨none, 0, e.cells⟩ ∧ (∀ i, i ≠ id → g' i = g i) ∧ Inv w0 F0 g0 ob0 mine n w F g' ((emptyRow id e).app σ d) a := by
  have hlt : ∀ t, d = some t → t < a.tmps.size := by
    intro t ht
    have hv := hd t ht
    rcases Nat.lt_or_ge t a.tmps.size with h' | h'
    · exact h'
    · rw [Array.getD_eq_getD_getElem?, Array.getElem?_eq_none h'] at hv; cases hv
  obtain ⟨g', hN, hR, hK⟩ := h.rel.virt' id e (.ow id) (.slice none 0 0) d hlt (fun g' ob' e1 e2 => ⟨⟨_, _, _, rfl⟩, fun m hm => by rw [e2] at hm; cases hm; rw [e1]; exact ⟨none, rfl, by simp, (fun b hb => nomatch hb), fun _ => rfl⟩⟩)
  have hput : a.put d (.slice none 0 0) = a := by
    cases d with
    | none => rfl
    | some t =>
      have hv := hd t rfl
      have hlt := hlt t rfl
      have : a.tmps.setIfInBounds t (.slice none 0 0) = a.tmps := by
        apply Array.ext_getElem?
        intro i
        by_cases e : t = i
        · subst e
          rw [Array.getElem?_setIfInBounds_self_of_lt hlt]
          rw [Array.getD_eq_getD_getElem?, Array.getElem?_eq_getElem hlt] at hv
          rw [Array.getElem?_eq_getElem hlt]
          simp only [Option.getD_some] at hv
          rw [hv]
        · rw [Array.getElem?_setIfInBounds_ne e]
      show (⟨a.tmps.setIfInBounds t _, a.defers⟩ : Act) = a
      rw [this]
  have hi := h.upd (d := d) (Step.refl _ _ _) hR hK
  rw [hput] at hi
  exact ⟨g', hN, fun i hi' => (hK i (by simpa using hi')).1, hi⟩
theorem rename_sound (h : Inv w0 F0 g0 ob0 mine n w F g σ a) {i id : Nat} (hi : i ≠ id) (hrow : isRow (σ.ob i) = true) : ∃ g', Inv w0 F0 g0 ob0 mine n w F g' (renameSt σ i id) a := by
  have h1 := h.kill [id]
  obtain ⟨er, lr, cr, fr, hr⟩ : ∃ e l cm frz, (σ.kill [id]).ob i = some (.row e l cm frz) := by
    cases ho : σ.ob i with
    | none => rw [ho] at hrow; cases hrow
    | some o =>
      cases o with
      | cells _ => rw [ho] at hrow; cases hrow
      | row e l cm frz => exact ⟨e, l, cm, frz, by show (σ.ob i).map _ = _; rw [ho]; rfl⟩
  have hc : Clean (σ.kill [id]) [id] := kill_clean σ [id]
  have ekl : (renameSt σ i id).kl = i :: id :: σ.kl := rfl
  have etm : ∀ t, (renameSt σ i id).tm t = ((σ.kill [id]).tm t).rename [(i, id)] := fun t => rfl
  have eob : ∀ j, (renameSt σ i id).ob j = if j = id then (σ.kill [id]).ob i else if j = i then none else ((σ.kill [id]).ob j).map (Ob.rename [(i, id)]) := by
    intro j
    show (bif Nat.beq j id then _ else bif Nat.beq j i then _ else _) = _
    by_cases e1 : j = id
    · subst e1; rw [Nat.beq_refl, if_pos rfl]; rfl
    · rw [if_neg e1]
      have : Nat.beq j id = false := by
        cases hb : Nat.beq j id
        · rfl
        · exact absurd (Nat.eq_of_beq_eq_true hb) e1
      rw [this, cond_false]
      by_cases e2 : j = i
      · subst e2; rw [Nat.beq_refl, if_pos rfl]; rfl
      · rw [if_neg e2]
        have : Nat.beq j i = false := by
          cases hb : Nat.beq j i
          · rfl
          · exact absurd (Nat.eq_of_beq_eq_true hb) e2
        rw [this, cond_false]
  generalize renameSt σ i id = σ2 at ekl etm eob
  generalize hσ1 : σ.kill [id] = σ1 at *
  obtain ⟨g2, hg1, hg2⟩ : ∃ g2 : Nat → Loc, g2 id = g i ∧ ∀ j, j ≠ id → g2 j = g j := ⟨fun j => if j = id then g i else g j, if_pos rfl, fun j hj => if_neg hj⟩
  have hnew : ∀ j, newName [(i, id)] j = if j = i then id else j := by
    intro j
    show (bif Nat.beq i j then id else j) = _
    by_cases e : j = i
    · subst e; rw [Nat.beq_refl, if_pos rfl]; rfl
    · rw [if_neg e]
      have : Nat.beq i j = false := by
        cases hb : Nat.beq i j
        · rfl
        · exact absurd (Nat.eq_of_beq_eq_true hb).symm e
      rw [this]; rfl
  have hren : ∀ j, j ≠ id → g2 (newName [(i, id)] j) = g j ∧ ∀ n, lenOf (σ2.ob (newName [(i, id)] j)) = some n → lenOf (σ1.ob j) = some n := by
    intro j hj
    rw [hnew j]
    by_cases e : j = i
    · subst e
      rw [if_pos rfl, eob, if_pos rfl]
      exact ⟨hg1, fun n hn => hn⟩
    · rw [if_neg e, eob, if_neg hj, if_neg e]
      exact ⟨hg2 j hj, fun n hn => by rw [lenOf_rename] at hn; exact hn⟩
  have back : ∀ j o, σ2.ob j = some o → ∃ j' o', (j = id ∧ j' = i ∨ j = j' ∧ j ≠ id ∧ j ≠ i) ∧ σ1.ob j' = some o' ∧ (o.own ↔ o'.own) ∧ g2 j = g j' ∧ (o = o' ∨ o = o'.rename [(i, id)]) := by
    intro j o hj
    rw [eob] at hj
    by_cases e1 : j = id
    · rw [if_pos e1] at hj
      exact ⟨i, o, .inl ⟨e1, rfl⟩, hj, .rfl, by rw [e1]; exact hg1, .inl rfl⟩
    · rw [if_neg e1] at hj
      by_cases e2 : j = i
      · rw [if_pos e2] at hj; cases hj
      · rw [if_neg e2] at hj
        obtain ⟨o', h1, h2⟩ := Option.map_eq_some_iff.1 hj
        refine ⟨j, o', .inr ⟨rfl, e1, e2⟩, h1, ?_, hg2 j e1, .inr h2.symm⟩
        rw [← h2]
        cases o' <;> exact .rfl
  refine ⟨g2, ⟨fun t => ?_, fun j o hj => ?_, fun j k o p b hj hk ho hp hbj hbk => ?_, h1.rel.low, h1.rel.up⟩, h1.step, ?_, h1.size, h1.defers⟩
  · rw [etm]
    exact R.rename (h1.rel.tm t) fun j hj => hren j (fun e => hc.1 t j hj (by simp [e]))
  · obtain ⟨j', o', hjj, hj', hown, hgj, ho⟩ := back j o hj
    have hO := h1.rel.ob j' o' hj'
    cases o' with
    | row e l cm frz =>
      have : o = .row e l cm frz := by rcases ho with rfl | rfl <;> rfl
      subst this
      obtain ⟨k1, k2, k3, k4, k5⟩ := hO
      exact ⟨by rw [hgj]; exact k1, by rw [hgj]; exact k2, by rw [hgj]; exact k3, by rw [hgj]; exact k4, by rw [hgj]; exact k5⟩
    | cells cs =>
      rcases hjj with ⟨rfl, rfl⟩ | ⟨rfl, e1, e2⟩
      · rw [hr] at hj'; cases hj'
      have ho' : o = .cells (AV.renameAll [(i, id)] cs) := by
        rw [eob, if_neg e1, if_neg e2, hj'] at hj
        exact (Option.some.inj hj).symm
      subst ho'
      obtain ⟨b, c, T, fr', k1, k2, k3, k4, k5, k6, k7⟩ := hO
      exact ⟨b, c, T, fr', by rw [hgj]; exact k1, k2, k3, k4, k5, RAll.rename k6 fun m hm => hren m (fun e => hc.2 j m (by rw [hj']; exact hm) (by simp [e])), by rw [hgj]; exact k7⟩
  · obtain ⟨j', o', hjj, hj', hown, hgj, _⟩ := back j o hj
    obtain ⟨k', p', hkk, hk', hown', hgk, _⟩ := back k p hk
    rw [hgj] at hbj
    rw [hgk] at hbk
    have := h1.rel.uniq j' k' o' p' b hj' hk' (hown.1 ho) (hown'.1 hp) hbj hbk
    omega
  · intro j hj
    rw [ekl] at hj
    simp only [List.mem_cons, not_or] at hj
    have hkl : j ∉ σ1.kl := by rw [← hσ1]; exact hj.2.2
    refine ⟨(hg2 j hj.2.1).trans (h1.kept j hkl).1, fun m hm => (h1.kept j hkl).2 m ?_⟩
    rw [eob, if_neg hj.2.1, if_neg hj.1, lenOf_rename] at hm
    exact hm
theorem ownNils_sound : ∀ (l : List (Nat × Nat × Ty)) {g : Nat → Loc} {σ : St}, Inv w0 F0 g0 ob0 mine n w F g σ a → ∃ g', Inv w0 F0 g0 ob0 mine n w F g' (ownNils σ l) a
  | [], g, σ, h => ⟨g, h⟩
  | (t, id, e) :: r, g, σ, h => by
    unfold ownNils
    split
    · rename_i ht
      have hv := h.rel.tm t
      rw [ht] at hv
      obtain ⟨g', _, _, hi⟩ := emptyRow_sound h id e (d := some t) (fun t' ht' => by cases ht'; exact hv)
      exact ownNils_sound r hi
    · rename_i i ht
      cases hb : (!Nat.beq i id && isRow (σ.ob i)) with
      | false => exact ownNils_sound r h
      | true =>
        simp only [Bool.and_eq_true, Bool.not_eq_true'] at hb
        obtain ⟨g', hi⟩ := rename_sound h (i := i) (id := id) (fun e => by rw [e, Nat.beq_refl] at hb; cases hb.1) hb.2
        exact ownNils_sound r hi
    · exact ownNils_sound r h
theorem recell_sound (h : Inv w0 F0 g0 ob0 mine n w F g σ a) {c j : Nat} {cs : List AV} (hc : σ.ob c = some (.cells cs)) {v : AV} (hv : ∀ b cc T fr, (g c).blk = some b → w.heap[b]? = some (.cells cc T fr) → RAll w F g σ.ob cs cc.toList → ∀ y, cc.toList[j]? = some y → R w F g σ.ob v y) :
    Inv w0 F0 g0 ob0 mine n w F g { σ with ob := fun i => bif Nat.beq i c then some (.cells (cs.set j v)) else σ.ob i } a := by
  have eob : ∀ i, (bif Nat.beq i c then some (Ob.cells (cs.set j v)) else σ.ob i) = if i = c then some (.cells (cs.set j v)) else σ.ob i := by
    intro i
    by_cases e : i = c
    · subst e; rw [Nat.beq_refl, if_pos rfl]; rfl
    · rw [if_neg e]
      have : Nat.beq i c = false := by
        cases hb : Nat.beq i c
        · rfl
        · exact absurd (Nat.eq_of_beq_eq_true hb) e
      rw [this]; rfl
  have hlen : ∀ i m, lenOf (bif Nat.beq i c then some (Ob.cells (cs.set j v)) else σ.ob i) = some m → lenOf (σ.ob i) = some m := by
    intro i m hm
    rw [eob] at hm
    by_cases e : i = c
    · rw [if_pos e] at hm; cases hm
    · rw [if_neg e] at hm; exact hm
  have same : ∀ {x : AV} {y : Value}, R w F g σ.ob x y → R w F g (fun i => bif Nat.beq i c then some (.cells (cs.set j v)) else σ.ob i) x y := fun hx => R.step (fun _ _ => rfl) (fun _ h => h) hx fun i _ => ⟨rfl, hlen i⟩
  have sameAll : ∀ {x : List AV} {y : List Value}, RAll w F g σ.ob x y → RAll w F g (fun i => bif Nat.beq i c then some (.cells (cs.set j v)) else σ.ob i) x y := fun hx => RAll.step (fun _ _ => rfl) (fun _ h => h) hx fun i _ => ⟨rfl, hlen i⟩
  have setAll : ∀ {xs : List AV} {ys : List Value} {k : Nat}, RAll w F g σ.ob xs ys → (∀ y, ys[k]? = some y → R w F g σ.ob v y) → RAll w F g σ.ob (xs.set k v) ys := by
    intro xs
    induction xs with
    | nil => intro ys k h _; exact h
    | cons x r ih =>
      intro ys k h hy
      obtain ⟨y, s, rfl, h1, h2⟩ := h
      cases k with
      | zero => exact ⟨y, s, rfl, hy y rfl, h2⟩
      | succ k => exact ⟨y, s, rfl, h1, ih h2 (fun z hz => hy z hz)⟩
  refine ⟨⟨fun t => same (h.rel.tm t), fun i o hi => ?_, fun i k o p b hi hk ho hp hbi hbk => ?_, h.rel.low, h.rel.up⟩, h.step, fun i hi => ⟨(h.kept i hi).1, fun m hm => (h.kept i hi).2 m (hlen i m hm)⟩, h.size, h.defers⟩
  · have hi' : (if i = c then some (Ob.cells (cs.set j v)) else σ.ob i) = some o := (eob i).symm.trans hi
    by_cases e : i = c
    · rw [if_pos e] at hi'
      cases hi'
      obtain ⟨b, cc, T, fr, k1, k2, k3, k4, k5, k6, k7⟩ := h.rel.ob c _ hc
      rw [e]
      exact ⟨b, cc, T, fr, k1, k2, k3, k4, k5, sameAll (setAll k6 (hv b cc T fr k1 k4 k6)), k7⟩
    · rw [if_neg e] at hi'
      have hO := h.rel.ob i o hi'
      cases o with
      | cells ds =>
        obtain ⟨b, cc, T, fr, k1, k2, k3, k4, k5, k6, k7⟩ := hO
        exact ⟨b, cc, T, fr, k1, k2, k3, k4, k5, sameAll k6, k7⟩
      | row e l cm frz => exact hO
  · have src : ∀ i o, (bif Nat.beq i c then some (Ob.cells (cs.set j v)) else σ.ob i) = some o → ∃ o', σ.ob i = some o' ∧ (o.own → o'.own) := by
      intro i o hi
      rw [eob] at hi
      by_cases e : i = c
      · rw [if_pos e] at hi; cases hi; rw [e]; exact ⟨_, hc, fun _ => trivial⟩
      · rw [if_neg e] at hi; exact ⟨o, hi, fun h => h⟩
    obtain ⟨o', h1, h2⟩ := src i o hi
    obtain ⟨p', h3, h4⟩ := src k p hk
    exact h.rel.uniq i k o' p' b h1 h3 (h2 ho) (h4 hp) hbi hbk
theorem ownCells_sound : ∀ (l : List (Nat × Nat × Nat × Ty)) {g : Nat → Loc} {σ : St}, Inv w0 F0 g0 ob0 mine n w F g σ a → ∃ g', Inv w0 F0 g0 ob0 mine n w F g' (ownCells σ l) a
  | [], g, σ, h => ⟨g, h⟩
  | (c, j, id, e) :: r, g, σ, h => by
    unfold ownCells
    split
    · rename_i cs hc
      split
      · rename_i hj
        have hnil : ∀ b cc T fr, (g c).blk = some b → w.heap[b]? = some (.cells cc T fr) → ∀ y, cc.toList[j]? = some y → y = .slice none 0 0 := by
          intro b cc T fr hb hh y hy
          obtain ⟨b', cc', T', fr', k1, k2, k3, k4, k5, k6, k7⟩ := h.rel.ob c _ hc
          rw [hb] at k1
          cases k1
          rw [hh] at k4
          cases k4
          exact k6.get hj hy
        by_cases hcid : c = id
        · -- the variable itself gets the name: nothing is known of it any more
          dsimp only
          split
          · rename_i ds hds
            exfalso
            rw [hcid, app_ob] at hds
            simp [emptyRow, setOb, Nat.beq_refl] at hds
          · exact ⟨g, h⟩
        · obtain ⟨g1, hN, hK, h1⟩ := emptyRow_sound h id e (d := none) (fun t ht => by cases ht)
          dsimp only
          split
          · rename_i ds hds
            refine ownCells_sound r (recell_sound h1 hds (v := .ow id) fun b cc T fr hb hh hr y hy => ?_)
            rw [hK c hcid] at hb
            rw [hnil b cc T fr hb hh y hy]
            refine ⟨⟨_, _, _, rfl⟩, fun m hm => ?_⟩
            have e1 : ((emptyRow id e).app σ none).ob id = some (.row e [] 0 false) := by rw [app_ob]; simp [emptyRow, setOb, Nat.beq_refl]
            rw [e1] at hm
            cases hm
            rw [hN]
            exact ⟨none, rfl, by simp, (fun b hb => nomatch hb), fun _ => rfl⟩
          · exact ⟨g, h⟩
      · rename_i i hj
        cases hb : (!Nat.beq i id && isRow (σ.ob i)) with
        | false => exact ownCells_sound r h
        | true =>
          simp only [Bool.and_eq_true, Bool.not_eq_true'] at hb
          obtain ⟨g', hi⟩ := rename_sound h (i := i) (id := id) (fun e => by rw [e, Nat.beq_refl] at hb; cases hb.1) hb.2
          exact ownCells_sound r hi
      · exact ownCells_sound r h
    · exact ownCells_sound r h
theorem find_key {β : Type} : ∀ {l : List Nat} {f : Nat → β} {t : Nat} {p : Nat × β}, (l.map fun t => (t, f t)).find? (fun p => Nat.beq p.1 t) = some p → p.2 = f t
  | x :: r, f, t, p, h => by
    simp only [List.map_cons, List.find?_cons] at h
    cases hb : Nat.beq x t with
    | true =>
      rw [hb] at h
      cases h
      rw [Nat.eq_of_beq_eq_true hb]
    | false =>
      rw [hb] at h
      exact find_key h
theorem lenOf_noCap (o : Option Ob) : lenOf (noCap o) = lenOf o := by
  cases o with
  | none => rfl
  | some o => cases o <;> rfl
theorem slim_sound (h : Inv w0 F0 g0 ob0 mine n w F g σ a) (ts : List Nat) : Inv w0 F0 g0 ob0 mine n w F g (slimSt σ ts) a := by
  cases ts with
  | nil => exact h
  | cons t r =>
    refine ⟨⟨fun i => ?_, h.rel.ob, h.rel.uniq, h.rel.low, h.rel.up⟩, h.step, h.kept, h.size, h.defers⟩
    show R w F g σ.ob (bif (t :: r).any (Nat.beq i) then (match σ.tm i with
      | .ow id => (match σ.ob id with | some (.row _ l _ _) => .sl id 0 l.length | _ => .ow id)
      | v => v) else σ.tm i) _
    have hi := h.rel.tm i
    cases (t :: r).any (Nat.beq i) with
    | false => exact hi
    | true =>
      simp only [cond_true]
      split
      · rename_i id he
        rw [he] at hi
        split
        · rename_i l cm frz ho
          exact hi.2 l.length (by rw [ho]; rfl)
        · exact hi
      · exact hi
theorem hint_sound (h : Inv w0 F0 g0 ob0 mine n w F g σ a) (hh : Option Hint) : ∃ g', Inv w0 F0 g0 ob0 mine n w F g' (hinted hh σ) a := by
  cases hh with
  | none => exact ⟨g, h⟩
  | some hh =>
    obtain ⟨g1, h1⟩ := ownNils_sound hh.nils h
    obtain ⟨g', h'⟩ := ownCells_sound hh.cn h1
    have h' := slim_sound h' hh.slim
    refine ⟨g', ?_⟩
    show Inv w0 F0 g0 ob0 mine n w F g' (hh.app σ) a
    unfold Hint.app
    generalize slimSt (ownCells (ownNils σ hh.nils) hh.cn) hh.slim = σ1 at h'
    cases hh.whole with
    | true => exact h'
    | false =>
    simp only [cond_false]
    have hob : ∀ id o, (St.ofLists (hh.tmps.map fun t => (t, σ1.tm t)) (hh.obs.map fun i => (i, noCap (σ1.ob i))) (bif σ1.kl.all (fun i => hh.kl.any (Nat.beq i)) then hh.kl else σ1.kl)).ob id = some o → noCap (σ1.ob id) = some o := by
      intro id o ho
      simp only [St.ofLists] at ho
      split at ho
      · rename_i p hp
        rw [find_key hp] at ho
        exact ho
      · cases ho
    have hlen : ∀ id m, lenOf ((St.ofLists (hh.tmps.map fun t => (t, σ1.tm t)) (hh.obs.map fun i => (i, noCap (σ1.ob i))) (bif σ1.kl.all (fun i => hh.kl.any (Nat.beq i)) then hh.kl else σ1.kl)).ob id) = some m → lenOf (σ1.ob id) = some m := by
      intro id m hm
      cases ho : (St.ofLists (hh.tmps.map fun t => (t, σ1.tm t)) (hh.obs.map fun i => (i, noCap (σ1.ob i))) (bif σ1.kl.all (fun i => hh.kl.any (Nat.beq i)) then hh.kl else σ1.kl)).ob id with
      | none => rw [ho] at hm; cases hm
      | some o =>
        have := hob id o ho
        rw [ho, ← this, lenOf_noCap] at hm
        exact hm
    have own : ∀ id o, noCap (σ1.ob id) = some o → ∃ o1, σ1.ob id = some o1 ∧ (o.own → o1.own) := by
      intro id o ho
      cases h1 : σ1.ob id with
      | none => rw [h1] at ho; cases ho
      | some o1 =>
        rw [h1] at ho
        refine ⟨o1, rfl, fun hw => ?_⟩
        cases o1 with
        | cells _ => trivial
        | row _ _ _ _ => cases (Option.some.inj ho); exact hw
    refine ⟨⟨fun t => ?_, fun id o ho => ?_, fun i j o p b hi hj ho hp hbi hbj => ?_, h'.rel.low, h'.rel.up⟩, h'.step, ?_, h'.size, h'.defers⟩
    · show R w F g' _ (match (hh.tmps.map fun t => (t, σ1.tm t)).find? (fun p => Nat.beq p.1 t) with | some p => p.2 | none => .top) _
      split
      · rename_i p hp
        rw [find_key hp]
        exact R.step (fun _ _ => rfl) (fun _ hb => hb) (h'.rel.tm t) fun id _ => ⟨rfl, hlen id⟩
      · exact trivial
    · have h1 := hob id o ho
      cases h2 : σ1.ob id with
      | none => rw [h2] at h1; cases h1
      | some o1 =>
        rw [h2] at h1
        have hO := h'.rel.ob id o1 h2
        cases o1 with
        | cells cs =>
          cases (Option.some.inj h1)
          obtain ⟨b, c, T, fr, k1, k2, k3, k4, k5, k6, k7⟩ := hO
          exact ⟨b, c, T, fr, k1, k2, k3, k4, k5, RAll.step (fun _ _ => rfl) (fun _ hb => hb) k6 fun id _ => ⟨rfl, hlen id⟩, k7⟩
        | row e l cm frz =>
          cases (Option.some.inj h1)
          obtain ⟨k1, k2, k3, k4, k5⟩ := hO
          exact ⟨k1, k2, Nat.zero_le _, k4, k5⟩
    · obtain ⟨o1, e1, f1⟩ := own i o (hob i o hi)
      obtain ⟨p1, e2, f2⟩ := own j p (hob j p hj)
      exact h'.rel.uniq i j o1 p1 b e1 e2 (f1 ho) (f2 hp) hbi hbj
    · intro id hid
      have hid' : id ∉ σ1.kl := by
        intro hk
        apply hid
        show id ∈ (bif σ1.kl.all (fun i => hh.kl.any (Nat.beq i)) then hh.kl else σ1.kl)
        cases hb : σ1.kl.all (fun i => hh.kl.any (Nat.beq i)) with
        | true => exact any_beq.1 (List.all_eq_true.1 hb id hk)
        | false => exact hk
      exact ⟨(h'.kept id hid').1, fun m hm => (h'.kept id hid').2 m (hlen id m hm)⟩
open Classical in
/-- The least number of which something holds. -/
noncomputable def leastN (p : Nat → Prop) : Nat := if h : ∃ n, p n ∧ ∀ m, p m → n ≤ m then h.choose else 0
theorem least_ex {p : Nat → Prop} : ∀ {n : Nat}, p n → ∃ n, p n ∧ ∀ m, p m → n ≤ m := by
  intro n
  induction n using Nat.strongRecOn with
  | _ n ih =>
    intro h
    by_cases hm : ∃ m, m < n ∧ p m
    · obtain ⟨m, h1, h2⟩ := hm
      exact ih m h1 h2
    · exact ⟨n, h, fun m h2 => Nat.le_of_not_lt fun h1 => hm ⟨m, h1, h2⟩⟩
theorem leastN_spec {p : Nat → Prop} (h : ∃ n, p n) : p (leastN p) ∧ ∀ m, p m → leastN p ≤ m := by
  obtain ⟨n, hn⟩ := h
  have e := least_ex hn
  unfold leastN
  rw [dif_pos e]
  exact e.choose_spec
/-- A piece of code. -/
theorem run_sound [KnownC w0 F0] {C : Cfg} {inl : Inl α} (hsig : SigsOk C) (hinl : InlOk C.P inl r) (hlin : InlLin inl) {fn base : Nat} : ∀ (c : Code) (cur : Nat) {w : World} {F : Nat → Prop} {g : Nat → Loc} {σ : St} {a : Act} {k : Kt α} {Qp : Exit → Act → World → Prop},
    Inv w0 F0 g0 ob0 mine n w F g σ a → dstsBelow n c = true → runC C inl fn base c cur σ k = some r →
    (∀ e σ' w' F' g' a', k e σ' = some r → Inv w0 F0 g0 ob0 mine n w' F' g' σ' a' → Qp e.to a' w') → c.wp C.P Qp a w
  | .skip, cur, w, F, g, σ, a, k, Qp, h, hd, hq, hQ => wp_skip (hQ .normal _ _ _ _ _ hq h)
  | .label l, cur, w, F, g, σ, a, k, Qp, h, hd, hq, hQ => wp_label (hQ .normal _ _ _ _ _ hq h)
  | .ret, cur, w, F, g, σ, a, k, Qp, h, hd, hq, hQ => wp_ret (hQ .ret _ _ _ _ _ hq h)
  | .exit id, cur, w, F, g, σ, a, k, Qp, h, hd, hq, hQ => wp_exit (hQ (.exit id) _ _ _ _ _ hq h)
  | .seq x y, cur, w, F, g, σ, a, k, Qp, h, hd, hq, hQ => by
    simp only [dstsBelow, Bool.and_eq_true] at hd
    refine wp_seq (run_sound hsig hinl hlin x cur h hd.1 (by simpa only [runC] using hq) fun e σ' w' F' g' a' hk hi => ?_)
    cases e with
    | normal => exact run_sound hsig hinl hlin y cur hi hd.2 hk hQ
    | exit id => exact hQ _ _ _ _ _ _ hk hi
    | ret => exact hQ _ _ _ _ _ _ hk hi
    | jump l => exact hQ _ _ _ _ _ _ hk hi
  | .cond c x y, cur, w, F, g, σ, a, k, Qp, h, hd, hq, hQ => by
    simp only [dstsBelow, Bool.and_eq_true] at hd
    simp only [runC] at hq
    split at hq
    · rename_i t ht
      have hv := opnd_rel h.rel c
      rw [ht] at hv
      refine wp_cond (t := t) hv ?_
      cases t
      · exact run_sound hsig hinl hlin y cur h hd.2 hq hQ
      · exact run_sound hsig hinl hlin x cur h hd.1 hq hQ
    · cases hq
  | .block id c, cur, w, F, g, σ, a, k, Qp, h, hd, hq, hQ => by
    refine wp_block (run_sound hsig hinl hlin c id h (by simpa only [dstsBelow] using hd) (by simpa only [runC] using hq) fun e σ' w' F' g' a' hk hi => ?_)
    cases e with
    | normal => exact hQ _ _ _ _ _ _ hk hi
    | exit i =>
      simp only [blockK] at hk
      show if i = id then Qp .normal a' w' else Qp (.exit i) a' w'
      cases hb : Nat.beq i id with
      | true =>
        rw [hb] at hk
        rw [if_pos (Nat.eq_of_beq_eq_true hb)]
        exact hQ .normal _ _ _ _ _ hk hi
      | false =>
        rw [hb] at hk
        rw [if_neg (fun e => by rw [e] at hb; simp [Nat.beq_refl] at hb)]
        exact hQ (.exit i) _ _ _ _ _ hk hi
    | ret => exact hQ _ _ _ _ _ _ hk hi
    | jump l => exact hQ _ _ _ _ _ _ hk hi
  | .scope c, cur, w, F, g, σ, a, k, Qp, h, hd, hq, hQ => by
    have hd' : dstsBelow n c = true := by simpa only [dstsBelow] using hd
    unfold runC at hq
    split at hq
    · rename_i r1 r2 l b
      simp only [dstsBelow, Bool.and_eq_true] at hd'
      obtain ⟨hd1, hd2, _, hd3⟩ := hd'
      cases hn : ((findLabel r1 l).isNone && (findLabel r2 l).isNone) with
      | false => rw [hn, cond_false] at hq; cases hq
      | true =>
      rw [hn, cond_true] at hq
      rw [Bool.and_eq_true, Option.isNone_iff_eq_none, Option.isNone_iff_eq_none] at hn
      have hf : findLabel (.seq r1 (.seq r2 (.seq (.label l) b))) l = some (.seq .skip b) := by simp [findLabel, hn.1, hn.2]
      let body : St → Kt α → Option α := fun σ k => runC C inl fn base b cur σ (jumpK l k)
      let G : Nat → Act → World → Prop := fun m a w => ∃ F g σ, Inv w0 F0 g0 ob0 mine n w F g σ a ∧ iterN (C.hb fn (90000 + l)) body (shutK k) m σ = some r
      have pass : ∀ m a w, G m a w → b.wp C.P (Exit.jump l (fun a' w' => ∃ m', m = m' + 1 ∧ G m' a' w') Qp) a w := by
        rintro m a w ⟨F, g, σ, hi, hm⟩
        cases m with
        | zero => cases hm
        | succ m =>
          have hm' : runC C inl fn base b cur σ (jumpK l (againK (fun σ' => iterN (C.hb fn (90000 + l)) body (shutK k) m (hinted (C.hb fn (90000 + l)) σ')) (shutK k))) = some r := hm
          refine run_sound hsig hinl hlin b cur hi hd3 hm' fun e σ' w' F' g' a' hk hi' => ?_
          cases e with
          | normal => cases hk
          | exit i => exact hQ _ _ _ _ _ _ hk hi'
          | ret => exact hQ _ _ _ _ _ _ hk hi'
          | jump l' =>
            cases hl : Nat.beq l' l with
            | false =>
              have hk' : (bif Nat.beq l' l then _ else none) = some r := hk
              rw [hl] at hk'; cases hk'
            | true =>
              have hk' : (bif Nat.beq l' l then iterN (C.hb fn (90000 + l)) body (shutK k) m (hinted (C.hb fn (90000 + l)) σ') else none) = some r := hk
              rw [hl, cond_true] at hk'
              obtain ⟨g2, h2⟩ := hint_sound hi' (C.hb fn (90000 + l))
              exact ⟨Nat.eq_of_beq_eq_true hl, m, rfl, F', g2, _, h2, hk'⟩
      refine wp_scope_jumps l (fun a w => ∃ m, G m a w) (fun a w => leastN fun m => G m a w) hf ?_ ?_
      · refine wp_seq (run_sound hsig hinl hlin r1 cur h hd1 hq fun e σ' w' F' g' a' hk hi => ?_)
        cases e with
        | normal =>
          refine wp_seq (run_sound hsig hinl hlin r2 cur hi hd2 hk fun e σ2 w2 F2 g2 a2 hk2 hi2 => ?_)
          cases e with
          | normal =>
            have hk2 : loopL (C.hb fn (90000 + l)) body (hinted (C.hb fn (90000 + l)) σ2) (shutK k) = some r := hk2
            obtain ⟨N, hN⟩ := loopU_ex (n := 0) hk2
            obtain ⟨g3, h3⟩ := hint_sound hi2 (C.hb fn (90000 + l))
            refine wp_seq (wp_label ?_)
            refine wp_mono (pass N _ _ ⟨F2, g3, _, h3, hN⟩) fun e a' w' he => ?_
            cases e with
            | goto l' => exact ⟨he.1, he.2.choose, he.2.choose_spec.2⟩
            | normal => exact he
            | exit i => exact he
            | ret => exact he
            | panic c => exact he
            | outgrown => exact he
          | exit i => exact hQ _ _ _ _ _ _ hk2 hi2
          | ret => exact hQ _ _ _ _ _ _ hk2 hi2
          | jump l' => cases hk2
        | exit i => exact hQ _ _ _ _ _ _ hk hi
        | ret => exact hQ _ _ _ _ _ _ hk hi
        | jump l' => cases hk
      · intro a w hJ
        obtain ⟨q1, q2⟩ := leastN_spec hJ
        refine wp_seq (wp_skip ?_)
        refine wp_mono (pass _ _ _ q1) fun e a' w' he => ?_
        cases e with
        | goto l' =>
          obtain ⟨h1, m', h2, h3⟩ := he
          refine ⟨h1, ⟨m', h3⟩, ?_⟩
          have := (leastN_spec (p := fun m => G m a' w') ⟨m', h3⟩).2 m' h3
          show leastN (fun m => G m a' w') < leastN fun m => G m a w
          omega
        | normal => exact he
        | exit i => exact he
        | ret => exact he
        | panic c => exact he
        | outgrown => exact he
    · refine wp_scope_straight (run_sound hsig hinl hlin _ cur h hd' hq fun e σ' w' F' g' a' hk hi => ?_)
      cases e with
      | normal => exact hQ _ _ _ _ _ _ hk hi
      | exit i => exact hQ _ _ _ _ _ _ hk hi
      | ret => exact hQ _ _ _ _ _ _ hk hi
      | jump l => cases hk
  | .loop c, cur, w, F, g, σ, a, k, Qp, h, hd, hq, hQ => by
    have hd' : dstsBelow n c = true := by simpa only [dstsBelow] using hd
    simp only [runC] at hq
    obtain ⟨N, hN⟩ := loopU_ex hq
    · obtain ⟨g1, h1⟩ := hint_sound h (C.hb fn cur)
      refine wp_loop_ghost (fun m a w => ∃ F g σ, Inv w0 F0 g0 ob0 mine n w F g σ a ∧ iterN (C.hb fn cur) (fun σ' k' => runC C inl fn base c cur σ' k') k m σ = some r) N ⟨F, g1, _, h1, hN⟩ ?_
      rintro m a w ⟨F, g, σ, hi, hm⟩
      cases m with
      | zero => cases hm
      | succ m =>
        simp only [iterN] at hm
        refine run_sound hsig hinl hlin c cur hi hd' hm fun e σ' w' F' g' a' hk hi' => ?_
        cases e with
        | normal =>
          obtain ⟨g2, h2⟩ := hint_sound hi' (C.hb fn cur)
          exact ⟨m, Nat.lt_succ_self m, F', g2, _, h2, hk⟩
        | exit i => exact hQ _ _ _ _ _ _ hk hi'
        | jump l => exact hQ _ _ _ _ _ _ hk hi'
        | ret => exact hQ _ _ _ _ _ _ hk hi'
  | .region id ops draw, cur, w, F, g, σ, a, k, Qp, h, hd, hq, hQ => by
    have hd' : ∀ o ∈ ops.toList, ∀ e, o.dst = some e → e < n := by
      intro o ho e he
      simp only [dstsBelow] at hd
      have := List.all_eq_true.1 hd o ho
      rw [he] at this
      have h2 : Nat.ble (e + 1) n = true := this
      exact Nat.le_of_ble_eq_true h2
    rw [runC_region] at hq
    unfold regC at hq
    obtain ⟨g1, h1⟩ := hint_sound h (C.hr fn id)
    cases draw with
    | false =>
      simp only [cond_false] at hq
      exact wp_region_list (ops_sound hsig hinl rfl ops.toList 0 _ _ h1 hd' hq fun σ' fs w' F' g' a' hk hi => hQ .normal _ _ _ _ _ hk hi)
    | true =>
      simp only [cond_true] at hq
      exact draw_sound hsig hinl hlin h1 hd' hq fun σ' w' F' g' a' hk hi => hQ .normal _ _ _ _ _ hk hi
  | .goto l, cur, w, F, g, σ, a, k, Qp, h, hd, hq, hQ => wp_goto (hQ (.jump l) _ _ _ _ _ hq h)
  | .rangeFunc _ _ _ _, cur, w, F, g, σ, a, k, Qp, h, hd, hq, hQ => by simp [runC] at hq
  | .refuse _, cur, w, F, g, σ, a, k, Qp, h, hd, hq, hQ => by simp [runC] at hq
end
end Go.Proofs.YtdbenenonfldkaaDoor.PE
