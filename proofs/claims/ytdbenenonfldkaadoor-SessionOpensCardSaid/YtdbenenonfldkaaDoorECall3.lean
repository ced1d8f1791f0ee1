/- Calls by contract: what the caller knows behind. -/
import Derived.Test.YtdbenenonfldkaaDoorECall2
namespace Go.Proofs.YtdbenenonfldkaaDoor.PE
set_option linter.unusedVariables false
open Go.RowKit
variable {P : Program} {w w' : World} {F F' : Nat → Prop} {g g' g1 : Nat → Loc} {mine : Nat → Prop} {σ : St} {a : Act} {ob ob' ob1 : Nat → Option Ob}
mutual
/-- What leads to no data reads the same whatever blocks are data. -/
theorem R.light : ∀ {v : AV} {x : Value}, v.light = true → R w F g ob v x → R w' F' g ob v x
  | .top, _, _, h | .int _ _, _, _, h | .bool _, _, _, h | .str _, _, _, h | .flt _, _, _, h | .cpx _ _, _, _, h | .nilp, _, _, h | .nils, _, _, h | .nilf, _, _, h | .any, _, _, h => h
  | .ptr _ _, _, _, h => h
  | .eptr _ _ _, _, _, h => h
  | .sl _ _ _, _, _, h => h
  | .ow _, _, _, h => h
  | .fz _ _ _ _, _, hl, _ => by cases hl
  | .fptr _ _ _, _, hl, _ => by cases hl
  | .func f cs, _, hl, h => by obtain ⟨vs, e, h⟩ := h; exact ⟨vs, e, RAll.light (by simpa [AV.light] using hl) h⟩
  | .bnd f cs, _, hl, h => by obtain ⟨vs, e, h⟩ := h; exact ⟨vs, e, RAll.light (by simpa [AV.light] using hl) h⟩
  | .agg cs, _, hl, h => by obtain ⟨vs, e, h⟩ := h; exact ⟨vs, e, RAll.light (by simpa [AV.light] using hl) h⟩
  | .tup cs, _, hl, h => by obtain ⟨vs, e, h⟩ := h; exact ⟨vs, e, RAll.light (by simpa [AV.light] using hl) h⟩
theorem RAll.light : ∀ {cs : List AV} {vs : List Value}, AV.lightAll cs = true → RAll w F g ob cs vs → RAll w' F' g ob cs vs
  | [], _, _, h => h
  | a :: r, _, hl, h => by
    simp only [AV.lightAll, Bool.and_eq_true] at hl
    obtain ⟨v, s, e, h1, h2⟩ := h
    exact ⟨v, s, e, R.light hl.1 h1, RAll.light hl.2 h2⟩
end
/-- The names that data give to rows: those of the list, and no others. -/
theorem avCells_refs : ∀ {ms : List (Bool × Ty)} {ds : List DV} {n : Nat} (id : Nat), id ∈ AV.refsAll (avCells n ms ds).1 → id ∈ (avCells n ms ds).2.1.map (·.1) := by
  have exp0 : ∀ {t : Ty} {x : t.den} (id : Nat), id ∉ AV.refsAll (t.exp x) := by
    intro t
    induction t with
    | int k => intro x id h; simp [Ty.exp, AV.refsAll, AV.refs] at h
    | bool => intro x id h; simp [Ty.exp, AV.refsAll, AV.refs] at h
    | str => intro x id h; simp [Ty.exp, AV.refsAll, AV.refs] at h
    | slice e _ => intro x id h; simp [Ty.exp, AV.refsAll, AV.refs] at h
    | unit => intro x id h; simp [Ty.exp, AV.refsAll] at h
    | cpx => intro x id h; simp [Ty.exp, AV.refsAll, AV.refs] at h
    | fn f t ih => intro x id h; exact ih id (by simpa [Ty.exp, AV.refsAll, AV.refs] using h)
    | ref t _ => intro x id h; simp [Ty.exp, AV.refsAll, AV.refs] at h
    | pair t u ih1 ih2 =>
      intro x id h
      have : ∀ cs ds : List AV, AV.refsAll (cs ++ ds) = AV.refsAll cs ++ AV.refsAll ds := by
        intro cs ds
        induction cs with
        | nil => rfl
        | cons c r ih => simp [AV.refsAll, ih]
      rw [show (Ty.pair t u).exp x = t.exp x.1 ++ u.exp x.2 from rfl, this, List.mem_append] at h
      rcases h with h | h
      · exact ih1 id h
      · exact ih2 id h
  have app : ∀ cs ds : List AV, AV.refsAll (cs ++ ds) = AV.refsAll cs ++ AV.refsAll ds := by
    intro cs ds
    induction cs with
    | nil => rfl
    | cons c r ih => simp [AV.refsAll, ih]
  intro ms
  induction ms with
  | nil => intro ds n id h; simp [avCells, AV.refsAll] at h
  | cons m ms ih =>
    intro ds n id h
    cases ds with
    | nil => simp [avCells, AV.refsAll] at h
    | cons d ds =>
      obtain ⟨own, mt⟩ := m
      obtain ⟨t, x⟩ := d
      have gen : avCells n ((own, mt) :: ms) (⟨t, x⟩ :: ds) = (t.exp x ++ (avCells n ms ds).1, (avCells n ms ds).2.1, (avCells n ms ds).2.2.1, (avCells n ms ds).2.2.2) → id ∈ (avCells n ((own, mt) :: ms) (⟨t, x⟩ :: ds)).2.1.map (·.1) := by
        intro e
        rw [e] at h ⊢
        simp only [app, List.mem_append] at h
        exact ih id (h.resolve_left (exp0 id))
      cases own with
      | false => exact gen (by cases t <;> rfl)
      | true =>
        cases t with
        | slice e =>
          simp only [avCells, AV.refsAll, AV.refs, List.mem_append, List.mem_singleton, List.map_cons, List.mem_cons] at h ⊢
          rcases h with (rfl | h) | h
          · exact .inl rfl
          · cases h
          · exact .inr (ih id h)
        | _ => exact gen rfl
theorem avVals_refs : ∀ {ms : List Mode} {ds : List DV} {n : Nat} (id : Nat), id ∈ AV.refsAll (avVals n ms ds).1 → id ∈ (avVals n ms ds).2.map (·.1) := by
  intro ms
  induction ms with
  | nil => intro ds n id h; simp [avVals, AV.refsAll] at h
  | cons m ms ih =>
    intro ds n id h
    simp only [avVals, AV.refsAll, List.mem_append, List.map_append] at h ⊢
    rcases h with h | h
    · left
      refine avCells_refs id ?_
      cases hm : m.1 with
      | true => rw [hm] at h; simpa [AV.refs] using h
      | false =>
        rw [hm, cond_false] at h
        unfold oneAV at h
        split at h
        · rename_i v hv; rw [hv]; simpa [AV.refsAll] using h
        · simp [AV.refs] at h
    · exact .inr (ih id h)
theorem refsAll_resOf {vs : List AV} {id : Nat} (h : id ∈ (resOf vs).refs) : id ∈ AV.refsAll vs := by
  unfold resOf at h
  split at h
  · simpa [AV.refsAll] using h
  · simpa [AV.refs] using h
theorem resOf_rel {vs : List AV} {xs : List Value} (h : RAll w F g ob vs xs) : R w F g ob (resOf vs) (packV xs) := by
  unfold resOf
  split
  · rename_i v
    obtain ⟨x, s, rfl, h1, h2⟩ := h
    rw [show s = [] from h2]
    exact h1
  · rename_i hno
    have : packV xs = .tuple xs.toArray := by
      unfold packV
      split
      · rename_i x
        cases vs with
        | nil => cases (show [x] = [] from h)
        | cons v r =>
          obtain ⟨y, s, e, h1, h2⟩ := h
          cases e
          cases r with
          | nil => exact absurd rfl (hno v)
          | cons _ _ => obtain ⟨_, _, e, _⟩ := h2; cases e
      · rfl
    rw [this]
    exact ⟨xs.toArray, rfl, by simpa using h⟩
theorem freezeIds_val {H : Nat → Option Ob} : ∀ {ids : List Nat} {s : List (Nat × Option Ob)}, (freezeIds ids).val H = some s → IsFrz H s ∧ (∀ id ∈ s.map (·.1), id ∈ ids) ∧ ∀ id ∈ ids, id ∈ s.map (·.1) ∨ ∃ e l cm, H id = some (.row e l cm true)
  | [], s, h => by
    simp only [freezeIds, val_ret_some] at h
    subst h
    exact ⟨(fun p hp => nomatch hp), (fun p hp => nomatch hp), fun p hp => nomatch hp⟩
  | id :: r, s, h => by
    have more : ∀ (o : Option Ob) (s' : List (Nat × Option Ob)), (freezeIds r).val H = some s' → s = (id, o) :: s' → ((∃ e l cm frz, H id = some (.row e l cm frz) ∧ o = some (.row e l cm true)) ∨ ∃ cs, H id = some (.cells cs) ∧ o = none) → IsFrz H s ∧ (∀ i ∈ s.map (·.1), i ∈ id :: r) ∧ ∀ i ∈ id :: r, i ∈ s.map (·.1) ∨ ∃ e l cm, H i = some (.row e l cm true) := by
      intro o s' h1 e ho
      subst e
      obtain ⟨k1, k2, k3⟩ := freezeIds_val h1
      refine ⟨fun p hp => ?_, fun i hi => ?_, fun i hi => ?_⟩
      · rcases List.mem_cons.1 hp with rfl | hp
        · exact ho
        · exact k1 p hp
      · simp only [List.map_cons, List.mem_cons] at hi ⊢
        exact hi.imp_right (k2 i)
      · simp only [List.map_cons, List.mem_cons] at hi ⊢
        rcases hi with rfl | hi
        · exact .inl (.inl rfl)
        · exact (k3 i hi).imp_left .inr
    simp only [freezeIds, val_ask_some] at h
    split at h
    · rename_i e l cm frz ho
      simp only [val_bind_some, val_ret_some] at h
      obtain ⟨s', h1, rfl⟩ := h
      cases frz with
      | false => exact more _ s' h1 rfl (.inl ⟨e, l, cm, false, ho, rfl⟩)
      | true =>
        obtain ⟨k1, k2, k3⟩ := freezeIds_val h1
        refine ⟨k1, fun i hi => List.mem_cons_of_mem _ (k2 i hi), fun i hi => ?_⟩
        rcases List.mem_cons.1 hi with rfl | hi
        · exact .inr ⟨e, l, cm, ho⟩
        · exact k3 i hi
    · rename_i cs ho
      simp only [val_bind_some, val_ret_some] at h
      obtain ⟨s', h1, rfl⟩ := h
      exact more _ s' h1 rfl (.inr ⟨cs, ho, rfl⟩)
    · cases h
theorem setOb_mem {f : Nat → Option Ob} : ∀ {s : List (Nat × Option Ob)} {i : Nat}, i ∈ s.map (·.1) → setOb f s i = setOb noOb s i
  | (id, o) :: r, i, h => by
    simp only [setOb]
    by_cases hr : i ∈ r.map (·.1)
    · rw [setOb_mem hr]
      rw [show setOb (fun j => bif Nat.beq j id then o else noOb j) r i = setOb noOb r i from setOb_mem hr]
    · rw [setOb_not hr, setOb_not hr]
      have : i = id := by simpa [hr] using h
      subst this
      simp [Nat.beq_refl]
mutual
theorem R.shed : ∀ {v : AV} {x : Value}, R w F g ob v x → R w F g ob v.drop x
  | .top, _, _ => trivial
  | .int _ _, _, h => h
  | .bool _, _, h => h
  | .str _, _, h => h
  | .flt _, _, h => h
  | .cpx _ _, _, h => h
  | .nilp, _, h => h
  | .ptr _ _, _, h => h
  | .eptr _ _ _, _, h => h
  | .fptr _ _ _, _, _ => trivial
  | .nils, _, h => h
  | .sl _ _ _, _, h => h
  | .ow _, _, h => h
  | .fz _ _ _ _, _, h => by
    obtain ⟨⟨A, n, c, e1, _⟩, _⟩ := h
    exact ⟨A, n, c, (List.cons.inj e1).1⟩
  | .nilf, _, h => h
  | .any, _, h => h
  | .func _ _, _, h => h
  | .bnd _ _, _, h => h
  | .agg _, _, h => by
    obtain ⟨vs, h1, h2⟩ := h
    exact ⟨vs, h1, RAll.shed h2⟩
  | .tup _, _, h => h
theorem RAll.shed : ∀ {cs : List AV} {vs : List Value}, RAll w F g ob cs vs → RAll w F g ob (AV.dropAll cs) vs
  | [], _, h => h
  | _ :: _, _, h => by
    obtain ⟨v, s, h1, h2, h3⟩ := h
    exact ⟨v, s, h1, R.shed h2, RAll.shed h3⟩
end
mutual
theorem AV.drop_refs : ∀ {v : AV} {id : Nat}, id ∈ v.drop.refs → id ∈ v.refs
  | .top, _, h => h
  | .int _ _, _, h => h
  | .bool _, _, h => h
  | .str _, _, h => h
  | .flt _, _, h => h
  | .cpx _ _, _, h => h
  | .nilp, _, h => h
  | .ptr _ _, _, h => h
  | .eptr _ _ _, _, h => h
  | .fptr _ _ _, _, h => by simp [AV.drop, AV.refs] at h
  | .nils, _, h => h
  | .sl _ _ _, _, h => h
  | .ow _, _, h => h
  | .fz _ _ _ _, _, h => by simp [AV.drop, AV.refs] at h
  | .nilf, _, h => h
  | .any, _, h => h
  | .func _ _, _, h => h
  | .bnd _ _, _, h => h
  | .agg _, _, h => by
    have h' : _ ∈ AV.refsAll _ := h
    exact AV.dropAll_refs h'
  | .tup _, _, h => h
theorem AV.dropAll_refs : ∀ {cs : List AV} {id : Nat}, id ∈ AV.refsAll (AV.dropAll cs) → id ∈ AV.refsAll cs
  | [], _, h => h
  | v :: r, _, h => by
    simp only [AV.dropAll, AV.refsAll, List.mem_append] at h ⊢
    exact h.imp AV.drop_refs AV.dropAll_refs
end
/-- Behind a call: the rows that were handed over are gone, those that came back have names. -/
theorem Rel.back (h : Rel w F g mine σ a) {gone : List Nat} (hgone : ∀ id ∈ gone, ∃ o, σ.ob id = some o ∧ o.own) {F1 : Nat → Prop} (hF1 : ∀ b, F b → F1 b) (st : Step (mineOf w g gone) w F1 w' F') {Fb : Nat → Prop}
    (hFb1 : ∀ b, F b → Fb b) (hFb2 : ∀ b, Fb b → F b ∨ mineOf w g gone b) (hlow : ∀ b, Fb b → b < w'.heap.size) (hFb3 : ∀ b, Fb b → F' b)
    {n : Nat} {ms : List Mode} {dvs : List DV} {xs : List Value} (hh : Hand w' F' g' (mineOf w g gone) n ms dvs xs) {V : List AV} (hV : ∀ id, id ∈ AV.refsAll V → id ∈ AV.refsAll (avVals n ms dvs).1)
    (hval : RAll w' Fb g' (setOb noOb (avVals n ms dvs).2) V xs)
    (hrow : ∀ id e l cm, setOb noOb (avVals n ms dvs).2 id = some (.row e l cm false) → ∀ x vs, Rd w' F' e x vs → Rd w' Fb e x vs)
    (hrows : ∀ id o, setOb noOb (avVals n ms dvs).2 id = some o → ∃ e l cm, o = .row e l cm false)
    {d : Option Nat} (hd : ∀ e, d = some e → e < a.tmps.size) :
    Step mine w F w' Fb ∧ ∃ g2, Rel w' Fb g2 mine (({ v := resOf V, sets := gone.map (fun i => (i, none)) ++ (avVals n ms dvs).2, kills := (avVals n ms dvs).2.map (·.1) } : Upd).app σ d) (a.put d (packV xs)) ∧ Kept ((avVals n ms dvs).2.map (·.1)) g g2 σ.ob (({ v := resOf V, sets := gone.map (fun i => (i, none)) ++ (avVals n ms dvs).2, kills := (avVals n ms dvs).2.map (·.1) } : Upd).app σ d).ob := by
  generalize hS : (avVals n ms dvs).2 = S at *
  have hmine : ∀ b, mineOf w g gone b → mine b := by
    intro b hb
    rcases hb with ⟨id, hid, hb⟩ | hb
    · obtain ⟨o, ho, hown⟩ := hgone id hid
      exact (own_not_F h ho hown hb).2.1
    · exact h.up b hb
  have st' : Step mine w F w' Fb := ⟨st.os, st.tape, st.output, st.size, fun b hb hm => st.kept b hb fun hm' => hm (hmine b hm'), fun b hb => st.data b (hF1 b hb), hFb1, fun b hb => (hFb2 b hb).imp (fun x => x) (hmine b)⟩
  refine ⟨st', ?_⟩
  obtain ⟨g2, hg2a, hg2b⟩ : ∃ g2 : Nat → Loc, (∀ i, i ∈ S.map (·.1) → g2 i = g' i) ∧ ∀ i, i ∉ S.map (·.1) → g2 i = g i := by
    refine ⟨fun i => bif (S.map (·.1)).any (Nat.beq i) then g' i else g i, fun i hi => ?_, fun i hi => ?_⟩
    · simp only [any_beq.2 hi, cond_true]
    · simp only [any_beq_false.2 hi, cond_false]
  have hlen : ∀ id, id ∉ S.map (·.1) → ∀ m, lenOf (setOb (σ.kill (S.map (·.1))).ob (gone.map (fun i => (i, (none : Option Ob))) ++ S) id) = some m → lenOf (σ.ob id) = some m := by
    intro id hid m hm
    rw [setOb_append, setOb_not hid] at hm
    rcases setOb_at (σ.kill (S.map (·.1))).ob (gone.map (fun i => (i, (none : Option Ob)))) id with ⟨_, e⟩ | ⟨p, hp, _, e⟩
    · rw [e, lenOf_killOb] at hm; exact hm
    · obtain ⟨i, _, rfl⟩ := List.mem_map.1 hp
      rw [e] at hm; cases hm
  have hkept : Kept (S.map (·.1)) g g2 σ.ob (({ v := resOf V, sets := gone.map (fun i => (i, none)) ++ S, kills := S.map (·.1) } : Upd).app σ d).ob := by
    intro id hid
    refine ⟨hg2b id hid, fun m hm => ?_⟩
    rw [app_ob] at hm
    exact hlen id hid m hm
  refine ⟨g2, ?_, hkept⟩
  -- an old object that stays
  have old : ∀ ks id o, setOb (σ.kill ks).ob (gone.map (fun i => (i, (none : Option Ob))) ++ S) id = some o → id ∉ S.map (·.1) → id ∉ gone ∧ ∃ o1, σ.ob id = some o1 ∧ (o.own → o1.own) := by
    intro ks id o ho hid
    rw [setOb_append, setOb_not hid] at ho
    have hng : id ∉ gone := by
      intro hg
      have key : ∀ (l : List Nat) (f : Nat → Option Ob), id ∈ l → setOb f (l.map (fun i => (i, (none : Option Ob)))) id = none := by
        intro l
        induction l with
        | nil => intro f h; cases h
        | cons x r ih =>
          intro f hx
          by_cases hr : id ∈ r
          · exact ih _ hr
          · have : id = x := by simpa [hr] using hx
            subst this
            show setOb (fun j => bif Nat.beq j id then none else f j) (r.map _) id = none
            rw [setOb_not (by simpa using hr)]
            simp [Nat.beq_refl]
      rw [key gone _ hg] at ho
      cases ho
    refine ⟨hng, ?_⟩
    rw [setOb_not (by simpa using hng)] at ho
    exact own_of ho
  have new : ∀ ks id o, setOb (σ.kill ks).ob (gone.map (fun i => (i, (none : Option Ob))) ++ S) id = some o → id ∈ S.map (·.1) → setOb noOb S id = some o := by
    intro ks id o ho hid
    rw [setOb_append, setOb_mem hid] at ho
    exact ho
  have oldBlk : ∀ id o1 b, σ.ob id = some o1 → id ∉ gone → (g id).blk = some b → b < w.heap.size ∧ (o1.own → ¬ mineOf w g gone b) := by
    intro id o1 b ho hid hb
    have hlt := ob_blk h ho hb
    refine ⟨hlt, fun hown hm => ?_⟩
    rcases hm with ⟨id', hid', hb'⟩ | hm
    · obtain ⟨o', ho', hown'⟩ := hgone id' hid'
      have := h.uniq id id' o1 o' b ho ho' hown hown' hb hb'
      subst this
      exact hid hid'
    · omega
  refine h.upd st' _ d _ hd ?_ ?_ ?_ ?_ ?_ ?_ hlow ?_
  · intro id hid
    simp only [List.map_append, List.map_map, List.mem_append]
    exact .inr hid
  · intro id hid
    exact hg2b id hid
  · intro id hid m hm
    exact hlen id hid m hm
  · intro id o ho hid
    by_cases hS' : id ∈ S.map (·.1)
    · have ho' := new _ id o ho hS'
      obtain ⟨e, l, cm, rfl⟩ := hrows id o ho'
      have hO := hh.ob id (.row e l cm false) (by rw [hS]; exact ho')
      obtain ⟨q1, q2, q3, q4, q5⟩ := hO
      refine ⟨by rw [hg2a id hS']; exact q1, by rw [hg2a id hS']; exact q2, by rw [hg2a id hS']; exact q3, by rw [hg2a id hS']; exact q4, fun b hb => ?_⟩
      rw [hg2a id hS'] at hb ⊢
      obtain ⟨c, T, fr, r1, r2, r3, r4, r5, r6⟩ := q5 b hb
      exact ⟨c, T, fr, r1, r2, r3, (fun h => nomatch h), fun _ => ⟨hmine b (r5 rfl).1, fun hb' => (r5 rfl).2 (hFb3 b hb')⟩, fun i x hx => hrow id e l cm ho' _ _ (r6 i x hx)⟩
    · exfalso
      obtain ⟨hng, _⟩ := old _ id o ho hS'
      simp only [List.map_append, List.map_map, List.mem_append] at hid
      rcases hid with hid | hid
      · exact hng (by simpa using hid)
      · exact hS' hid
  · intro id o b ho hid hb
    simp only [List.map_append, List.map_map, List.mem_append, not_or] at hid
    have hng : id ∉ gone := by simpa using hid.1
    obtain ⟨hlt, hnm⟩ := oldBlk id o b ho hng hb
    refine ⟨?_, fun hown hFb => ?_⟩
    · by_cases hown : o.own
      · exact st.kept b hlt (hnm hown)
      · cases o with
        | cells _ => exact absurd trivial hown
        | row e l cm frz =>
          cases frz with
          | false => exact absurd rfl hown
          | true =>
            obtain ⟨_, _, _, _, k5⟩ := h.ob id _ ho
            obtain ⟨_, _, _, _, _, _, q4, _⟩ := k5 b hb
            exact st.data b (hF1 b (q4 rfl))
    · rcases hFb2 b hFb with hF | hm
      · exact (own_not_F h ho hown hb).1 hF
      · exact hnm hown hm
  · intro i j o p b hi hj ho hp hbi hbj
    by_cases ei : i ∈ S.map (·.1) <;> by_cases ej : j ∈ S.map (·.1)
    · rw [hg2a i ei] at hbi
      rw [hg2a j ej] at hbj
      exact hh.uniq i j o p b (by rw [hS]; exact new _ i o hi ei) (by rw [hS]; exact new _ j p hj ej) ho hp hbi hbj
    · exfalso
      have ho' := new _ i o hi ei
      obtain ⟨e, l, cm, rfl⟩ := hrows i o ho'
      obtain ⟨_, _, _, _, q5⟩ := hh.ob i (.row e l cm false) (by rw [hS]; exact ho')
      rw [hg2a i ei] at hbi
      obtain ⟨_, _, _, _, _, _, _, r5, _⟩ := q5 b hbi
      obtain ⟨hng, o1, ho1, hw1⟩ := old _ j p hj ej
      rw [hg2b j ej] at hbj
      exact (oldBlk j o1 b ho1 hng hbj).2 (hw1 hp) (r5 rfl).1
    · exfalso
      have hp' := new _ j p hj ej
      obtain ⟨e, l, cm, rfl⟩ := hrows j p hp'
      obtain ⟨_, _, _, _, q5⟩ := hh.ob j (.row e l cm false) (by rw [hS]; exact hp')
      rw [hg2a j ej] at hbj
      obtain ⟨_, _, _, _, _, _, _, r5, _⟩ := q5 b hbj
      obtain ⟨hng, o1, ho1, hw1⟩ := old _ i o hi ei
      rw [hg2b i ei] at hbi
      exact (oldBlk i o1 b ho1 hng hbi).2 (hw1 ho) (r5 rfl).1
    · obtain ⟨_, o1, ho1, hw1⟩ := old _ i o hi ei
      obtain ⟨_, p1, hp1, hw2⟩ := old _ j p hj ej
      rw [hg2b i ei] at hbi
      rw [hg2b j ej] at hbj
      exact h.uniq i j o1 p1 b ho1 hp1 (hw1 ho) (hw2 hp) hbi hbj
  · refine R.step (w := w') (F := Fb) (g := g') (ob := setOb noOb S) (fun _ _ => rfl) (fun _ hb => hb) (resOf_rel hval) fun id hid => ?_
    have hid' : id ∈ S.map (·.1) := by
      have := avVals_refs (ms := ms) (ds := dvs) (n := n) id (hV id (refsAll_resOf hid))
      rwa [hS] at this
    refine ⟨hg2a id hid', fun m hm => ?_⟩
    have hm' : lenOf (setOb (σ.kill (S.map (·.1))).ob (gone.map (fun i => (i, (none : Option Ob))) ++ S) id) = some m := hm
    rw [setOb_append, setOb_mem hid'] at hm'
    exact hm'
end Go.Proofs.YtdbenenonfldkaaDoor.PE
