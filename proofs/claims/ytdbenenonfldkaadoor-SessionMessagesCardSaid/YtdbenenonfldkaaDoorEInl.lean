/- A call that was run in place, told to the caller. -/
import Derived.Test.YtdbenenonfldkaaDoorECall4
import Derived.Test.YtdbenenonfldkaaDoorEOps6
namespace Go.Proofs.YtdbenenonfldkaaDoor.PE
set_option linter.unusedVariables false
open Go.RowKit
section
variable {w w' : World} {F F' : Nat → Prop} {g g' g2 : Nat → Loc} {ob ob' ob2 : Nat → Option Ob} {mine mine' : Nat → Prop} {σ : St} {a : Act}
mutual
theorem R.rename {ns : List (Nat × Nat)} : ∀ {v : AV} {x : Value}, R w F g ob v x → (∀ i ∈ v.refs, g2 (newName ns i) = g i ∧ ∀ n, lenOf (ob2 (newName ns i)) = some n → lenOf (ob i) = some n) → R w F g2 ob2 (v.rename ns) x
  | .top, _, _, _ => trivial
  | .int _ _, _, h, _ => h
  | .bool _, _, h, _ => h
  | .str _, _, h, _ => h
  | .flt _, _, h, _ => h
  | .cpx _ _, _, h, _ => h
  | .nilp, _, h, _ => h
  | .ptr id off, _, h, hg => by
    obtain ⟨b, h1, h2⟩ := h
    exact ⟨b, by rw [(hg id (by simp [AV.refs])).1]; exact h1, h2⟩
  | .eptr id i off, _, h, hg => by
    obtain ⟨b, h1, h2⟩ := h
    exact ⟨b, by rw [(hg id (by simp [AV.refs])).1]; exact h1, by rw [(hg id (by simp [AV.refs])).1]; exact h2⟩
  | .fptr t x off, _, h, _ => h
  | .nils, _, h, _ => h
  | .sl id off len, _, h, hg => by
    show SlAt (g2 (newName ns id)) off len _
    rw [(hg id (by simp [AV.refs])).1]; exact h
  | .ow id, _, h, hg => ⟨h.1, fun n hn => by
    rw [(hg id (by simp [AV.refs])).1]
    exact h.2 n ((hg id (by simp [AV.refs])).2 n hn)⟩
  | .fz e l full nn, _, h, _ => h
  | .nilf, _, h, _ => h
  | .any, _, h, _ => h
  | .func f cs, _, h, hg => by obtain ⟨vs, e, h⟩ := h; exact ⟨vs, e, RAll.rename h fun id hi => hg id (by simpa [AV.refs] using hi)⟩
  | .bnd f cs, _, h, hg => by obtain ⟨vs, e, h⟩ := h; exact ⟨vs, e, RAll.rename h fun id hi => hg id (by simpa [AV.refs] using hi)⟩
  | .agg cs, _, h, hg => by obtain ⟨vs, e, h⟩ := h; exact ⟨vs, e, RAll.rename h fun id hi => hg id (by simpa [AV.refs] using hi)⟩
  | .tup cs, _, h, hg => by obtain ⟨vs, e, h⟩ := h; exact ⟨vs, e, RAll.rename h fun id hi => hg id (by simpa [AV.refs] using hi)⟩
theorem RAll.rename {ns : List (Nat × Nat)} : ∀ {cs : List AV} {vs : List Value}, RAll w F g ob cs vs → (∀ i ∈ AV.refsAll cs, g2 (newName ns i) = g i ∧ ∀ n, lenOf (ob2 (newName ns i)) = some n → lenOf (ob i) = some n) → RAll w F g2 ob2 (AV.renameAll ns cs) vs
  | [], _, h, _ => h
  | a :: r, _, h, hg => by
    obtain ⟨v, s, e, h1, h2⟩ := h
    exact ⟨v, s, e, R.rename h1 fun id hi => hg id (by simp [AV.refsAll, hi]), RAll.rename h2 fun id hi => hg id (by simp [AV.refsAll, hi])⟩
end
theorem newName_mem {ns : List (Nat × Nat)} {i : Nat} (h : i ∈ ns.map (·.1)) : ∃ p ∈ ns, p.1 = i ∧ newName ns i = p.2 := by
  induction ns with
  | nil => cases h
  | cons p r ih =>
    unfold newName
    cases e : Nat.beq p.1 i with
    | true => exact ⟨p, by simp, Nat.eq_of_beq_eq_true e, rfl⟩
    | false =>
      simp only [List.map_cons, List.mem_cons] at h
      rcases h with h | h
      · rw [h] at e; simp [Nat.beq_refl] at e
      · obtain ⟨q, hq, h1, h2⟩ := ih h
        exact ⟨q, by simp [hq], h1, h2⟩
theorem newName_not {ns : List (Nat × Nat)} {i : Nat} (h : i ∉ ns.map (·.1)) : newName ns i = i := by
  induction ns with
  | nil => rfl
  | cons p r ih =>
    simp only [List.map_cons, List.mem_cons, not_or] at h
    unfold newName
    cases e : Nat.beq p.1 i with
    | true => exact absurd (Nat.eq_of_beq_eq_true e).symm h.1
    | false => exact ih h.2
theorem mem_dedup {i : Nat} : ∀ {l : List Nat}, i ∈ dedup l ↔ i ∈ l
  | [] => .rfl
  | x :: r => by
    unfold dedup
    cases h : r.any (Nat.beq x) with
    | true =>
      simp only [cond_true, List.mem_cons]
      rw [mem_dedup]
      constructor
      · exact .inr
      · rintro (rfl | h')
        · exact any_beq.1 h
        · exact h'
    | false =>
      simp only [cond_false, List.mem_cons]
      rw [mem_dedup]
theorem dedup_nodup : ∀ {l : List Nat}, (dedup l).Nodup
  | [] => .nil
  | x :: r => by
    unfold dedup
    cases h : r.any (Nat.beq x) with
    | true => exact dedup_nodup
    | false => exact List.nodup_cons.2 ⟨fun hm => any_beq_false.1 h (mem_dedup.1 hm), dedup_nodup⟩
theorem nameAll_fst : ∀ {l : List Nat} {nid : Nat}, (nameAll nid l).map (·.1) = l
  | [], _ => rfl
  | x :: r, nid => by simp [nameAll, nameAll_fst]
theorem nameAll_ge : ∀ {l : List Nat} {nid : Nat} {p : Nat × Nat}, p ∈ nameAll nid l → nid ≤ p.2
  | [], _, _, h => by cases h
  | x :: r, nid, p, h => by
    rcases List.mem_cons.1 h with rfl | h
    · exact Nat.le_refl _
    · have := nameAll_ge h; omega
theorem nameAll_inj : ∀ {l : List Nat} {nid : Nat} {p q : Nat × Nat}, p ∈ nameAll nid l → q ∈ nameAll nid l → p.2 = q.2 → p = q
  | [], _, _, _, h, _, _ => by cases h
  | x :: r, nid, p, q, hp, hq, e => by
    rcases List.mem_cons.1 hp with rfl | hp <;> rcases List.mem_cons.1 hq with rfl | hq
    · rfl
    · have := nameAll_ge hq; simp at e; omega
    · have := nameAll_ge hp; simp at e; omega
    · exact nameAll_inj hp hq e
theorem nameAll_mem {l : List Nat} {nid : Nat} {p : Nat × Nat} (h : p ∈ nameAll nid l) : p.1 ∈ l := by
  have : p.1 ∈ (nameAll nid l).map (·.1) := List.mem_map.2 ⟨p, h, rfl⟩
  rwa [nameAll_fst] at this
theorem nameAll_inj1 : ∀ {l : List Nat} (_ : l.Nodup) {nid : Nat} {p q : Nat × Nat}, p ∈ nameAll nid l → q ∈ nameAll nid l → p.1 = q.1 → p = q
  | [], _, _, _, _, h, _, _ => by cases h
  | x :: r, hl, nid, p, q, hp, hq, e => by
    obtain ⟨hx, hr⟩ := List.nodup_cons.1 hl
    rcases List.mem_cons.1 hp with rfl | hp <;> rcases List.mem_cons.1 hq with rfl | hq
    · rfl
    · have := nameAll_mem hq
      rw [← e] at this
      exact absurd this hx
    · have := nameAll_mem hp
      rw [e] at this
      exact absurd this hx
    · exact nameAll_inj1 hr hp hq e
theorem setOb_or' (ob : Nat → Option Ob) : ∀ (s : List (Nat × Option Ob)) (i : Nat), (i ∉ s.map (·.1) ∧ setOb ob s i = ob i) ∨ ∃ p ∈ s, p.1 = i ∧ setOb ob s i = p.2
  | [], i => .inl ⟨by simp, rfl⟩
  | (id, o) :: r, i => by
    rcases setOb_or' (fun i => bif Nat.beq i id then o else ob i) r i with ⟨h1, h2⟩ | ⟨p, hp, h1, h2⟩
    · by_cases e : i = id
      · subst e
        refine .inr ⟨(i, o), by simp, rfl, ?_⟩
        rw [setOb, setOb_not h1]
        simp [Nat.beq_refl]
      · refine .inl ⟨by simp [e]; simpa using h1, ?_⟩
        rw [setOb, h2]
        cases e' : Nat.beq i id
        · rfl
        · exact absurd (Nat.eq_of_beq_eq_true e') e
    · exact .inr ⟨p, by simp [hp], h1, by rw [setOb]; exact h2⟩
/-- What a call that is run in place may write: its own objects' blocks, and new ones. -/
def mineIn (w : World) (g : Nat → Loc) (ob : Nat → Option Ob) (ids : List Nat) (b : Nat) : Prop := (∃ i ∈ ids, ∃ o, ob i = some o ∧ o.own ∧ (g i).blk = some b) ∨ w.heap.size ≤ b
theorem lenOf_rename (ns : List (Nat × Nat)) (o : Option Ob) : lenOf (o.map (Ob.rename ns)) = lenOf o := by
  cases o with
  | none => rfl
  | some o => cases o <;> rfl
theorem own_blk {id : Nat} : ∀ {o : Ob}, ORel w F g ob mine id o → o.own → ∀ b, (g id).blk = some b → mine b ∧ ¬ F b ∧ b < w.heap.size
  | .cells cs, h, _, b, hb => by
    obtain ⟨b', c, T, fr, h1, h2, h3, h4, _⟩ := h
    rw [hb] at h1
    cases h1
    refine ⟨h2, h3, ?_⟩
    rcases Nat.lt_or_ge b w.heap.size with h' | h'
    · exact h'
    · rw [Array.getElem?_eq_none h'] at h4; cases h4
  | .row e l cm frz, h, ho, b, hb => by
    obtain ⟨c, T, fr, q1, q2, q3, q4, q5, q6⟩ := h.2.2.2.2 b hb
    have hf : frz = false := ho
    refine ⟨(q5 hf).1, (q5 hf).2, ?_⟩
    rcases Nat.lt_or_ge b w.heap.size with h' | h'
    · exact h'
    · rw [Array.getElem?_eq_none h'] at q1; cases q1
theorem frz_blk {id : Nat} {e : Ty} {l : List e.den} {cm : Nat} (h : ORel w F g ob mine id (.row e l cm true)) : ∀ b, (g id).blk = some b → F b := by
  intro b hb
  obtain ⟨c, T, fr, q1, q2, q3, q4, _⟩ := h.2.2.2.2 b hb
  exact q4 rfl
theorem ORel.restrict {id : Nat} (hl : ∀ i n, lenOf (ob2 i) = some n → lenOf (ob i) = some n) : ∀ {o : Ob}, ORel w F g ob mine id o → (o.own → ∀ b, (g id).blk = some b → mine' b) → ORel w F g ob2 mine' id o
  | .cells cs, h, hm => by
    obtain ⟨b, c, T, fr, h1, h2, h3, h4, h5, h6, h7⟩ := h
    exact ⟨b, c, T, fr, h1, hm trivial b h1, h3, h4, h5, RAll.step (fun _ _ => rfl) (fun _ h => h) h6 fun i _ => ⟨rfl, hl i⟩, h7⟩
  | .row e l cm frz, h, hm => by
    obtain ⟨h1, h2, h3, h4, h5⟩ := h
    refine ⟨h1, h2, h3, h4, fun b hb => ?_⟩
    obtain ⟨c, T, fr, q1, q2, q3, q4, q5, q6⟩ := h5 b hb
    exact ⟨c, T, fr, q1, q2, q3, q4, fun e => ⟨hm e b hb, (q5 e).2⟩, q6⟩
/-- What it hands back is told to the caller. -/
theorem inl_back (h : Rel w F g mine σ a) {ids : List Nat} {nid : Nat} {V : AV} {x : Value} {kl : List Nat} {ob1 : Nat → Option Ob} {d : Option Nat} (hd : ∀ e, d = some e → e < a.tmps.size)
    (hns : (inlUpd nid ids V ob1 kl).1.all (fun p => isRow (ob1 p.1) && !(ids.any (Nat.beq p.2))) = true)
    (st : Step (mineIn w g σ.ob ids) w F w' F') (hV : R w' F' g' ob1 V x) (hO : ∀ id o, ob1 id = some o → ORel w' F' g' ob1 (mineIn w g σ.ob ids) id o)
    (hU : ∀ i j o p b, ob1 i = some o → ob1 j = some p → o.own → p.own → (g' i).blk = some b → (g' j).blk = some b → i = j) (hl : ∀ b, F' b → b < w'.heap.size)
    (hk : Kept kl g g' (fun i => bif ids.any (Nat.beq i) then σ.ob i else none) ob1) :
    Step mine w F w' F' ∧ ∃ g2, Rel w' F' g2 mine ((inlUpd nid ids V ob1 kl).2.app σ d) (a.put d x) ∧ Kept (inlUpd nid ids V ob1 kl).2.kills g g2 σ.ob ((inlUpd nid ids V ob1 kl).2.app σ d).ob := by
  have hmine : ∀ b, mineIn w g σ.ob ids b → mine b := by
    rintro b (⟨i, hi, o, ho, hown, hb⟩ | hb)
    · exact (own_blk (h.ob i o ho) hown b hb).1
    · exact h.up b hb
  have hst : Step mine w F w' F' := ⟨st.os, st.tape, st.output, st.size, fun b hb hm => st.kept b hb fun hm' => hm (hmine b hm'), st.data, st.grow, fun b hb => (st.from_ b hb).imp id (hmine b)⟩
  refine ⟨hst, ?_⟩
  generalize hout : dedup ((V.refs ++ ids.flatMap fun i => refsOb (ob1 i)).filter fun i => !(ids.any (Nat.beq i))) = outs at hns
  have hnd : outs.Nodup := by rw [← hout]; exact dedup_nodup
  have hmem : ∀ i, i ∈ outs ↔ (i ∈ V.refs ∨ ∃ j ∈ ids, i ∈ refsOb (ob1 j)) ∧ i ∉ ids := by
    intro i
    rw [← hout, mem_dedup, List.mem_filter, List.mem_append, List.mem_flatMap]
    simp only [Bool.not_eq_true', any_beq_false]
  generalize hnm : nameAll nid outs = ns
  have hupd : inlUpd nid ids V ob1 kl = (ns, { v := V.rename ns, sets := ids.map (fun i => (i, (ob1 i).map (Ob.rename ns))) ++ ns.map (fun p => (p.2, ob1 p.1)), kills := ids.filter (fun i => kl.any (Nat.beq i)) ++ ns.map (·.2) }) := by
    unfold inlUpd
    dsimp only
    rw [hout, hnm]
  have hns' : ∀ p ∈ ns, (∃ e l cm frz, ob1 p.1 = some (.row e l cm frz)) ∧ p.2 ∉ ids ∧ p.1 ∉ ids := by
    intro p hp
    have h1 : ((inlUpd nid ids V ob1 kl).1.all (fun p => isRow (ob1 p.1) && !(ids.any (Nat.beq p.2)))) = true := hns
    rw [hupd] at h1
    have := List.all_eq_true.1 h1 p hp
    simp only [Bool.and_eq_true, Bool.not_eq_true', any_beq_false] at this
    refine ⟨?_, this.2, ((hmem p.1).1 (by rw [← hnm] at hp; exact nameAll_mem hp)).2⟩
    have h2 := this.1
    unfold isRow at h2
    split at h2
    · rename_i e l cm frz ho; exact ⟨e, l, cm, frz, ho⟩
    · cases h2
  have hinj2 : ∀ p ∈ ns, ∀ q ∈ ns, p.2 = q.2 → p = q := fun p hp q hq e => by rw [← hnm] at hp hq; exact nameAll_inj hp hq e
  have hinj1 : ∀ p ∈ ns, ∀ q ∈ ns, p.1 = q.1 → p = q := fun p hp q hq e => by rw [← hnm] at hp hq; exact nameAll_inj1 hnd hp hq e
  rw [hupd]
  -- the old name of each name
  let old : Nat → Option Nat := fun i => if i ∈ ids then some i else (ns.find? fun p => Nat.beq p.2 i).map (·.1)
  let g2 : Nat → Loc := fun i => match old i with | some j => g' j | none => g i
  have old_ids : ∀ i ∈ ids, old i = some i := fun i hi => if_pos hi
  have old_new : ∀ p ∈ ns, old p.2 = some p.1 := by
    intro p hp
    show (if p.2 ∈ ids then _ else _) = _
    rw [if_neg (hns' p hp).2.1]
    cases hf : ns.find? (fun q => Nat.beq q.2 p.2) with
    | none =>
      have := List.find?_eq_none.1 hf p hp
      simp [Nat.beq_refl] at this
    | some q =>
      have h1 := List.find?_some hf
      have h2 := List.mem_of_find?_eq_some hf
      rw [hinj2 q h2 p hp (Nat.eq_of_beq_eq_true h1)]
      rfl
  have old_or : ∀ i, (∃ j, old i = some j ∧ ((i ∈ ids ∧ j = i) ∨ ∃ p ∈ ns, p.2 = i ∧ p.1 = j)) ∨ (old i = none ∧ i ∉ ids ∧ i ∉ ns.map (·.2)) := by
    intro i
    by_cases hi : i ∈ ids
    · exact .inl ⟨i, old_ids i hi, .inl ⟨hi, rfl⟩⟩
    · by_cases hn : i ∈ ns.map (·.2)
      · obtain ⟨p, hp, rfl⟩ := List.mem_map.1 hn
        exact .inl ⟨p.1, old_new p hp, .inr ⟨p, hp, rfl, rfl⟩⟩
      · refine .inr ⟨?_, hi, hn⟩
        show (if i ∈ ids then _ else _) = _
        rw [if_neg hi]
        cases hf : ns.find? (fun q => Nat.beq q.2 i) with
        | none => rfl
        | some q =>
          have h1 := List.find?_some hf
          exact absurd (List.mem_map.2 ⟨q, List.mem_of_find?_eq_some hf, Nat.eq_of_beq_eq_true h1⟩) hn
  have g2_some : ∀ {i j}, old i = some j → g2 i = g' j := fun {i j} e => by show (match old i with | some j => g' j | none => g i) = _; rw [e]
  have g2_none : ∀ {i}, old i = none → g2 i = g i := fun {i} e => by show (match old i with | some j => g' j | none => g i) = _; rw [e]
  generalize hsets : ids.map (fun i => (i, (ob1 i).map (Ob.rename ns))) ++ ns.map (fun p => (p.2, ob1 p.1)) = sets
  generalize hkills : ids.filter (fun i => kl.any (Nat.beq i)) ++ ns.map (·.2) = kills
  have kmem : ∀ i, i ∈ kills ↔ (i ∈ ids ∧ i ∈ kl) ∨ i ∈ ns.map (·.2) := by
    intro i
    rw [← hkills, List.mem_append, List.mem_filter, any_beq]
  have smem : ∀ i, i ∈ sets.map (·.1) ↔ i ∈ ids ∨ i ∈ ns.map (·.2) := by
    intro i
    rw [← hsets, List.map_append, List.mem_append, List.map_map, List.map_map]
    have e1 : List.map ((fun p : Nat × Option Ob => p.1) ∘ fun i => (i, (ob1 i).map (Ob.rename ns))) ids = ids := List.map_id _
    rw [e1]
    exact .rfl
  -- the new objects
  have obN : ∀ i j, old i = some j → ∀ base : Nat → Option Ob, setOb base sets i = (if i ∈ ids then (ob1 j).map (Ob.rename ns) else ob1 j) := by
    intro i j hij base
    have hin : i ∈ sets.map (·.1) := by
      rcases old_or i with ⟨_, _, ⟨h1, _⟩ | ⟨p, hp, h1, _⟩⟩ | ⟨h1, _⟩
      · exact (smem i).2 (.inl h1)
      · exact (smem i).2 (.inr (List.mem_map.2 ⟨p, hp, h1⟩))
      · rw [hij] at h1; cases h1
    rcases setOb_or' base sets i with ⟨hn, _⟩ | ⟨p, hp, hpi, e⟩
    · exact absurd hin hn
    · rw [e]
      rw [← hsets, List.mem_append] at hp
      rcases hp with hp | hp
      · obtain ⟨m, hm, rfl⟩ := List.mem_map.1 hp
        have hpi : m = i := hpi
        subst hpi
        rw [old_ids m hm] at hij
        cases hij
        rw [if_pos hm]
      · obtain ⟨q, hq, rfl⟩ := List.mem_map.1 hp
        have hpi : q.2 = i := hpi
        subst hpi
        rw [old_new q hq] at hij
        cases hij
        rw [if_neg (hns' q hq).2.1]
  have lenN : ∀ i j, old i = some j → ∀ base : Nat → Option Ob, lenOf (setOb base sets i) = lenOf (ob1 j) := by
    intro i j hij base
    rw [obN i j hij base]
    split
    · exact lenOf_rename _ _
    · rfl
  have hg : ∀ i, i ∉ kills → g2 i = g i := by
    intro i hi
    rcases old_or i with ⟨j, e, ⟨h1, rfl⟩ | ⟨p, hp, h1, _⟩⟩ | ⟨e, _⟩
    · rw [g2_some e]
      exact (hk j fun hkl => hi ((kmem j).2 (.inl ⟨h1, hkl⟩))).1
    · exact absurd ((kmem i).2 (.inr (List.mem_map.2 ⟨p, hp, h1⟩))) hi
    · exact g2_none e
  have hlen : ∀ i, i ∉ kills → ∀ n, lenOf (setOb (σ.kill kills).ob sets i) = some n → lenOf (σ.ob i) = some n := by
    intro i hi n hn
    rcases old_or i with ⟨j, e, ⟨h1, rfl⟩ | ⟨p, hp, h1, _⟩⟩ | ⟨e, h1, h2⟩
    · rw [lenN j j e] at hn
      have := (hk j fun hkl => hi ((kmem j).2 (.inl ⟨h1, hkl⟩))).2 n hn
      simp only [any_beq.2 h1, cond_true] at this
      exact this
    · exact absurd ((kmem i).2 (.inr (List.mem_map.2 ⟨p, hp, h1⟩))) hi
    · rw [setOb_not (fun hs => by rcases (smem i).1 hs with h | h; exact h1 h; exact h2 h), lenOf_killOb] at hn
      exact hn
  -- names that stay, and names that are new
  have hnames : ∀ i, (i ∈ V.refs ∨ ∃ j ∈ ids, i ∈ refsOb (ob1 j)) → old (newName ns i) = some i := by
    intro i hi
    by_cases hid : i ∈ ids
    · have : i ∉ ns.map (·.1) := fun hm => by
        obtain ⟨p, hp, rfl⟩ := List.mem_map.1 hm
        exact (hns' p hp).2.2 hid
      rw [newName_not this]
      exact old_ids i hid
    · have ho : i ∈ outs := (hmem i).2 ⟨hi, hid⟩
      obtain ⟨p, hp, h1, h2⟩ := newName_mem (ns := ns) (i := i) (by rw [← hnm, nameAll_fst]; exact ho)
      rw [h2, old_new p hp, h1]
  have hren : ∀ i, (i ∈ V.refs ∨ ∃ j ∈ ids, i ∈ refsOb (ob1 j)) → g2 (newName ns i) = g' i ∧ ∀ n, lenOf (setOb (σ.kill kills).ob sets (newName ns i)) = some n → lenOf (ob1 i) = some n := fun i hi =>
    ⟨g2_some (hnames i hi), fun n hn => by rw [lenN _ _ (hnames i hi)] at hn; exact hn⟩
  have hORel : ∀ i j o, old i = some j → setOb (σ.kill kills).ob sets i = some o → (∃ o1, ob1 j = some o1 ∧ (o.own ↔ o1.own)) ∧ ORel w' F' g2 (setOb (σ.kill kills).ob sets) mine i o := by
    intro i j o hij ho
    have hgi : g2 i = g' j := g2_some hij
    have key : ∀ o1, ob1 j = some o1 → (o = o1 ∧ isRow (some o1) = true) ∨ (o = o1.rename ns ∧ j ∈ ids) → (o.own ↔ o1.own) ∧ ORel w' F' g2 (setOb (σ.kill kills).ob sets) mine i o := by
      intro o1 h1 hc
      have hO1 := hO j o1 h1
      cases o1 with
      | cells cs =>
        rcases hc with ⟨_, hc⟩ | ⟨rfl, hj⟩
        · cases hc
        · obtain ⟨b, c, T, fr, q1, q2, q3, q4, q5, q6, q7⟩ := hO1
          exact ⟨.rfl, b, c, T, fr, by rw [hgi]; exact q1, hmine b q2, q3, q4, q5, RAll.rename q6 fun m hm => hren m (.inr ⟨j, hj, by rw [h1]; exact hm⟩), by rw [hgi]; exact q7⟩
      | row e l cm frz =>
        have : o = .row e l cm frz := by rcases hc with ⟨rfl, _⟩ | ⟨rfl, _⟩ <;> rfl
        subst this
        obtain ⟨q1, q2, q3, q4, q5⟩ := hO1
        refine ⟨.rfl, by rw [hgi]; exact q1, by rw [hgi]; exact q2, by rw [hgi]; exact q3, by rw [hgi]; exact q4, fun b hb => ?_⟩
        rw [hgi] at hb ⊢
        obtain ⟨c, T, fr, r1, r2, r3, r4, r5, r6⟩ := q5 b hb
        exact ⟨c, T, fr, r1, r2, r3, r4, fun e => ⟨hmine b (r5 e).1, (r5 e).2⟩, r6⟩
    rw [obN i j hij] at ho
    rcases old_or i with ⟨j', e, ⟨h1, rfl⟩ | ⟨p, hp, h1, h2⟩⟩ | ⟨e, _⟩
    · rw [e] at hij
      cases hij
      rw [if_pos h1] at ho
      obtain ⟨o1, ho1, rfl⟩ := Option.map_eq_some_iff.1 ho
      obtain ⟨k1, k2⟩ := key o1 ho1 (.inr ⟨rfl, h1⟩)
      exact ⟨⟨o1, ho1, k1⟩, k2⟩
    · rw [e] at hij
      cases hij
      have hni : i ∉ ids := by rw [← h1]; exact (hns' p hp).2.1
      rw [if_neg hni] at ho
      obtain ⟨ee, l, cm, frz, hrow⟩ := (hns' p hp).1
      rw [h2] at hrow
      obtain ⟨k1, k2⟩ := key o ho (.inl ⟨rfl, by rw [ho] at hrow; cases hrow; rfl⟩)
      exact ⟨⟨o, ho, k1⟩, k2⟩
    · rw [e] at hij; cases hij
  refine ⟨g2, Rel.upd h hst { v := V.rename ns, sets := sets, kills := kills } d x hd ?_ hg hlen ?_ ?_ ?_ hl ?_, ?_⟩
  · intro i hi
    refine (smem i).2 ?_
    rcases (kmem i).1 hi with h | h
    · exact .inl h.1
    · exact .inr h
  · intro i o ho hi
    rcases old_or i with ⟨j, e, _⟩ | ⟨e, h1, h2⟩
    · exact (hORel i j o e ho).2
    · rcases (smem i).1 hi with h | h
      · exact absurd h h1
      · exact absurd h h2
  · intro i o b ho hi hb
    have hni : i ∉ ids := fun h => hi ((smem i).2 (.inl h))
    have hown : o.own → b < w.heap.size ∧ ¬ mineIn w g σ.ob ids b ∧ ¬ F b := by
      intro hown
      obtain ⟨k1, k2, k3⟩ := own_blk (h.ob i o ho) hown b hb
      refine ⟨k3, ?_, k2⟩
      rintro (⟨j, hj, p, hp, hpo, hbj⟩ | hge)
      · have := h.uniq i j o p b ho hp hown hpo hb hbj
        subst this
        exact hni hj
      · omega
    refine ⟨?_, fun ho' hF => ?_⟩
    · cases o with
      | cells cs =>
        obtain ⟨k1, k2, _⟩ := hown trivial
        exact st.kept b k1 k2
      | row e l cm frz =>
        cases frz with
        | false =>
          obtain ⟨k1, k2, _⟩ := hown rfl
          exact st.kept b k1 k2
        | true => exact st.data b (frz_blk (h.ob i _ ho) b hb)
    · obtain ⟨_, k2, k3⟩ := hown ho'
      rcases st.from_ b hF with h | h
      · exact k3 h
      · exact k2 h
  · intro i j o p b hi hj ho hp hbi hbj
    have other : ∀ i o, old i = none → setOb (σ.kill kills).ob sets i = some o → o.own → (g2 i).blk = some b → ∃ o1, σ.ob i = some o1 ∧ o1.own ∧ (g i).blk = some b ∧ i ∉ ids := by
      intro i o e ho hown hb
      rcases old_or i with ⟨j, e', _⟩ | ⟨_, h1, h2⟩
      · rw [e] at e'; cases e'
      · rw [setOb_not (fun hs => by rcases (smem i).1 hs with h | h; exact h1 h; exact h2 h)] at ho
        obtain ⟨o1, k1, k2⟩ := own_of ho
        exact ⟨o1, k1, k2 hown, by rw [← g2_none e]; exact hb, h1⟩
    have inner : ∀ i j o, old i = some j → setOb (σ.kill kills).ob sets i = some o → o.own → (g2 i).blk = some b → mineIn w g σ.ob ids b := by
      intro i j o e ho hown hb
      obtain ⟨⟨o1, k1, k2⟩, _⟩ := hORel i j o e ho
      rw [g2_some e] at hb
      exact (own_blk (hO j o1 k1) (k2.1 hown) b hb).1
    have apart : ∀ i o, old i = none → setOb (σ.kill kills).ob sets i = some o → o.own → (g2 i).blk = some b → ¬ mineIn w g σ.ob ids b := by
      intro i o e ho hown hb
      obtain ⟨o1, k1, k2, k3, k4⟩ := other i o e ho hown hb
      obtain ⟨_, _, hlt⟩ := own_blk (h.ob i o1 k1) k2 b k3
      rintro (⟨m, hm, q, hq, hqo, hbm⟩ | hge)
      · have := h.uniq i m o1 q b k1 hq k2 hqo k3 hbm
        subst this
        exact k4 hm
      · omega
    rcases old_or i with ⟨i', ei, hi'⟩ | ⟨ei, _⟩ <;> rcases old_or j with ⟨j', ej, hj'⟩ | ⟨ej, _⟩
    · obtain ⟨⟨o1, k1, k2⟩, _⟩ := hORel i i' o ei hi
      obtain ⟨⟨p1, q1, q2⟩, _⟩ := hORel j j' p ej hj
      rw [g2_some ei] at hbi
      rw [g2_some ej] at hbj
      have := hU i' j' o1 p1 b k1 q1 (k2.1 ho) (q2.1 hp) hbi hbj
      subst this
      rcases hi' with ⟨h1, rfl⟩ | ⟨p', hp', h1, h2⟩ <;> rcases hj' with ⟨h3, h4⟩ | ⟨q', hq', h3, h4⟩
      · exact h4
      · exact absurd h1 (h4 ▸ (hns' q' hq').2.2)
      · exact absurd (h4 ▸ h3) (h2 ▸ (hns' p' hp').2.2)
      · rw [← h1, ← h3, hinj1 p' hp' q' hq' (h2.trans h4.symm)]
    · exact absurd (inner i i' o ei hi ho hbi) (apart j p ej hj hp hbj)
    · exact absurd (inner j j' p ej hj hp hbj) (apart i o ei hi ho hbi)
    · obtain ⟨o1, k1, k2, k3, _⟩ := other i o ei hi ho hbi
      obtain ⟨p1, q1, q2, q3, _⟩ := other j p ej hj hp hbj
      exact h.uniq i j o1 p1 b k1 q1 k2 q2 k3 q3
  · exact R.rename hV fun i hi => hren i (.inl hi)
  · intro i hi
    refine ⟨hg i hi, fun n hn => ?_⟩
    rw [app_ob] at hn
    exact hlen i hi n hn
end
end Go.Proofs.YtdbenenonfldkaaDoor.PE
