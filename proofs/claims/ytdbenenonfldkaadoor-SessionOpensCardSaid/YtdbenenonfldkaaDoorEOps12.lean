/- Appending: the whole operation. -/
import Derived.Test.YtdbenenonfldkaaDoorEOps11
namespace Go.Proofs.YtdbenenonfldkaaDoor.PE
set_option linter.unusedVariables false
open Go.RowKit
variable {P : Program} {w w' : World} {F F' : Nat → Prop} {g g' : Nat → Loc} {mine : Nat → Prop} {σ : St} {a : Act}
mutual
theorem AV.kill_id (ids : List Nat) : ∀ v : AV, (∀ i ∈ v.refs, i ∉ ids) → v.kill ids = v
  | .top, _ => rfl
  | .int _ _, _ => rfl
  | .bool _, _ => rfl
  | .str _, _ => rfl
  | .flt _, _ => rfl
  | .cpx _ _, _ => rfl
  | .nilp, _ => rfl
  | .ptr id off, h => by simp only [AV.kill]; rw [any_beq_false.2 (h id (by simp [AV.refs]))]; rfl
  | .eptr id i off, h => by simp only [AV.kill]; rw [any_beq_false.2 (h id (by simp [AV.refs]))]; rfl
  | .fptr _ _ _, _ => rfl
  | .nils, _ => rfl
  | .sl id off len, h => by simp only [AV.kill]; rw [any_beq_false.2 (h id (by simp [AV.refs]))]; rfl
  | .ow id, h => by simp only [AV.kill]; rw [any_beq_false.2 (h id (by simp [AV.refs]))]; rfl
  | .fz _ _ _ _, _ => rfl
  | .nilf, _ => rfl
  | .any, _ => rfl
  | .func f cs, h => by simp only [AV.kill]; rw [AV.killAll_id ids cs (by simpa [AV.refs] using h)]
  | .bnd f cs, h => by simp only [AV.kill]; rw [AV.killAll_id ids cs (by simpa [AV.refs] using h)]
  | .agg cs, h => by simp only [AV.kill]; rw [AV.killAll_id ids cs (by simpa [AV.refs] using h)]
  | .tup cs, h => by simp only [AV.kill]; rw [AV.killAll_id ids cs (by simpa [AV.refs] using h)]
theorem AV.killAll_id (ids : List Nat) : ∀ vs : List AV, (∀ i ∈ AV.refsAll vs, i ∉ ids) → AV.killAll ids vs = vs
  | [], _ => rfl
  | v :: r, h => by
    simp only [AV.killAll]
    rw [AV.kill_id ids v fun i hi => h i (by simp [AV.refsAll, hi]), AV.killAll_id ids r fun i hi => h i (by simp [AV.refsAll, hi])]
end
theorem AV.kill_kill (ids : List Nat) (v : AV) : (v.kill ids).kill ids = v.kill ids := AV.kill_id ids _ fun i hi => (refs_kill ids v i hi).2
theorem AV.killAll_kill (ids : List Nat) (cs : List AV) : AV.killAll ids (AV.killAll ids cs) = AV.killAll ids cs := AV.killAll_id ids _ fun i hi => (refsAll_kill ids cs i hi).2
theorem Ob.kill_kill (ids : List Nat) (o : Option Ob) : (o.map (Ob.kill ids)).map (Ob.kill ids) = o.map (Ob.kill ids) := by
  cases o with
  | none => rfl
  | some o => cases o with
    | cells cs => simp only [Option.map_some, Ob.kill, AV.killAll_kill]
    | row e l cm frz => rfl
/-- A row gets a new name; under its old one nothing is known of it. -/
theorem Rel.move (h : Rel w F g mine σ a) {id nid : Nat} (hne : id ≠ nid) {e : Ty} {l : List e.den} {cm : Nat} (ho : σ.ob id = some (.row e l cm false)) :
    ∃ g', g' nid = g id ∧ (∀ i, i ≠ nid → g' i = g i) ∧ Rel w F g' mine (({ v := .top, sets := [(id, none), (nid, some (.row e l cm false))], kills := [nid] } : Upd).app σ none) a := by
  obtain ⟨g', hg1, hg2⟩ : ∃ g' : Nat → Loc, g' nid = g id ∧ ∀ i, i ≠ nid → g' i = g i := ⟨fun i => if i = nid then g id else g i, if_pos rfl, fun i hi => if_neg hi⟩
  refine ⟨g', hg1, hg2, ?_⟩
  have eob : ∀ i, setOb (σ.kill [nid]).ob [(id, none), (nid, some (.row e l cm false))] i = if i = nid then some (.row e l cm false) else if i = id then none else (σ.kill [nid]).ob i := by
    intro i
    show (bif Nat.beq i nid then _ else bif Nat.beq i id then _ else _) = _
    by_cases e1 : i = nid
    · subst e1; rw [Nat.beq_refl, if_pos rfl]; rfl
    · rw [if_neg e1]
      have : Nat.beq i nid = false := by
        cases hb : Nat.beq i nid
        · rfl
        · exact absurd (Nat.eq_of_beq_eq_true hb) e1
      rw [this, cond_false]
      by_cases e2 : i = id
      · subst e2; rw [Nat.beq_refl, if_pos rfl]; rfl
      · rw [if_neg e2]
        have : Nat.beq i id = false := by
          cases hb : Nat.beq i id
          · rfl
          · exact absurd (Nat.eq_of_beq_eq_true hb) e2
        rw [this]; rfl
  have hl : ∀ i, i ∉ [nid] → ∀ n, lenOf (setOb (σ.kill [nid]).ob [(id, none), (nid, some (.row e l cm false))] i) = some n → lenOf (σ.ob i) = some n := by
    intro i hi n hn
    rw [eob, if_neg (by simpa using hi)] at hn
    split at hn
    · cases hn
    · rw [lenOf_killOb] at hn; exact hn
  have := h.upd (Step.refl _ _ _) { v := .top, sets := [(id, none), (nid, some (.row e l cm false))], kills := [nid] } none undef (fun _ h => nomatch h) (fun i hi => by simp at hi; simp [hi]) (g' := g') (fun i hi => hg2 i (by simpa using hi)) hl (fun i o' h1 h2 => ?_) (fun i o' b h1 h2 h3 => ⟨rfl, fun h4 => (own_not_F h h1 h4 h3).1⟩) (fun i j p q b hp hq hop hoq hi hj => ?_) h.low trivial
  · exact this
  · rw [eob] at h1
    by_cases e1 : i = nid
    · subst e1
      rw [if_pos rfl] at h1; cases h1
      obtain ⟨k1, k2, k3, k4, k5⟩ := h.ob id _ ho
      exact ⟨by rw [hg1]; exact k1, by rw [hg1]; exact k2, by rw [hg1]; exact k3, by rw [hg1]; exact k4, fun b hb => by rw [hg1] at hb ⊢; exact k5 b hb⟩
    · rw [if_neg e1] at h1
      have e2 : i = id := by simpa [e1] using h2
      rw [if_pos e2] at h1
      cases h1
  · rw [eob] at hp hq
    have own : ∀ k (r : Ob), (if k = nid then some (Ob.row e l cm false) else if k = id then none else (σ.kill [nid]).ob k) = some r → r.own → (g' k).blk = some b → ∃ k1 r1, σ.ob k1 = some r1 ∧ r1.own ∧ (g k1).blk = some b ∧ ((k = nid ∧ k1 = id) ∨ (k ≠ nid ∧ k ≠ id ∧ k1 = k)) := by
      intro k r hr hown hb
      by_cases e1 : k = nid
      · subst e1
        rw [hg1] at hb
        exact ⟨id, _, ho, rfl, hb, .inl ⟨rfl, rfl⟩⟩
      · rw [if_neg e1] at hr
        by_cases e2 : k = id
        · rw [if_pos e2] at hr; cases hr
        · rw [if_neg e2] at hr
          obtain ⟨r1, hr1, ho1⟩ := own_of hr
          rw [hg2 k e1] at hb
          exact ⟨k, r1, hr1, ho1 hown, hb, .inr ⟨e1, e2, rfl⟩⟩
    obtain ⟨i1, p1, a1, a2, a3, a4⟩ := own i p hp hop hi
    obtain ⟨j1, q1, b1, b2, b3, b4⟩ := own j q hq hoq hj
    have := h.uniq i1 j1 p1 q1 b a1 b1 a2 b2 a3 b3
    rcases a4 with ⟨rfl, rfl⟩ | ⟨_, c2, rfl⟩ <;> rcases b4 with ⟨rfl, rfl⟩ | ⟨_, d2, rfl⟩
    · rfl
    · exact absurd this.symm d2
    · exact absurd this c2
    · exact this
theorem elems_refs {e : Ty} {v : AV} {H H' : Nat → Option Ob} (hH : ∀ i ∈ v.refs, isRow (H i) = true → H' i = H i) {vs : List e.den} (hq : (Q.elems e v).val H = some vs) : (Q.elems e v).val H' = some vs := by
  have key : ∀ id, id ∈ v.refs → (∃ G : Option Ob → Q (List e.den), Q.elems e v = .ask id G ∧ (∀ o, isRow o = false → ∀ K, (G o).val K = none) ∧ ∀ o K K', (G o).val K = (G o).val K') → (Q.elems e v).val H' = some vs := by
    rintro id hid ⟨G, hG, h1, h3⟩
    rw [hG] at hq ⊢
    have hq' : (G (H id)).val H = some vs := hq
    show (G (H' id)).val H' = some vs
    cases hr : isRow (H id) with
    | false => rw [h1 _ hr] at hq'; cases hq'
    | true => rw [hH id hid hr, h3 _ H' H]; exact hq'
  cases v with
  | sl id off len =>
    refine key id (by simp [AV.refs]) ⟨_, rfl, fun o ho K => ?_, fun o K K' => ?_⟩
    · cases o with
      | none => rfl
      | some o => cases o with
        | cells cs => rfl
        | row e' l cm frz => cases ho
    · cases o with
      | none => rfl
      | some o => cases o with
        | cells cs => rfl
        | row e' l cm frz => simp only []; split <;> rfl
  | ow id =>
    refine key id (by simp [AV.refs]) ⟨_, rfl, fun o ho K => ?_, fun o K K' => ?_⟩
    · cases o with
      | none => rfl
      | some o => cases o with
        | cells cs => rfl
        | row e' l cm frz => cases ho
    · cases o with
      | none => rfl
      | some o => cases o with
        | cells cs => rfl
        | row e' l cm frz => simp only []; split <;> rfl
  | nils => exact hq
  | fz e' l full nn =>
    simp only [Q.elems] at hq ⊢
    split at hq
    · rename_i h _; rw [val_ret_some] at hq ⊢; exact hq
    · cases hq
  | _ => cases hq
theorem src_refs {e : Ty} {u : TypeId} {v : AV} {H H' : Nat → Option Ob} (hH : ∀ i ∈ v.refs, isRow (H i) = true → H' i = H i) {vs : List e.den} (hq : (Q.src P e u v).val H = some vs) : (Q.src P e u v).val H' = some vs := by
  unfold Q.src at hq ⊢
  split at hq
  · split at hq
    · rw [val_ret_some] at hq ⊢; exact hq
    · cases hq
  · exact elems_refs hH hq
  · cases hq
theorem append_row (h : Rel w F g mine σ a) {id : Nat} {e : Ty} {l vs : List e.den} {cm : Nat} {t u ty el : TypeId} (ht : elemTy P t = some (el, e)) (ho : σ.ob id = some (.row e l cm false)) {n : Nat} (hn : n ≤ l.length) {x y : Value}
    (hs : SlAt (g id) 0 n x) {v : AV} (hv : R w F g σ.ob v y) (hq : (Q.src P e u v).val σ.ob = some vs) (hroom : ((n + vs.length : Nat) : Int) * (P.bytesOf el : Int) ≤ room) (h63 : n + vs.length ≤ 9223372036854775807) {d : Option Nat} (hd : ∀ e, d = some e → e < a.tmps.size) :
    Good w F g mine σ a ((do pure (Next.value (← Builtin.append_ #[t, u] ty #[x, y])) : Sem Next).run P w) { v := .ow id, sets := [(id, some (.row e (l.take n ++ vs) (max (max cm l.length) (n + vs.length)) false))], kills := [id] } d := by
  obtain ⟨new, du, hu, hdu, hlen, hnew, hels⟩ := src_sound h hv hq
  have hones := hels.ones (elemTy_spec ht).2.choose_spec.choose_spec.choose_spec.2.2.2.2.2.1
  obtain ⟨A, rfl, s1, s2, s3⟩ := hs
  simp only [Nat.sub_zero, Nat.zero_mul] at *
  obtain ⟨k1, k2, kc, k4, k5⟩ := h.ob id _ ho
  have hl0 : (l.take n ++ vs).length = n + vs.length := by simp; omega
  obtain ⟨hut, dd, i, z, hdd, hi, hz, hzs, hcz, hc1, his, _⟩ := elemTy_spec ht
  by_cases hfit : n + vs.length ≤ (g id).cap
  · -- there is room
    cases hb : (g id).blk with
    | none =>
      have h0 := k4 hb
      have hn0 : n = 0 := by omega
      have hv0 : vs = [] := List.length_eq_zero_iff.1 (by omega)
      subst hn0; subst hv0
      have hcm : max (max cm l.length) (0 + ([] : List e.den).length) = 0 := by simp only [List.length_nil]; omega
      rw [hcm, s3 hb, h0]
      obtain ⟨g', hR, hK⟩ := h.virt id e (.ow id) (.slice none 0 0) d hd (fun g' ob' e1 e2 => ⟨⟨_, _, _, rfl⟩, fun m hm => by rw [e2] at hm; cases hm; rw [e1]; exact ⟨none, rfl, by simp, (fun b hb => nomatch hb), fun _ => rfl⟩⟩)
      have hrun := run_fits (ty := ty) (P := P) (w := w) (A := none) (n := 0) (cap := 0) ht hu hdu hlen (by simp) (hnew w rfl) (w1 := w) (fun _ h => nomatch h) (fun _ => rfl)
      exact ⟨_, _, w, F, g', bind_value hrun, .inl rfl, Step.refl _ _ _, hR, hK⟩
    | some b =>
      obtain ⟨c, T, fr, q1, q2, q3, q4⟩ := els_of_el h ho hb
      have hold := q4 n hn
      have hcap : n * e.cells ≤ c.size := by rw [q3]; exact Nat.mul_le_mul_right _ (by omega)
      have hsz : n * e.cells + new.toList.length ≤ c.size := by rw [hels.1, q3, ← Nat.add_mul]; exact Nat.mul_le_mul_right _ hfit
      have hw1 : ∃ w1, w1 = putBlk w b (.cells (putVals c (n * e.cells) new.toList) T fr) := ⟨_, rfl⟩
      obtain ⟨w1, hw1⟩ := hw1
      have hrun : (Builtin.append_ #[t, u] ty #[.slice A n (g id).cap, y]).run P w = .ok (.slice A (n + vs.length) (g id).cap) w1 := by
        refine run_fits ht hu hdu hlen hfit (hnew w rfl) (fun ad had => ?_) (fun hA => ?_)
        · by_cases hc0 : (g id).cap = 0
          · have : new.toList = [] := List.length_eq_zero_iff.1 (by rw [hels.1, show vs.length = 0 from (by omega), Nat.zero_mul])
            rw [this] at hw1 ⊢
            rw [putVals_nil, putBlk_id q1] at hw1
            rw [hw1]; rfl
          · have := s2 b hb hc0
            rw [had] at this
            cases this
            rw [add_addr, Nat.zero_add, hw1]
            have := run_storeCells' (P := P) (b := b) (off := n * e.cells) new.toList 0 c w q1 q2.of (by simpa using hsz) hones
            simpa using this
        · by_cases hc0 : (g id).cap = 0
          · have : new.toList = [] := List.length_eq_zero_iff.1 (by rw [hels.1, show vs.length = 0 from (by omega), Nat.zero_mul])
            rw [this, putVals_nil, putBlk_id q1] at hw1
            exact hw1
          · rw [s2 b hb hc0] at hA; cases hA
      obtain ⟨hnF, hmine, _⟩ := own_not_F h ho rfl hb
      obtain ⟨st, hR, hK⟩ := h.write ho rfl (o' := .row e (l.take n ++ vs) (max (max cm l.length) (n + vs.length)) false) rfl hb q1 (c' := putVals c (n * e.cells) new.toList) [id] (.inr rfl) (.ow id) (.slice A (n + vs.length) (g id).cap) d hd
        (fun ob' e1 e2 => ⟨k1, by rw [hl0]; exact hfit, by omega, k4, fun b' hb' => by
          rw [hb] at hb'; cases hb'
          refine ⟨_, T, fr, putBlk_same q1, by rw [putVals_size hsz]; exact q3, by rw [putVals_size hsz]; exact q2, (fun h => nomatch h), fun _ => ⟨hmine, hnF⟩, fun j z hz => ?_⟩
          have := els_append hold hels (c.toList.drop (n * e.cells + new.toList.length)) j z hz
          have hcut : cut (putVals c (n * e.cells) new.toList) (j * e.cells) e.cells = ((c.toList.take (n * e.cells) ++ new.toList ++ c.toList.drop (n * e.cells + new.toList.length)).drop (j * e.cells)).take e.cells := by unfold putVals; rw [cut_toArray]
          rw [hcut]
          exact this.step (fun k hk => putBlk_other (fun e => hnF (by rw [← e]; exact hk))) fun _ hk => hk⟩)
        (fun ob' e1 e2 => ⟨⟨_, _, _, rfl⟩, fun m hm => by
          rw [e2] at hm
          simp only [lenOf, Option.some.injEq] at hm
          subst hm
          rw [hl0]
          exact ⟨A, rfl, by omega, fun b' hb' hc0 => by rw [Nat.zero_mul]; exact s2 b' hb' (by omega), s3⟩⟩)
      exact ⟨_, _, w1, F, g, bind_value hrun, .inl rfl, by rw [hw1]; exact st, by rw [hw1]; exact hR, hK⟩
  · -- a new row
    have hgr : (g id).cap < n + vs.length := by omega
    have hold : ∃ old : Array Value, Els w F e (l.take n) old.toList ∧ ∀ w2 : World, w2.heap = w.heap → (Builtin.firstCells e.cells n (.slice A n (g id).cap)).run P w2 = .ok old w2 := by
      cases hb : (g id).blk with
      | none =>
        have h0 := k4 hb
        have hn0 : n = 0 := by omega
        subst hn0
        rw [s3 hb]
        exact ⟨#[], ⟨by simp, fun i y hy => by simp at hy⟩, fun _ _ => rfl⟩
      | some b =>
        obtain ⟨c, T, fr, q1, q2, q3, q4⟩ := els_of_el h ho hb
        refine ⟨(cut c 0 (n * e.cells)).toArray, by have := q4 n hn; simpa [cut] using this, fun w2 hw2 => ?_⟩
        by_cases hc0 : (g id).cap = 0
        · have hn0 : n = 0 := by omega
          subst hn0
          cases A with
          | none => simp [Builtin.firstCells, cut]
          | some ad => simp [Builtin.firstCells, loadCells, loadCellsFrom, cut]
        · rw [s2 b hb hc0]
          simp only [Builtin.firstCells]
          have hcap : n * e.cells ≤ c.size := by rw [q3]; exact Nat.mul_le_mul_right _ (by omega)
          exact run_loadCells' (w := w2) (by rw [hw2]; exact q1) (by omega)
    obtain ⟨old, hold1, hold2⟩ := hold
    obtain ⟨cap', rest, w1, c1, c2, c3, c4⟩ := run_grow (ty := ty) ht hu hdu hlen hgr hroom hold2 hnew h63
    refine Good.row h hd (l := l.take n ++ vs) (cap := cap') (bind_value (by rw [hl0]; exact c3)) c4 ?_ (by rw [hl0]; exact c1) (nofr_zero _) (by omega) (fun j z hz => ?_)
    · simp only [Array.size_append, c2]
      have e1 : old.size = n * e.cells := by have := hold1.1; rw [Array.length_toList, List.length_take, Nat.min_eq_left hn] at this; exact this
      have e2 : new.size = vs.length * e.cells := by have := hels.1; rw [Array.length_toList] at this; exact this
      rw [e1, e2, ← Nat.add_mul, ← Nat.add_mul]
      congr 1
      omega
    · have := els_append hold1 hels rest.toList j z hz
      have hcut : cut (old ++ new ++ rest) (j * e.cells) e.cells = ((old.toList ++ new.toList ++ rest.toList).drop (j * e.cells)).take e.cells := by unfold cut; simp
      rw [hcut]
      exact this
/-- Behind nil. -/
theorem append_nil (h : Rel w F g mine σ a) {nid : Nat} {e : Ty} {vs : List e.den} {t u ty el : TypeId} (ht : elemTy P t = some (el, e)) {y : Value}
    {v : AV} (hv : R w F g σ.ob v y) (hq : (Q.src P e u v).val σ.ob = some vs) (hroom : ((0 + vs.length : Nat) : Int) * (P.bytesOf el : Int) ≤ room) (h63 : 0 + vs.length ≤ 9223372036854775807) {d : Option Nat} (hd : ∀ e, d = some e → e < a.tmps.size) :
    Good w F g mine σ a ((do pure (Next.value (← Builtin.append_ #[t, u] ty #[.slice none 0 0, y])) : Sem Next).run P w) { v := .ow nid, sets := [(nid, some (.row e ([] ++ vs) (max 0 (0 + vs.length)) false))], kills := [nid] } d := by
  obtain ⟨new, du, hu, hdu, hlen, hnew, hels⟩ := src_sound h hv hq
  by_cases hv0 : vs = []
  · subst hv0
    obtain ⟨g', hR, hK⟩ := h.virt nid e (.ow nid) (.slice none 0 0) d hd (fun g' ob' e1 e2 => ⟨⟨_, _, _, rfl⟩, fun m hm => by rw [e2] at hm; cases hm; rw [e1]; exact ⟨none, rfl, by simp, (fun b hb => nomatch hb), fun _ => rfl⟩⟩)
    have hrun := run_fits (ty := ty) (P := P) (w := w) (A := none) (n := 0) (cap := 0) ht hu hdu hlen (by simp) (hnew w rfl) (w1 := w) (fun _ h => nomatch h) (fun _ => rfl)
    exact ⟨_, _, w, F, g', bind_value hrun, .inl rfl, Step.refl _ _ _, hR, hK⟩
  · have hpos : 0 < vs.length := List.length_pos_iff.2 hv0
    obtain ⟨cap', rest, w1, c1, c2, c3, c4⟩ := run_grow (ty := ty) (A := none) (n := 0) (cap := 0) (old := #[]) ht hu hdu hlen (by omega) hroom (fun _ _ => rfl) hnew h63
    refine Good.row h hd (l := [] ++ vs) (cap := cap') (bind_value (by rw [List.nil_append]; rw [Nat.zero_add] at c3; exact c3)) c4 ?_ (by simp; omega) (nofr_zero _) (by omega) (fun j z hz => ?_)
    · simp only [Array.size_append, c2]
      have e2 : new.size = vs.length * e.cells := by have := hels.1; rw [Array.length_toList] at this; exact this
      rw [e2, List.size_toArray, List.length_nil, Nat.zero_add, ← Nat.add_mul]
      congr 1
      omega
    · have hels0 : Els w F e ([] : List e.den) [] := ⟨by simp, fun i y hy => by simp at hy⟩
      have := els_append hels0 hels rest.toList j z hz
      have hcut : cut (#[] ++ new ++ rest) (j * e.cells) e.cells = (([] ++ new.toList ++ rest.toList).drop (j * e.cells)).take e.cells := by unfold cut; simp
      rw [hcut]
      exact this
theorem room_len {n : Nat} {b : Nat} (h : (n : Int) * (b : Int) ≤ room) (hb : 1 ≤ b) : n ≤ 9223372036854775807 := by
  unfold room at h
  have : ((n * b : Nat) : Int) ≤ 140737488351232 := by rw [Int.natCast_mul]; exact h
  have h2 : n ≤ n * b := Nat.le_mul_of_pos_right _ hb
  omega
/-- An append that gives its row another name; what the old name said of slices stays. -/
theorem append_mv (h : Rel w F g mine σ a) {id nid : Nat} {t u ty : TypeId} {el : TypeId} {e' : Ty} {v : AV} {x y : Value} (ht : elemTy P t = some (el, e')) (hb1 : 1 ≤ P.bytesOf el) {vs : List e'.den} (hvs : (Q.src P e' u v).val σ.ob = some vs) (hv : R w F g σ.ob v y)
    {l : List e'.den} {cm : Nat} (ho : σ.ob id = some (.row e' l cm false)) {n : Nat} (hn : n ≤ l.length) (hs : SlAt (g id) 0 n x) (hm2 : Nat.beq id nid = false) (hm3 : id ∉ v.refs) (hm4 : nid ∉ v.refs)
    (hr' : ((n + vs.length : Nat) : Int) * (P.bytesOf el : Int) ≤ room) {d : Option Nat} (hd : ∀ e, d = some e → e < a.tmps.size) :
    Good w F g mine σ a ((do pure (Next.value (← Builtin.append_ #[t, u] ty #[x, y])) : Sem Next).run P w) { v := .ow nid, sets := [(id, none), (nid, some (.row e' (l.take n ++ vs) (max (max cm l.length) (n + vs.length)) false))], kills := [nid] } d := by
  have hne : id ≠ nid := fun e => by rw [e, Nat.beq_refl] at hm2; cases hm2
  obtain ⟨g2, hg1, hg2, h2⟩ := h.move hne ho
  have eob : ∀ i, (({ v := .top, sets := [(id, none), (nid, some (.row e' l cm false))], kills := [nid] } : Upd).app σ none).ob i = (bif Nat.beq i nid then some (.row e' l cm false) else bif Nat.beq i id then none else (σ.kill [nid]).ob i) := fun i => rfl
  have hob : (({ v := .top, sets := [(id, none), (nid, some (.row e' l cm false))], kills := [nid] } : Upd).app σ none).ob nid = some (.row e' l cm false) := by rw [eob, Nat.beq_refl]; rfl
  have hsame : ∀ i ∈ v.refs, (({ v := .top, sets := [(id, none), (nid, some (.row e' l cm false))], kills := [nid] } : Upd).app σ none).ob i = (σ.ob i).map (Ob.kill [nid]) := by
    intro i hi
    have n1 : Nat.beq i nid = false := by
      cases hb : Nat.beq i nid
      · rfl
      · exact absurd (Nat.eq_of_beq_eq_true hb) fun e => hm4 (e ▸ hi)
    have n2 : Nat.beq i id = false := by
      cases hb : Nat.beq i id
      · rfl
      · exact absurd (Nat.eq_of_beq_eq_true hb) fun e => hm3 (e ▸ hi)
    rw [eob, n1, n2]; rfl
  have hv2 := R.step (w' := w) (F' := F) (g' := g2) (ob' := (({ v := .top, sets := [(id, none), (nid, some (.row e' l cm false))], kills := [nid] } : Upd).app σ none).ob) (fun _ _ => rfl) (fun _ h => h) hv fun i hi => ⟨hg2 i fun e => hm4 (e ▸ hi), fun n hn => by
    rw [hsame i hi] at hn
    cases hc : σ.ob i with
    | none => rw [hc] at hn; cases hn
    | some o => cases o with
      | cells cs => rw [hc] at hn; cases hn
      | row e2 l2 cm2 frz2 => rw [hc] at hn; exact hn⟩
  have hsrc := src_refs (H' := (({ v := .top, sets := [(id, none), (nid, some (.row e' l cm false))], kills := [nid] } : Upd).app σ none).ob) (fun i hi hr => by
    rw [hsame i hi]
    cases hc : σ.ob i with
    | none => rfl
    | some o => cases o with
      | cells cs => rw [hc] at hr; cases hr
      | row e2 l2 cm2 frz2 => rfl) hvs
  have hx := hs
  rw [← hg1] at hx
  have := append_row (ty := ty) h2 ht hob (n := n) hn hx hv2 hsrc hr' (room_len hr' hb1) hd
  obtain ⟨x', n', w', F', g', z1, z2, z3, z4, z5⟩ := this
  have q1 : ∀ t, (({ v := .ow nid, sets := [(id, none), (nid, some (.row e' (l.take n ++ vs) (max (max cm l.length) (n + vs.length)) false))], kills := [nid] } : Upd).app σ d).tm t = (({ v := .ow nid, sets := [(nid, some (.row e' (l.take n ++ vs) (max (max cm l.length) (n + vs.length)) false))], kills := [nid] } : Upd).app (({ v := .top, sets := [(id, none), (nid, some (.row e' l cm false))], kills := [nid] } : Upd).app σ none) d).tm t := by
    intro t
    cases d with
    | none => exact (AV.kill_kill [nid] (σ.tm t)).symm
    | some d =>
      show (bif Nat.beq t d then AV.ow nid else (σ.tm t).kill [nid]) = (bif Nat.beq t d then AV.ow nid else ((σ.tm t).kill [nid]).kill [nid])
      rw [AV.kill_kill]
  have q2 : (({ v := .ow nid, sets := [(id, none), (nid, some (.row e' (l.take n ++ vs) (max (max cm l.length) (n + vs.length)) false))], kills := [nid] } : Upd).app σ d).ob = (({ v := .ow nid, sets := [(nid, some (.row e' (l.take n ++ vs) (max (max cm l.length) (n + vs.length)) false))], kills := [nid] } : Upd).app (({ v := .top, sets := [(id, none), (nid, some (.row e' l cm false))], kills := [nid] } : Upd).app σ none) d).ob := by
    rw [app_ob, app_ob]
    funext i
    show (bif Nat.beq i nid then _ else bif Nat.beq i id then none else (σ.ob i).map (Ob.kill [nid])) = (bif Nat.beq i nid then _ else ((bif Nat.beq i nid then some (.row e' l cm false) else bif Nat.beq i id then none else (σ.ob i).map (Ob.kill [nid])).map (Ob.kill [nid])))
    cases Nat.beq i nid with
    | true => rfl
    | false =>
      simp only [cond_false]
      cases Nat.beq i id with
      | true => rfl
      | false => simp only [cond_false]; exact (Ob.kill_kill [nid] _).symm
  refine ⟨x', n', w', F', g', z1, z2, z3, ⟨fun t => ?_, fun i o hi => ?_, fun i j o p b hi hj => ?_, z4.low, z4.up⟩, fun i hi => ?_⟩
  · rw [q1 t, q2]; exact z4.tm t
  · rw [q2] at hi ⊢; exact z4.ob i o hi
  · rw [q2] at hi hj; exact z4.uniq i j o p b hi hj
  · have hi' : i ∉ [nid] := hi
    obtain ⟨y1, y2⟩ := z5 i hi
    refine ⟨y1.trans (hg2 i (by simpa using hi')), fun n hn => ?_⟩
    rw [q2] at hn
    have := y2 n hn
    rw [eob] at this
    have n1 : Nat.beq i nid = false := by
      cases hb : Nat.beq i nid
      · rfl
      · exact absurd (Nat.eq_of_beq_eq_true hb) (by simpa using hi')
    rw [n1, cond_false] at this
    cases hb : Nat.beq i id with
    | true => rw [hb] at this; cases this
    | false =>
      rw [hb, cond_false] at this
      cases hc : σ.ob i with
      | none => rw [show (σ.kill [nid]).ob i = (σ.ob i).map (Ob.kill [nid]) from rfl, hc] at this; cases this
      | some o => cases o with
        | cells cs => rw [show (σ.kill [nid]).ob i = (σ.ob i).map (Ob.kill [nid]) from rfl, hc] at this; cases this
        | row e2 l2 cm2 frz2 => rw [show (σ.kill [nid]).ob i = (σ.ob i).map (Ob.kill [nid]) from rfl, hc] at this; exact this
theorem append_sound (h : Rel w F g mine σ a) {nid : Nat} {t u ty : TypeId} {s v : AV} {x y : Value} (hs : R w F g σ.ob s x) (hv : R w F g σ.ob v y) {mv : Bool} {up : Upd} (hq : (appendQ P nid t u s v mv).val σ.ob = some up) {d : Option Nat} (hd : ∀ e, d = some e → e < a.tmps.size) :
    Good w F g mine σ a ((do pure (Next.value (← Builtin.append_ #[t, u] ty #[x, y])) : Sem Next).run P w) up d := by
  unfold appendQ at hq
  split at hq
  · cases hq
  · rename_i el e ht
    rw [val_guard_some] at hq
    obtain ⟨hb1, hq⟩ := hq
    have hb1 := Nat.le_of_ble_eq_true hb1
    rw [val_bind_some] at hq
    obtain ⟨vs, hvs, hq⟩ := hq
    simp only [] at hq
    split at hq
    · simp only [val_br_some, val_ret_some, val_fail_some, and_false, or_false, decide_eq_true_eq, ilen_eq] at hq
      obtain ⟨hr, rfl⟩ := hq
      cases (show _ = _ from hs)
      have hr' : ((0 + vs.length : Nat) : Int) * (P.bytesOf el : Int) ≤ room := by simpa using hr
      exact append_nil h ht hv hvs hr' (room_len hr' hb1) hd
    · rename_i id
      simp only [Q.own, val_ask_some] at hq
      split at hq
      · rename_i e' l cm ho
        split at hq
        · rename_i he _
          subst he
          cases hmv : (mv && !Nat.beq id nid && !(v.refs.any (Nat.beq id)) && !(v.refs.any (Nat.beq nid))) with
          | true =>
            rw [hmv, cond_true] at hq
            simp only [val_br_some, val_ret_some, val_fail_some, and_false, or_false, decide_eq_true_eq, ilen_eq, castRow_self] at hq
            obtain ⟨hr, rfl⟩ := hq
            simp only [Bool.and_eq_true, Bool.not_eq_true', any_beq_false] at hmv
            obtain ⟨⟨⟨_, hm2⟩, hm3⟩, hm4⟩ := hmv
            have hr' : ((l.length + vs.length : Nat) : Int) * (P.bytesOf el : Int) ≤ room := by rw [Int.natCast_add]; exact hr
            have := append_mv (ty := ty) h ht hb1 hvs hv ho (Nat.le_refl _) (hs.2 _ (by rw [ho]; rfl)) hm2 hm3 hm4 hr' hd
            rwa [List.take_length] at this
          | false =>
          rw [hmv, cond_false] at hq
          simp only [val_br_some, val_ret_some, val_fail_some, and_false, or_false, decide_eq_true_eq, ilen_eq, castRow_self] at hq
          obtain ⟨hr, rfl⟩ := hq
          have hr' : ((l.length + vs.length : Nat) : Int) * (P.bytesOf el : Int) ≤ room := by rw [Int.natCast_add]; exact hr
          have := append_row (ty := ty) h ht ho (n := l.length) (Nat.le_refl _) (hs.2 _ (by rw [ho]; rfl)) hv hvs hr' (room_len hr' hb1) hd
          rwa [List.take_length] at this
        · cases hq
      · cases hq
    · rename_i id n
      simp only [Q.own, val_ask_some] at hq
      split at hq
      · rename_i e' l cm ho
        split at hq
        · rename_i he _
          subst he
          cases hmv : (mv && !Nat.beq id nid && !(v.refs.any (Nat.beq id)) && !(v.refs.any (Nat.beq nid))) with
          | true =>
            rw [hmv, cond_true] at hq
            simp only [val_br_some, val_ret_some, val_fail_some, and_false, or_false, decide_eq_true_eq, ilen_eq, castRow_self] at hq
            obtain ⟨hn, hr, rfl⟩ := hq
            have hn := Nat.le_of_ble_eq_true hn
            simp only [Bool.and_eq_true, Bool.not_eq_true', any_beq_false] at hmv
            obtain ⟨⟨⟨_, hm2⟩, hm3⟩, hm4⟩ := hmv
            have hlt : (l.take n).length = n := by simp; omega
            have hr' : ((n + vs.length : Nat) : Int) * (P.bytesOf el : Int) ≤ room := by rw [hlt] at hr; rw [Int.natCast_add]; exact hr
            have := append_mv (ty := ty) h ht hb1 hvs hv ho hn hs hm2 hm3 hm4 hr' hd
            rw [hlt]
            exact this
          | false =>
          rw [hmv, cond_false] at hq
          simp only [val_br_some, val_ret_some, val_fail_some, and_false, or_false, decide_eq_true_eq, ilen_eq, castRow_self] at hq
          obtain ⟨hn, hr, rfl⟩ := hq
          have hn := Nat.le_of_ble_eq_true hn
          have hlt : (l.take n).length = n := by simp; omega
          have hr' : ((n + vs.length : Nat) : Int) * (P.bytesOf el : Int) ≤ room := by rw [hlt] at hr; rw [Int.natCast_add]; exact hr
          have := append_row (ty := ty) h ht ho (n := n) hn hs hv hvs hr' (room_len hr' hb1) hd
          rw [hlt]
          exact this
        · cases hq
      · cases hq
    · cases hq
end Go.Proofs.YtdbenenonfldkaaDoor.PE
