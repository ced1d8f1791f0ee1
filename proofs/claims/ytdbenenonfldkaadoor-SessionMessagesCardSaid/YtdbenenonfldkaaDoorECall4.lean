/- Calls by contract: the operation. -/
import Derived.Test.YtdbenenonfldkaaDoorECall3
namespace Go.Proofs.YtdbenenonfldkaaDoor.PE
set_option linter.unusedVariables false
open Go.RowKit
variable {P : Program} {w w' : World} {F F' : Nat → Prop} {g g' g1 : Nat → Loc} {mine : Nat → Prop} {σ : St} {a : Act} {ob ob' ob1 : Nat → Option Ob}
/-- Behind a call: what the caller knows. -/
def After (mine : Nat → Prop) (w : World) (F : Nat → Prop) (g : Nat → Loc) (σ : St) (a : Act) (u : Upd) (d : Option Nat) : Ending → World → Prop
  | .returned v, w' => ∃ F' g', Step mine w F w' F' ∧ Rel w' F' g' mine (u.app σ d) (a.put d v) ∧ Kept u.kills g g' σ.ob (u.app σ d).ob
  | _, _ => False
theorem sets_rows : ∀ {ms : List (Bool × Ty)} {ds : List DV} {n : Nat} (p : Nat × Option Ob), p ∈ (avCells n ms ds).2.1 → ∃ e l, p.2 = some (.row e l 0 false)
  | [], ds, n, p, h => by simp [avCells] at h
  | m :: ms, [], n, p, h => by simp [avCells] at h
  | (own, mt) :: ms, ⟨t, x⟩ :: ds, n, p, h => by
    have gen : avCells n ((own, mt) :: ms) (⟨t, x⟩ :: ds) = (t.exp x ++ (avCells n ms ds).1, (avCells n ms ds).2.1, (avCells n ms ds).2.2.1, (avCells n ms ds).2.2.2) → ∃ e l, p.2 = some (.row e l 0 false) := by
      intro e
      rw [e] at h
      exact sets_rows p h
    cases own with
    | false => exact gen (by cases t <;> rfl)
    | true =>
      cases t with
      | slice e =>
        simp only [avCells, List.mem_cons] at h
        rcases h with rfl | h
        · exact ⟨e, x, rfl⟩
        · exact sets_rows p h
      | _ => exact gen rfl
theorem sets_rows' : ∀ {ms : List Mode} {ds : List DV} {n : Nat} (p : Nat × Option Ob), p ∈ (avVals n ms ds).2 → ∃ e l, p.2 = some (.row e l 0 false)
  | [], ds, n, p, h => by simp [avVals] at h
  | m :: ms, ds, n, p, h => by
    simp only [avVals, List.mem_append] at h
    rcases h with h | h
    · exact sets_rows p h
    · exact sets_rows' p h
theorem setOb_from {f : Nat → Option Ob} : ∀ {s : List (Nat × Option Ob)} {i : Nat} {o : Option Ob}, setOb f s i = o → (i ∉ s.map (·.1) ∧ o = f i) ∨ (i, o) ∈ s
  | [], i, o, h => .inl ⟨by simp, h.symm⟩
  | (id, p) :: r, i, o, h => by
    rcases setOb_from (s := r) h with ⟨h1, h2⟩ | h1
    · by_cases e : i = id
      · subst e
        right
        have : o = p := by rw [h2]; simp [Nat.beq_refl]
        subst this
        simp
      · left
        refine ⟨by simp only [List.map_cons, List.mem_cons, not_or]; exact ⟨e, h1⟩, ?_⟩
        rw [h2]
        cases hb : Nat.beq i id
        · rfl
        · exact absurd (Nat.eq_of_beq_eq_true hb) e
    · exact .inr (by simp [h1])
theorem distinct_mem {gone : List Nat} {lent : List Nat} (h : (!(gone.any fun i => lent.any (Nat.beq i))) = true) : ∀ id ∈ gone, id ∉ lent := by
  intro id hid hl
  have : (gone.any fun i => lent.any (Nat.beq i)) = true := List.any_eq_true.2 ⟨id, hid, any_beq.2 hl⟩
  rw [this] at h; cases h
theorem given_own {ob : Nat → Option Ob} : ∀ {s : List (Nat × Option Ob)} {n : Nat} {x : List (Option Nat × Nat)}, SetsOk ob n s x → ∀ id ∈ x.filterMap (·.1), ∃ o, ob id = some o ∧ o.own
  | [], n, x, h, id, hid => by rw [show x = [] from h] at hid; cases hid
  | p :: r, n, x, h, id, hid => by
    obtain ⟨q, s, o, rfl, rfl, h2, h3⟩ := h
    cases h2 with
    | row id' e l cm n' h' hn' =>
      have hid' : id ∈ id' :: s.filterMap (·.1) := by simpa using hid
      rcases List.mem_cons.1 hid' with rfl | hid
      · exact ⟨_, h', rfl⟩
      · exact given_own h3 id hid
    | nil e => exact given_own h3 id (by simpa using hid)
theorem frz_in (h : Rel w F g mine σ a) {id : Nat} {e : Ty} {l : List e.den} {cm : Nat} (ho : σ.ob id = some (.row e l cm true)) {b : Nat} (hb : (g id).blk = some b) : F b := by
  obtain ⟨_, _, _, _, k5⟩ := h.ob _ _ ho
  obtain ⟨_, _, _, _, _, _, q4, _⟩ := k5 b hb
  exact q4 rfl
theorem call_sound (hkn : Known w F) (h : Rel w F g mine σ a) {f : FuncId} {s : Sig} (hs : SigOk P f s) {args : List AV} {xs : Array Value} (hr : RAll w F g σ.ob args xs.toList) {nid : Nat} {up : Upd} (hq : (callQ s nid args).val σ.ob = some up) {d : Option Nat} (hd : ∀ e, d = some e → e < a.tmps.size) :
    Calls P f xs w (After mine w F g σ a up d) := by
  unfold callQ at hq
  rw [val_bind_some] at hq
  obtain ⟨G, hG, hq⟩ := hq
  split at hq
  · cases hq
  · rename_i β o mk hf
    rw [val_opt_some] at hq
    obtain ⟨x, hx, hq⟩ := hq
    simp only [val_bind_some, val_guard_some, val_ret_some, Bool.and_eq_true] at hq
    obtain ⟨fr, hfr, ⟨hdis, hdi⟩, rfl⟩ := hq
    have hdis := distinct_mem hdis
    obtain ⟨hlent, g1, hand⟩ := hand_of h hr hG hdi hdis 0
    obtain ⟨sets0, c0, hs0, _⟩ := argsCells_sound h hr hG (fun id hi => hi) 0
    have hgone := given_own hs0
    have hlow1 : ∀ b, Frz F g G.lent b → b < w.heap.size := by
      intro b hb
      rcases hb with hb | ⟨id, hid, hb⟩
      · exact h.low b hb
      · obtain ⟨o, ho⟩ := hlent id hid
        exact ob_blk h ho hb
    refine (hs.2 w _ g1 _ G.dvs xs β o mk x hf hx hand ⟨hkn.mono fun b hb => .inl hb⟩ hlow1 (fun b hb => .inr hb) nid).mono fun e w' he => ?_
    obtain ⟨v, F1, g', vs, rfl, st, hlow', hh, rfl⟩ := he
    have hrows : ∀ id o, setOb noOb (avVals nid s.rm (mk x)).2 id = some o → ∃ e l cm, o = .row e l cm false := by
      intro id o ho
      rcases setOb_from ho with ⟨_, e⟩ | hm
      · cases e
      · obtain ⟨e, l, hp⟩ := sets_rows' _ hm
        simp only [Option.some.injEq] at hp
        exact ⟨e, l, 0, hp⟩
    obtain ⟨V, hVe, hVr, hVv⟩ : ∃ V, (bif s.dr then AV.dropAll (avVals nid s.rm (mk x)).1 else (avVals nid s.rm (mk x)).1) = V ∧ (∀ id, id ∈ AV.refsAll V → id ∈ AV.refsAll (avVals nid s.rm (mk x)).1) ∧ ∀ {w F g ob xs}, RAll w F g ob (avVals nid s.rm (mk x)).1 xs → RAll w F g ob V xs := by
      cases s.dr with
      | true => exact ⟨_, rfl, fun id hi => AV.dropAll_refs hi, fun hr => RAll.shed hr⟩
      | false => exact ⟨_, rfl, fun id hi => hi, fun hr => hr⟩
    rw [hVe] at hfr ⊢
    cases hfl : (AV.lightAll V && (avVals nid s.rm (mk x)).2.all lightOb) with
    | true =>
      rw [hfl, cond_true, val_ret_some] at hfr
      subst hfr
      simp only [Bool.and_eq_true] at hfl
      obtain ⟨st2, g2, hR, hK⟩ := h.back hgone (F1 := Frz F g G.lent) (fun b hb => .inl hb) st (Fb := F) (fun b hb => hb) (fun b hb => .inl hb) (fun b hb => Nat.lt_of_lt_of_le (h.low b hb) st.size) (fun b hb => st.grow b (.inl hb)) hh hVr (RAll.light hfl.1 (hVv hh.vals))
        (fun id e l cm ho y ys hy => by
          have hm := (setOb_from ho).resolve_left (fun h => by cases h.2)
          have := List.all_eq_true.1 hfl.2 _ hm
          exact Rd.flat (by simpa [lightOb] using this) hy) hrows hd
      exact ⟨F, g2, st2, hR, hK⟩
    | false =>
      rw [hfl, cond_false] at hfr
      obtain ⟨hfz, hids1, hids2⟩ := freezeIds_val hfr
      obtain ⟨st1, hR1⟩ := h.freeze hfz
      have hids : Frz F g (fr.map (·.1)) = Frz F g G.lent := by
        funext b
        refine propext ⟨fun hb => ?_, fun hb => ?_⟩
        · rcases hb with hb | ⟨id, hid, hb⟩
          · exact .inl hb
          · exact .inr ⟨id, hids1 id hid, hb⟩
        · rcases hb with hb | ⟨id, hid, hb⟩
          · exact .inl hb
          · rcases hids2 id hid with hid | ⟨e, l, cm, ho⟩
            · exact .inr ⟨id, hid, hb⟩
            · exact .inl (frz_in h ho hb)
      rw [hids] at st1 hR1
      have hgone1 : ∀ id ∈ G.given.filterMap (·.1), ∃ o, setOb σ.ob fr id = some o ∧ o.own := by
        intro id hid
        obtain ⟨o, ho, hw⟩ := hgone id hid
        exact ⟨o, by rw [setOb_not (fun hm => hdis id hid (hids1 id hm))]; exact ho, hw⟩
      obtain ⟨st2, g2, hR, hK⟩ := hR1.back (gone := G.given.filterMap (·.1)) hgone1 (F1 := Frz F g G.lent) (fun b hb => hb) st (Fb := F1) st.grow st.from_ hlow' (fun b hb => hb) hh hVr (hVv hh.vals) (fun _ _ _ _ _ _ _ hy => hy) hrows hd
      refine ⟨F1, g2, st1.trans st2, ?_, ?_⟩
      · rw [app_frz hfz]
        exact hR
      · rw [app_frz hfz]
        exact hK.frz hfz
end Go.Proofs.YtdbenenonfldkaaDoor.PE
