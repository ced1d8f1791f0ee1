/- A run on the abstract state, held against the model's code. -/
import Derived.Test.YtbgbpdpaamlinaaEDraw4
namespace Go.Proofs.Ytbgbpdpaamlinaa.PE
set_option linter.unusedVariables false
open Go.RowKit
section
variable {α : Type} {r : α} {P : Program} {w0 w w' : World} {F0 F F' : Nat → Prop} {g0 g g' : Nat → Loc} {ob0 : Nat → Option Ob} {mine : Nat → Prop} {n : Nat} {σ σ' : St} {a : Act}
theorem ownNils_sound : ∀ (l : List (Nat × Nat × Ty)) {g : Nat → Loc} {σ : St}, Inv w0 F0 g0 ob0 mine n w F g σ a → ∃ g', Inv w0 F0 g0 ob0 mine n w F g' (ownNils σ l) a
  | [], g, σ, h => ⟨g, h⟩
  | (t, id, e) :: r, g, σ, h => by
    unfold ownNils
    split
    · rename_i ht
      have hv := h.rel.tm t
      rw [ht] at hv
      have hv : a.tmps.getD t undef = .slice none 0 0 := hv
      have hlt : t < a.tmps.size := by
        rcases Nat.lt_or_ge t a.tmps.size with h' | h'
        · exact h'
        · rw [Array.getD_eq_getD_getElem?, Array.getElem?_eq_none h'] at hv; cases hv
      obtain ⟨g', hR, hK⟩ := h.rel.virt id e (.ow id) (.slice none 0 0) (some t) (fun e he => by cases he; exact hlt) (fun g' ob' e1 e2 => ⟨⟨_, _, _, rfl⟩, fun m hm => by rw [e2] at hm; cases hm; rw [e1]; exact ⟨none, rfl, by simp, (fun b hb => nomatch hb), fun _ => rfl⟩⟩)
      have hput : a.put (some t) (.slice none 0 0) = a := by
        have : a.tmps.setIfInBounds t (.slice none 0 0) = a.tmps := by
          apply Array.ext_getElem?
          intro i
          by_cases e : t = i
          · subst e
            rw [Array.getElem?_setIfInBounds_self_of_lt hlt]
            rw [Array.getD_eq_getD_getElem?, Array.getElem?_eq_getElem hlt] at hv
            rw [Array.getElem?_eq_getElem hlt]
            simp only [Option.getD_some] at hv
            rw [hv]
          · rw [Array.getElem?_setIfInBounds_ne e]
        show (⟨a.tmps.setIfInBounds t _, a.defers⟩ : Act) = a
        rw [this]
      have hi := h.upd (d := some t) (Step.refl _ _ _) hR hK
      rw [hput] at hi
      exact ownNils_sound r hi
    · exact ownNils_sound r h
theorem find_key {β : Type} : ∀ {l : List Nat} {f : Nat → β} {t : Nat} {p : Nat × β}, (l.map fun t => (t, f t)).find? (fun p => Nat.beq p.1 t) = some p → p.2 = f t
  | x :: r, f, t, p, h => by
    simp only [List.map_cons, List.find?_cons] at h
    cases hb : Nat.beq x t with
    | true =>
      rw [hb] at h
      cases h
      rw [Nat.eq_of_beq_eq_true hb]
    | false =>
      rw [hb] at h
      exact find_key h
theorem lenOf_noCap (o : Option Ob) : lenOf (noCap o) = lenOf o := by
  cases o with
  | none => rfl
  | some o => cases o <;> rfl
theorem hint_sound (h : Inv w0 F0 g0 ob0 mine n w F g σ a) (hh : Option Hint) : ∃ g', Inv w0 F0 g0 ob0 mine n w F g' (hinted hh σ) a := by
  cases hh with
  | none => exact ⟨g, h⟩
  | some hh =>
    obtain ⟨g', h'⟩ := ownNils_sound hh.nils h
    refine ⟨g', ?_⟩
    show Inv w0 F0 g0 ob0 mine n w F g' (hh.app σ) a
    unfold Hint.app
    generalize ownNils σ hh.nils = σ1 at h'
    have hob : ∀ id o, (St.ofLists (hh.tmps.map fun t => (t, σ1.tm t)) (hh.obs.map fun i => (i, noCap (σ1.ob i))) (bif σ1.kl.all (fun i => hh.kl.any (Nat.beq i)) then hh.kl else σ1.kl)).ob id = some o → noCap (σ1.ob id) = some o := by
      intro id o ho
      simp only [St.ofLists] at ho
      split at ho
      · rename_i p hp
        rw [find_key hp] at ho
        exact ho
      · cases ho
    have hlen : ∀ id m, lenOf ((St.ofLists (hh.tmps.map fun t => (t, σ1.tm t)) (hh.obs.map fun i => (i, noCap (σ1.ob i))) (bif σ1.kl.all (fun i => hh.kl.any (Nat.beq i)) then hh.kl else σ1.kl)).ob id) = some m → lenOf (σ1.ob id) = some m := by
      intro id m hm
      cases ho : (St.ofLists (hh.tmps.map fun t => (t, σ1.tm t)) (hh.obs.map fun i => (i, noCap (σ1.ob i))) (bif σ1.kl.all (fun i => hh.kl.any (Nat.beq i)) then hh.kl else σ1.kl)).ob id with
      | none => rw [ho] at hm; cases hm
      | some o =>
        have := hob id o ho
        rw [ho, ← this, lenOf_noCap] at hm
        exact hm
    have own : ∀ id o, noCap (σ1.ob id) = some o → ∃ o1, σ1.ob id = some o1 ∧ (o.own → o1.own) := by
      intro id o ho
      cases h1 : σ1.ob id with
      | none => rw [h1] at ho; cases ho
      | some o1 =>
        rw [h1] at ho
        refine ⟨o1, rfl, fun hw => ?_⟩
        cases o1 with
        | cells _ => trivial
        | row _ _ _ _ => cases (Option.some.inj ho); exact hw
    refine ⟨⟨fun t => ?_, fun id o ho => ?_, fun i j o p b hi hj ho hp hbi hbj => ?_, h'.rel.low, h'.rel.up⟩, h'.step, ?_, h'.size, h'.defers⟩
    · show R w F g' _ (match (hh.tmps.map fun t => (t, σ1.tm t)).find? (fun p => Nat.beq p.1 t) with | some p => p.2 | none => .top) _
      split
      · rename_i p hp
        rw [find_key hp]
        exact R.step (fun _ _ => rfl) (fun _ hb => hb) (h'.rel.tm t) fun id _ => ⟨rfl, hlen id⟩
      · exact trivial
    · have h1 := hob id o ho
      cases h2 : σ1.ob id with
      | none => rw [h2] at h1; cases h1
      | some o1 =>
        rw [h2] at h1
        have hO := h'.rel.ob id o1 h2
        cases o1 with
        | cells cs =>
          cases (Option.some.inj h1)
          obtain ⟨b, c, T, fr, k1, k2, k3, k4, k5, k6, k7⟩ := hO
          exact ⟨b, c, T, fr, k1, k2, k3, k4, k5, RAll.step (fun _ _ => rfl) (fun _ hb => hb) k6 fun id _ => ⟨rfl, hlen id⟩, k7⟩
        | row e l cm frz =>
          cases (Option.some.inj h1)
          obtain ⟨k1, k2, k3, k4, k5⟩ := hO
          exact ⟨k1, k2, Nat.zero_le _, k4, k5⟩
    · obtain ⟨o1, e1, f1⟩ := own i o (hob i o hi)
      obtain ⟨p1, e2, f2⟩ := own j p (hob j p hj)
      exact h'.rel.uniq i j o1 p1 b e1 e2 (f1 ho) (f2 hp) hbi hbj
    · intro id hid
      have hid' : id ∉ σ1.kl := by
        intro hk
        apply hid
        show id ∈ (bif σ1.kl.all (fun i => hh.kl.any (Nat.beq i)) then hh.kl else σ1.kl)
        cases hb : σ1.kl.all (fun i => hh.kl.any (Nat.beq i)) with
        | true => exact any_beq.1 (List.all_eq_true.1 hb id hk)
        | false => exact hk
      exact ⟨(h'.kept id hid').1, fun m hm => (h'.kept id hid').2 m (hlen id m hm)⟩
/-- A piece of code. -/
theorem run_sound {C : Cfg} {inl : Inl α} (hsig : SigsOk C) (hinl : InlOk C.P inl r) (hlin : InlLin inl) {fn base : Nat} : ∀ (c : Code) (cur : Nat) {w : World} {F : Nat → Prop} {g : Nat → Loc} {σ : St} {a : Act} {k : Kt α} {Qp : Exit → Act → World → Prop},
    Inv w0 F0 g0 ob0 mine n w F g σ a → dstsBelow n c = true → runC C inl fn base c cur σ k = some r →
    (∀ e σ' w' F' g' a', k e σ' = some r → Inv w0 F0 g0 ob0 mine n w' F' g' σ' a' → Qp e.to a' w') → c.wp C.P Qp a w
  | .skip, cur, w, F, g, σ, a, k, Qp, h, hd, hq, hQ => wp_skip (hQ .normal _ _ _ _ _ hq h)
  | .label l, cur, w, F, g, σ, a, k, Qp, h, hd, hq, hQ => wp_label (hQ .normal _ _ _ _ _ hq h)
  | .ret, cur, w, F, g, σ, a, k, Qp, h, hd, hq, hQ => wp_ret (hQ .ret _ _ _ _ _ hq h)
  | .exit id, cur, w, F, g, σ, a, k, Qp, h, hd, hq, hQ => wp_exit (hQ (.exit id) _ _ _ _ _ hq h)
  | .seq x y, cur, w, F, g, σ, a, k, Qp, h, hd, hq, hQ => by
    simp only [dstsBelow, Bool.and_eq_true] at hd
    refine wp_seq (run_sound hsig hinl hlin x cur h hd.1 (by simpa only [runC] using hq) fun e σ' w' F' g' a' hk hi => ?_)
    cases e with
    | normal => exact run_sound hsig hinl hlin y cur hi hd.2 hk hQ
    | exit id => exact hQ _ _ _ _ _ _ hk hi
    | ret => exact hQ _ _ _ _ _ _ hk hi
  | .cond c x y, cur, w, F, g, σ, a, k, Qp, h, hd, hq, hQ => by
    simp only [dstsBelow, Bool.and_eq_true] at hd
    simp only [runC] at hq
    split at hq
    · rename_i t ht
      have hv := opnd_rel h.rel c
      rw [ht] at hv
      refine wp_cond (t := t) hv ?_
      cases t
      · exact run_sound hsig hinl hlin y cur h hd.2 hq hQ
      · exact run_sound hsig hinl hlin x cur h hd.1 hq hQ
    · cases hq
  | .block id c, cur, w, F, g, σ, a, k, Qp, h, hd, hq, hQ => by
    refine wp_block (run_sound hsig hinl hlin c id h (by simpa only [dstsBelow] using hd) (by simpa only [runC] using hq) fun e σ' w' F' g' a' hk hi => ?_)
    cases e with
    | normal => exact hQ _ _ _ _ _ _ hk hi
    | exit i =>
      simp only [blockK] at hk
      show if i = id then Qp .normal a' w' else Qp (.exit i) a' w'
      cases hb : Nat.beq i id with
      | true =>
        rw [hb] at hk
        rw [if_pos (Nat.eq_of_beq_eq_true hb)]
        exact hQ .normal _ _ _ _ _ hk hi
      | false =>
        rw [hb] at hk
        rw [if_neg (fun e => by rw [e] at hb; simp [Nat.beq_refl] at hb)]
        exact hQ (.exit i) _ _ _ _ _ hk hi
    | ret => exact hQ _ _ _ _ _ _ hk hi
  | .scope c, cur, w, F, g, σ, a, k, Qp, h, hd, hq, hQ => by
    refine wp_scope_straight (run_sound hsig hinl hlin c cur h (by simpa only [dstsBelow] using hd) (by simpa only [runC] using hq) fun e σ' w' F' g' a' hk hi => ?_)
    cases e with
    | normal => exact hQ _ _ _ _ _ _ hk hi
    | exit i => exact hQ _ _ _ _ _ _ hk hi
    | ret => exact hQ _ _ _ _ _ _ hk hi
  | .loop c, cur, w, F, g, σ, a, k, Qp, h, hd, hq, hQ => by
    have hd' : dstsBelow n c = true := by simpa only [dstsBelow] using hd
    simp only [runC] at hq
    obtain ⟨N, hN⟩ := loopU_ex hq
    · obtain ⟨g1, h1⟩ := hint_sound h (C.hb fn cur)
      refine wp_loop_ghost (fun m a w => ∃ F g σ, Inv w0 F0 g0 ob0 mine n w F g σ a ∧ iterN (C.hb fn cur) (fun σ' k' => runC C inl fn base c cur σ' k') k m σ = some r) N ⟨F, g1, _, h1, hN⟩ ?_
      rintro m a w ⟨F, g, σ, hi, hm⟩
      cases m with
      | zero => cases hm
      | succ m =>
        simp only [iterN] at hm
        refine run_sound hsig hinl hlin c cur hi hd' hm fun e σ' w' F' g' a' hk hi' => ?_
        cases e with
        | normal =>
          obtain ⟨g2, h2⟩ := hint_sound hi' (C.hb fn cur)
          exact ⟨m, Nat.lt_succ_self m, F', g2, _, h2, hk⟩
        | exit i => exact hQ _ _ _ _ _ _ hk hi'
        | ret => exact hQ _ _ _ _ _ _ hk hi'
  | .region id ops draw, cur, w, F, g, σ, a, k, Qp, h, hd, hq, hQ => by
    have hd' : ∀ o ∈ ops.toList, ∀ e, o.dst = some e → e < n := by
      intro o ho e he
      simp only [dstsBelow] at hd
      have := List.all_eq_true.1 hd o ho
      rw [he] at this
      have h2 : Nat.ble (e + 1) n = true := this
      exact Nat.le_of_ble_eq_true h2
    rw [runC_region] at hq
    unfold regC at hq
    obtain ⟨g1, h1⟩ := hint_sound h (C.hr fn id)
    cases draw with
    | false =>
      simp only [cond_false] at hq
      exact wp_region_list (ops_sound hsig hinl rfl ops.toList 0 _ _ h1 hd' hq fun σ' fs w' F' g' a' hk hi => hQ .normal _ _ _ _ _ hk hi)
    | true =>
      simp only [cond_true] at hq
      exact draw_sound hsig hinl hlin h1 hd' hq fun σ' w' F' g' a' hk hi => hQ .normal _ _ _ _ _ hk hi
  | .goto _, cur, w, F, g, σ, a, k, Qp, h, hd, hq, hQ => by simp [runC] at hq
  | .rangeFunc _ _ _ _, cur, w, F, g, σ, a, k, Qp, h, hd, hq, hQ => by simp [runC] at hq
  | .refuse _, cur, w, F, g, σ, a, k, Qp, h, hd, hq, hQ => by simp [runC] at hq
end
end Go.Proofs.Ytbgbpdpaamlinaa.PE
