/- Timers: each goes off once: the law. -/
import Derived.Test.YtocglpmgamhaeaaP20i
namespace Go.Proofs.Ytocglpmgamhaeaa.PE
set_option linter.unusedVariables false
theorem take_filter {now : Int} {l : List T} (h : up none l = true) : l.take (dueN now l) = l.filter (fun x => decide (x.1 ≤ now)) := (filter_due h).1.symm
theorem drop_filter {now : Int} {l : List T} (h : up none l = true) : l.drop (dueN now l) = l.filter (fun x => !decide (x.1 ≤ now)) := (filter_due h).2.symm
theorem once_l2 {y0 : List T} {y1 : List Int} {now i was : Int} {due rest told : List T} {a b c : Int} (hl : due.length ≤ 1000) (ht : told.length ≤ 1000) (h1 : ∀ x ∈ due, x.1 ≤ now) (h2 : i > 0 → ∀ x ∈ due, was < x.1) : ∀ (r : List T) (k : Nat), due.drop k = r →
    law20_TimersOnce_l2 y0 y1 now i was due rest k a b c told = law20_TimersOnce_l0 y0 y1 now rest (IntKind.i64.wrap (i + 1)) a b c (told ++ due) := by
  intro r
  induction r with
  | nil =>
    intro k h
    have h3 := at_nil h
    rw [law20_TimersOnce_l2_eq, ilen_eq, decide_eq_false (show ¬ (k : Int) < _ by omega), cond_false, decide_eq_true (show _ ≤ room by simp only [ilen_eq, room_eq]; omega), cond_true]
  | cons x r ih =>
    intro k h
    obtain ⟨q1, q2, q3⟩ := at_drop h
    have hm := List.mem_of_getElem? q2
    have e1 := h1 x hm
    rw [law20_TimersOnce_l2_eq, ilen_eq, decide_eq_true (show (k : Int) < _ by omega), cond_true, decide_eq_true (show (0 : Int) ≤ (k : Int) by omega), cond_true, Int.toNat_natCast, q2, Option.bind_some, decide_eq_false (show ¬ x.1 > now by omega), cond_false, cond_true, Option.bind_some, wrap_succ (by omega), ih (k + 1) q3]
    by_cases hi : i > 0
    · have := h2 hi x hm
      rw [decide_eq_true hi, cond_true, decide_eq_false (show ¬ x.1 ≤ was by omega), cond_false]
    · rw [decide_eq_false hi, cond_false]
theorem addS_ok {l : List T} {t : T} (h : up none l = true) (hc : (addS l t).2 = 0) : oneS t = true ∧ t ∉ l ∧ (addS l t).1 = addR t false l := by
  rw [addS] at hc ⊢
  cases ho : oneS t with
  | false => rw [ho] at hc; cases hc
  | true =>
    rw [ho] at hc
    cases hf : found t l with
    | true => rw [hf] at hc; cases hc
    | false =>
      have hn : t ∉ l := fun hm => by rw [(found_mem h).2 hm] at hf; cases hf
      exact ⟨rfl, hn, (addR_pos h hn).symm⟩
theorem filter_addR {t : T} {now : Int} (ht : now < t.1) : ∀ l : List T, (addR t false l).filter (fun x => decide (x.1 ≤ now)) = l.filter (fun x => decide (x.1 ≤ now))
  | [] => by
    show [t].filter _ = []
    rw [List.filter_cons, decide_eq_false (show ¬ t.1 ≤ now by omega)]; rfl
  | x :: r => by
    rw [addR]
    by_cases hx : lt t x
    · rw [if_pos ⟨rfl, hx⟩, addR_true, List.filter_cons, decide_eq_false (show ¬ t.1 ≤ now by omega)]; rfl
    · rw [if_neg (fun k => hx k.2), List.filter_cons, List.filter_cons, filter_addR ht r]
theorem once_l0 {l : List T} {t : T} (hl : l.length ≤ 200) (hr : up none l = true) {steps : List Int} (hs : ∀ x ∈ steps, 0 ≤ x ∧ x ≤ 65535) (hn : steps.length ≤ 200) : ∀ (r : List Int) (i : Nat) (now : Int) (told left : List T), steps.drop i = r → told ++ left = l → up none left = true → (0 < i → ∀ x ∈ left, now < x.1) → 0 ≤ now → now ≤ 65535 * (i : Int) → i ≤ 200 →
    law20_TimersOnce_l0 l steps now left i t.1 t.2.1 t.2.2 told = some true := by
  intro r
  induction r with
  | nil =>
    intro i now told left h hl2 hu _ h0 hi hi2
    have h3 := at_nil h
    have hlen := congrArg List.length hl2
    rw [List.length_append] at hlen
    rw [law20_TimersOnce_l0_eq, ilen_eq, decide_eq_false (show ¬ (i : Int) < _ by omega), cond_false, decide_eq_true (show _ ≤ room by simp only [ilen_eq, room_eq]; omega), cond_true, hl2, same_self (by omega), Option.bind_some, Bool.not_true, cond_false, add_spec (by omega) hr, Option.bind_some, wks]
    by_cases hc : (addS l t).2 = 0
    · obtain ⟨k1, k2, k3⟩ := addS_ok hr hc
      rw [bne_no hc, cond_false]
      by_cases ht : t.1 ≤ now
      · rw [decide_eq_true ht]; rfl
      · have hm : up none (addR t false l) = true := up_addR k1 hr (fun q e => nomatch e) k2
        have hlm := addR_len t l false
        rw [decide_eq_false ht, cond_false, due_spec (by omega) hr, Option.bind_some, k3, due_spec (by omega) hm, Option.bind_some]
        dsimp only
        rw [take_filter hr, take_filter hm, filter_addR (by omega) l, same_self (by have := List.length_filter_le (fun x : T => decide (x.1 ≤ now)) l; omega)]
        rfl
    · rw [bne_yes hc]; rfl
  | cons s r ih =>
    intro i now told left h hl2 hu hg h0 hi hi2
    obtain ⟨q1, q2, q3⟩ := at_drop h
    have hsb := hs s (List.mem_of_getElem? q2)
    have hlen := congrArg List.length hl2
    rw [List.length_append] at hlen
    have hmt : ∀ x ∈ left.take (dueN (now + s) left), x.1 ≤ now + s := fun x hx => by
      rw [take_filter hu, List.mem_filter, decide_eq_true_eq] at hx; exact hx.2
    have hmd : ∀ x ∈ left.drop (dueN (now + s) left), now + s < x.1 := fun x hx => by
      rw [drop_filter hu, List.mem_filter] at hx
      have := hx.2
      simp only [Bool.not_eq_true', decide_eq_false_iff_not] at this
      omega
    rw [law20_TimersOnce_l0_eq, ilen_eq, decide_eq_true (show (i : Int) < _ by omega), cond_true, decide_eq_true (show (0 : Int) ≤ (i : Int) by omega), cond_true, Int.toNat_natCast, q2, Option.bind_some, wrap_i64 (x := s) (by omega) (by omega), wrap_i64 (x := now + s) (by omega) (by omega), due_spec (by omega) hu, Option.bind_some]
    dsimp only
    have e2 := once_l2 (y0 := l) (y1 := steps) (now := now + s) (i := (i : Int)) (was := now) (due := left.take (dueN (now + s) left)) (rest := left.drop (dueN (now + s) left)) (told := told) (a := t.1) (b := t.2.1) (c := t.2.2) (by rw [List.length_take]; omega) (by omega) hmt (fun hi x hx => hg (by omega) x (List.mem_of_mem_take hx)) _ 0 rfl
    rw [Int.natCast_zero] at e2
    rw [e2, wrap_succ (by omega)]
    refine ih (i + 1) (now + s) _ _ q3 (by rw [List.append_assoc, List.take_append_drop]; exact hl2) (up_drop _ hu) (fun _ => hmd) (by omega) (by omega) (by omega)
theorem u16_range {n : Int} (h : (Lit.int .u16 n).wf = true) : 0 ≤ n ∧ n ≤ 65535 := by
  simp only [Lit.wf, Bool.and_eq_true, decide_eq_true_eq] at h
  exact h
theorem timersOnce_says {l : List T} {steps : List Int} {a b c : Int} (hs : ∀ x ∈ steps, 0 ≤ x ∧ x ≤ 65535) : law20_TimersOnce l steps a b c = some true := by
  obtain ⟨v, h1, h2⟩ := may_spec l
  rw [law20_TimersOnce_eq, h1, Option.bind_some, wks, ilen_eq]
  cases v with
  | false => rfl
  | true =>
    obtain ⟨hl, hr⟩ := h2 rfl
    rw [Bool.not_true, cond_false]
    by_cases hn : (steps.length : Int) > 200
    · rw [decide_eq_true hn]; rfl
    · rw [decide_eq_false hn, cond_false]
      have := once_l0 (t := (a, b, c)) hl hr hs (by omega) steps 0 0 [] l rfl rfl hr (fun h => by omega) (Int.le_refl _) (by omega) (by omega)
      exact this
end Go.Proofs.Ytocglpmgamhaeaa.PE
