/- Timers: where one stands; one more. -/
import Derived.Test.YtocglpmgamhaeaaP20a
namespace Go.Proofs.Ytocglpmgamhaeaa.PE
set_option linter.unusedVariables false
/-- Where a timer stands, or would stand. -/
def pos (t : T) (l : List T) : Nat := l.findIdx fun x => !decide (lt x t)
theorem up_lt : ∀ {l : List T} {p : Option T}, up p l = true → (∀ q, p = some q → ∀ x ∈ l, lt q x) ∧ ∀ (a b : Nat) (x y : T), l[a]? = some x → l[b]? = some y → a < b → lt x y
  | [], p, _ => ⟨fun _ _ x hx => (by cases hx), fun a b x y h _ _ => (by simp at h)⟩
  | z :: r, p, h => by
    have h' : oneS z = true ∧ (∀ q, p = some q → lt q z) ∧ up (some z) r = true := by
      cases p with
      | none =>
        have : (oneS z && up (some z) r) = true := h
        rw [Bool.and_eq_true] at this
        exact ⟨this.1, fun _ e => (nomatch e), this.2⟩
      | some q =>
        have : (oneS z && (decide (lt q z) && up (some z) r)) = true := h
        rw [Bool.and_eq_true, Bool.and_eq_true, decide_eq_true_eq] at this
        exact ⟨this.1, fun _ e => by cases e; exact this.2.1, this.2.2⟩
    obtain ⟨_, h2, h3⟩ := h'
    obtain ⟨k1, k2⟩ := up_lt h3
    have kz := k1 z rfl
    refine ⟨fun q e x hx => ?_, fun a b x y hx hy hab => ?_⟩
    · rcases List.mem_cons.1 hx with rfl | hx
      · exact h2 q e
      · exact lt_trans (h2 q e) (kz x hx)
    · cases b with
      | zero => omega
      | succ b =>
        rw [List.getElem?_cons_succ] at hy
        cases a with
        | zero =>
          rw [List.getElem?_cons_zero] at hx
          cases hx
          exact kz y (List.mem_of_getElem? hy)
        | succ a =>
          rw [List.getElem?_cons_succ] at hx
          exact k2 a b x y hx hy (by omega)
theorem pos_eq {t : T} {l : List T} {i : Nat} (hi : i ≤ l.length) (h1 : ∀ k x, k < i → l[k]? = some x → lt x t) (h2 : ∀ x, l[i]? = some x → ¬ lt x t) : pos t l = i := by
  unfold pos
  rcases Nat.lt_or_ge i l.length with h | h
  · refine (List.findIdx_eq h).2 ⟨by rw [decide_eq_false (h2 _ (List.getElem?_eq_getElem h))]; rfl, fun k hk => ?_⟩
    rw [decide_eq_true (h1 k _ hk (List.getElem?_eq_getElem (by omega)))]; rfl
  · have : i = l.length := by omega
    subst this
    refine List.findIdx_eq_length.2 fun x hx => ?_
    obtain ⟨k, hk⟩ := List.getElem?_of_mem hx
    rw [decide_eq_true (h1 k x (List.getElem?_eq_some_iff.1 hk).1 hk)]; rfl
theorem mid {i j : Nat} (h : i + j ≤ 1000000000) : IntKind.i64.wrap ((IntKind.u64.wrap (IntKind.i64.wrap ((i : Int) + j))).fdiv (2 ^ min (Int.toNat 1) IntKind.u64.bits)) = (((i + j) / 2 : Nat) : Int) := by
  rw [show ((2 : Int) ^ min (Int.toNat 1) IntKind.u64.bits) = 2 from rfl, wrap_i64 (x := (i : Int) + j) (by omega) (by omega), wrap_u64 (by omega) (by omega), Int.fdiv_eq_ediv_of_nonneg _ (by omega), wrap_i64 (by omega) (by omega)]
  omega
def found (t : T) (l : List T) : Bool := match l[pos t l]? with
  | some x => decide (x = t)
  | none => false
theorem search_l0 {l : List T} {t : T} (hl : l.length ≤ 1000000) (hr : up none l = true) : ∀ (d i j : Nat), j - i ≤ d → i ≤ j → j ≤ l.length → (∀ k x, k < i → l[k]? = some x → lt x t) → (∀ k x, j ≤ k → l[k]? = some x → ¬ lt x t) →
    timers_Search_l0 l l.length i j t.1 t.2.1 t.2.2 = some (((pos t l : Nat) : Int), found t l) := by
  intro d
  induction d with
  | zero =>
    intro i j hd hij hj h1 h2
    have : i = j := by omega
    subst this
    have hp := pos_eq hj h1 (fun x hx => h2 i x (Nat.le_refl _) hx)
    rw [timers_Search_l0_eq, found, hp, decide_eq_false (show ¬ (i : Int) < (i : Int) by omega), cond_false]
    rcases Nat.lt_or_ge i l.length with h | h
    · rw [decide_eq_true (show (i : Int) < (l.length : Int) by omega), cond_true, decide_eq_true (show (0 : Int) ≤ (i : Int) by omega), cond_true, Int.toNat_natCast, List.getElem?_eq_getElem h, Option.bind_some, order_spec, Option.bind_some]
      have h3 := h2 i _ (Nat.le_refl _) (List.getElem?_eq_getElem h)
      rw [if_neg h3]
      by_cases e : l[i] = t
      · rw [if_pos e]; simp [e]
      · rw [if_neg e]; simp [e]
    · rw [decide_eq_false (show ¬ (i : Int) < (l.length : Int) by omega), cond_false, List.getElem?_eq_none h]
  | succ d ih =>
    intro i j hd hij hj h1 h2
    by_cases he : i = j
    · exact ih i j (by omega) hij hj h1 h2
    · have hm : (i + j) / 2 < l.length := by omega
      rw [timers_Search_l0_eq, mid (by omega), decide_eq_true (show (i : Int) < (j : Int) by omega), cond_true, decide_eq_true (show (0 : Int) ≤ (((i + j) / 2 : Nat) : Int) by omega), cond_true, Int.toNat_natCast, List.getElem?_eq_getElem hm, Option.bind_some, order_spec, Option.bind_some, wrap_succ (by omega)]
      by_cases h3 : lt l[(i + j) / 2] t
      · rw [if_pos h3]
        refine ih ((i + j) / 2 + 1) j (by omega) (by omega) hj (fun k x hk hx => ?_) h2
        rcases Nat.lt_or_ge k ((i + j) / 2) with hk' | hk'
        · exact lt_trans ((up_lt hr).2 _ _ _ _ hx (List.getElem?_eq_getElem hm) hk') h3
        · have : k = (i + j) / 2 := by omega
          subst this
          rw [List.getElem?_eq_getElem hm] at hx
          cases hx; exact h3
      · have hup : timers_Search_l0 l l.length i (((i + j) / 2 : Nat) : Int) t.1 t.2.1 t.2.2 = some (((pos t l : Nat) : Int), found t l) := by
          refine ih i ((i + j) / 2) (by omega) (by omega) (by omega) h1 fun k x hk hx => ?_
          rcases Nat.lt_or_ge ((i + j) / 2) k with hk' | hk'
          · exact fun hh => h3 (lt_trans ((up_lt hr).2 _ _ _ _ (List.getElem?_eq_getElem hm) hx hk') hh)
          · have : k = (i + j) / 2 := by omega
            subst this
            rw [List.getElem?_eq_getElem hm] at hx
            cases hx; exact h3
        rw [if_neg h3]
        by_cases e : l[(i + j) / 2] = t
        · rw [if_pos e]; exact hup
        · rw [if_neg e]; exact hup
theorem search_spec {l : List T} {t : T} (hl : l.length ≤ 1000000) (hr : up none l = true) : timers_Search l t.1 t.2.1 t.2.2 = some (((pos t l : Nat) : Int), found t l) := by
  have := search_l0 (t := t) hl hr l.length 0 l.length (by omega) (by omega) (Nat.le_refl _) (fun k x hk => by omega) (fun k x hk hx => by rw [List.getElem?_eq_none hk] at hx; cases hx)
  rw [Int.natCast_zero] at this
  rw [timers_Search_eq, ilen_eq, this]
theorem clone20 {l : List T} (hl : l.length ≤ 1000000) : timers_Clone l = some l := by
  rw [timers_Clone_eq, decide_eq_true (show _ ≤ room by simp only [ilen_eq, room_eq]; omega)]
  rfl
end Go.Proofs.Ytocglpmgamhaeaa.PE
