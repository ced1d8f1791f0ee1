/- Timers: each goes off once. -/
import Derived.Test.YtocglpmgamhaeaaP20h
namespace Go.Proofs.Ytocglpmgamhaeaa.PE
set_option linter.unusedVariables false
theorem up_some {q : T} {x : T} {r : List T} : up (some q) (x :: r) = (oneS x && (decide (lt q x) && up (some x) r)) := rfl
theorem up_none {x : T} {r : List T} : up none (x :: r) = (oneS x && up (some x) r) := rfl
theorem up_weak {p : Option T} : ∀ {l : List T}, up p l = true → up none l = true
  | [], _ => rfl
  | x :: r, h => by
    cases p with
    | none => exact h
    | some q =>
      rw [up_some, Bool.and_eq_true, Bool.and_eq_true] at h
      rw [up_none, Bool.and_eq_true]
      exact ⟨h.1, h.2.2⟩
theorem up_drop : ∀ {l : List T} (n : Nat), up none l = true → up none (l.drop n) = true
  | l, 0, h => h
  | [], n + 1, _ => rfl
  | x :: r, n + 1, h => by
    rw [up_none, Bool.and_eq_true] at h
    exact up_drop n (up_weak h.2)
theorem up_addR_true {t x : T} {r : List T} (ht : oneS t = true) (htx : lt t x) (h : up none (x :: r) = true) {p : Option T} (hp : ∀ q, p = some q → lt q t) : up p (t :: x :: r) = true := by
  rw [up_none, Bool.and_eq_true] at h
  have e : up (some t) (x :: r) = true := by rw [up_some, h.1, decide_eq_true htx, h.2]; rfl
  cases p with
  | none => rw [up_none, ht, e]; rfl
  | some q => rw [up_some, ht, decide_eq_true (hp q rfl), e]; rfl
theorem up_addR {t : T} (ht : oneS t = true) : ∀ {l : List T} {p : Option T}, up p l = true → (∀ q, p = some q → lt q t) → t ∉ l → up p (addR t false l) = true
  | [], p, _, hp, _ => by
    show up p [t] = true
    cases p with
    | none => rw [up_none, ht]; rfl
    | some q => rw [up_some, ht, decide_eq_true (hp q rfl)]; rfl
  | x :: r, p, h, hp, hn => by
    rw [addR]
    by_cases hx : lt t x
    · rw [if_pos ⟨rfl, hx⟩, addR_true]
      exact up_addR_true ht hx (up_weak h) hp
    · rw [if_neg (fun k => hx k.2)]
      have hxt : lt x t := by
        rcases lt_tri t x with k | k | k
        · exact absurd k hx
        · exact absurd (by rw [k]; exact List.mem_cons_self ..) hn
        · exact k
      have hr : ∀ q, (some x) = some q → lt q t := fun q e => by cases e; exact hxt
      cases p with
      | none =>
        rw [up_none, Bool.and_eq_true] at h
        rw [up_none, h.1, up_addR ht h.2 hr (fun k => hn (List.mem_cons_of_mem _ k))]; rfl
      | some q =>
        rw [up_some, Bool.and_eq_true, Bool.and_eq_true] at h
        rw [up_some, h.1, h.2.1, up_addR ht h.2.2 hr (fun k => hn (List.mem_cons_of_mem _ k))]; rfl
end Go.Proofs.Ytocglpmgamhaeaa.PE
