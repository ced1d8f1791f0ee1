/- slices.Insert of one element: its contract. -/
import Derived.Test.YtdmfjpcobbkppaaEIns
import Derived.Test.YtdmfjpcobbkppaaEInsW
import Derived.Test.YtdmfjpcobbkppaaEFun
namespace Go.Proofs.Ytdmfjpcobbkppaa.PE
set_option linter.unusedVariables false
open Go.RowKit
variable {P : Program} {w w' : World} {F F' : Nat → Prop} {g g' : Nat → Loc} {mine : Nat → Prop} {σ : St} {a : Act}
abbrev insE : Ty := .pair (.int .i64) (.pair (.int .i64) (.slice (.int .u8)))
/-- A list with one element more at a place. -/
def insS (b : Nat) (l : List insE.den) (i : Int) (vs : List insE.den) : Option (List insE.den) :=
  bif Nat.beq vs.length 1 && (decide (0 ≤ i) && (decide (i ≤ ilen l) && decide ((ilen l + 1) * (b : Int) ≤ room))) then some (l.take i.toNat ++ vs ++ l.drop i.toNat) else none
theorem Rel.drew' (h : Rel w F g mine σ a) : Rel w.drew F g mine σ a := ⟨fun t => R.step (w := w) (w' := w.drew) (fun _ _ => rfl) (fun _ h => h) (h.tm t) (fun _ _ => ⟨rfl, fun _ h => h⟩), fun id o ho => by
  have hO := h.ob id o ho
  cases o with
  | cells cs =>
    obtain ⟨b, c, T, fr, k1, k2, k3, k4, k5, k6, k7⟩ := hO
    exact ⟨b, c, T, fr, k1, k2, k3, k4, k5, RAll.step (w := w) (w' := w.drew) (fun _ _ => rfl) (fun _ h => h) k6 (fun _ _ => ⟨rfl, fun _ h => h⟩), k7⟩
  | row e l cm frz =>
    obtain ⟨k1, k2, kc, k4, k5⟩ := hO
    exact ⟨k1, k2, kc, k4, fun b hb => by
      obtain ⟨c, T, fr, q1, q2, q3, q4, q5, q6⟩ := k5 b hb
      exact ⟨c, T, fr, q1, q2, q3, q4, q5, fun i x hx => Rd.step (w := w) (w' := w.drew) (fun _ _ => rfl) (fun _ h => h) (q6 i x hx)⟩⟩, h.uniq, h.low, h.up⟩
/-- What runs and gives a value. -/
theorem good_run {s : Sem Value} {u : Upd} {d : Option Nat} (hG : Good w F g mine σ a ((do pure (Next.value (← s)) : Sem Next).run P w) u d) :
    ∃ x w' F' g', s.run P w = .ok x w' ∧ Step mine w F w' F' ∧ Rel w' F' g' mine (u.app σ d) (a.put d x) ∧ Kept u.kills g g' σ.ob (u.app σ d).ob := by
  obtain ⟨x, n, w', F', g', h1, h2, h3, h4, h5⟩ := hG
  cases hs : s.run P w with
  | ok y w1 =>
    rw [bind_value hs] at h1
    cases h1
    rcases h2 with h2 | ⟨h2, _⟩
    · cases h2; exact ⟨_, _, F', g', rfl, h3, h4, h5⟩
    · cases h2
  | _ => simp [Sem.run_bind, hs, Result.andThen] at h1
/-- A row handed back. -/
theorem hand_row (h : Rel w F g mine σ a) {id : Nat} {e : Ty} {l : List e.den} {cm : Nat} (ho : σ.ob id = some (.row e l cm false)) {v : Value} (hv : R w F g σ.ob (.ow id) v) (nid : Nat) :
    ∃ F1 g1, Step mine w F w F1 ∧ (∀ b, F1 b → b < w.heap.size) ∧ Hand w F1 g1 mine nid [(false, [(true, .slice e)])] [⟨.slice e, l⟩] [v] := by
  have k1 : RAll w F g σ.ob [.ow id] [v] := ⟨_, _, rfl, hv, rfl⟩
  have hG : (argsCells [.ow id] [(false, [(true, .slice e)])]).val σ.ob = some ⟨[⟨.slice e, l⟩], [], [(some id, e.cells)]⟩ := by
    have hd : decEq e e = .isTrue rfl := by
      cases decEq e e with
      | isTrue _ => rfl
      | isFalse h => exact absurd rfl h
    simp [argsCells, argCells, argCell, guardQ, AV.solid, AV.isAgg, AV.cells, Q.bind, Q.val, ho, Given.app, hd, castRow_self]
  obtain ⟨hlent, g1, hand⟩ := hand_of h k1 hG (by simp [distinct]) (by simp) nid
  obtain ⟨st1, hR1⟩ := h.freeze (s := []) (fun p hp => nomatch hp)
  exact ⟨_, g1, st1, hR1.low, hand.mono fun b hb' => by
    rcases hb' with ⟨id', hid, hb'⟩ | hb'
    · have : id' = id := by simpa using hid
      subst this
      exact (own_not_F h ho rfl hb').2.1
    · exact h.up b hb'⟩
end Go.Proofs.Ytdmfjpcobbkppaa.PE
