/- Some words more for the printed walks: cuts with a capacity of their own. -/
import Derived.Test.YtadcekchmaiihaaWMore
import Derived.ScopeJumps
import Derived.WalkMore
import Derived.Deep.LoopGhost
namespace Go.Proofs.YtadcekchmaiihaaW.PrintWords
open Go.RowKit
section
variable {P : Program}
theorem cut_mid3 (t e : TypeId) (kl kh km : IntKind) {i : TypeInfo} (ht : P.underlying t = some (.slice e)) (hi : P.info? e = some i) (size : Nat) (hsz : i.size = size) (A : Option Addr) (n c : Nat) (lo hi' : Int) (h0 : 0 ≤ lo) (h1 : lo ≤ hi') (h2 : hi' ≤ n) (hc : n ≤ c) :
    ∀ W : World, (Instr.slice t (.slice A n c) (some (.int kl lo)) (some (.int kh hi')) (some (.int km hi'))).run P W = .ok (.slice (if hi'.toNat = lo.toNat then A else A.map (·.add (lo.toNat * size))) (hi'.toNat - lo.toNat) (hi'.toNat - lo.toNat)) W := by
  intro W
  have hel : P.elem t = e := by simp [Program.elem, ht]
  have hu : P.underlying t = some (.slice (P.elem t)) := by rw [hel]; exact ht
  rw [run_slice_lhm W t A n c hu kl kh km lo hi' hi' h0 h1 (Int.le_refl _) (by omega), hel]
  simp [sizeOf, typeInfo, hi, hsz, sliced, Result.andThen]
theorem cut_to3 (t e : TypeId) (kh km : IntKind) {i : TypeInfo} (ht : P.underlying t = some (.slice e)) (hi : P.info? e = some i) (A : Option Addr) (n c : Nat) (j : Int) (h0 : 0 ≤ j) (hm : j ≤ n) (hc : n ≤ c) :
    ∀ W : World, (Instr.slice t (.slice A n c) none (some (.int kh j)) (some (.int km j))).run P W = .ok (.slice A j.toNat j.toNat) W := by
  intro W
  have hel : P.elem t = e := by simp [Program.elem, ht]
  have hu : P.underlying t = some (.slice (P.elem t)) := by rw [hel]; exact ht
  have ha : (A.map fun x => x.add 0) = A := by cases A <;> simp [Addr.add]
  rw [run_slice_hm W t A n c hu kh km j j h0 (Int.le_refl _) (by omega), hel]
  simp [sizeOf, typeInfo, hi, sliced, Result.andThen, ha]
end
namespace Kd
variable {α : Type} {k : Kd α} {w W : World} {A : Option Addr} {xs : List α} {lo hi : Nat} {ok : Nat → Prop}
theorem C_mid3 (h : k.C w A xs.length xs) (h1 : lo ≤ hi) (h2 : hi ≤ xs.length) : k.C w (if hi = lo then A else A.map (·.add (lo * k.sz))) ((xs.take hi).drop lo).length ((xs.take hi).drop lo) := by
  have hl : (xs.take hi).length = hi := by rw [List.length_take]; omega
  exact C_drop (C_take h h2) (by omega) (by omega)
theorem F_mid3 (h : F k W ok A xs.length xs) (h1 : lo ≤ hi) (h2 : hi ≤ xs.length) : F k W ok (if hi = lo then A else A.map (·.add (lo * k.sz))) ((xs.take hi).drop lo).length ((xs.take hi).drop lo) := F_imp h (fun _ hC => C_mid3 hC h1 h2)
end Kd
end Go.Proofs.YtadcekchmaiihaaW.PrintWords
namespace Go.Proofs.YtadcekchmaiihaaW.PrintWords
open Go Go.RowKit
/-- A scope in which the run jumps back to one label, as a loop whose relation bears a number. -/
theorem wp_scope_ghost {P : Program} {a : Act} {w : World} {Q : Exit → Act → World → Prop} {c rest : Code} (l : Nat) (hf : findLabel c l = some (.seq .skip rest)) (I : Nat → Act → World → Prop)
    (round : ∀ n a w, I n a w → ∀ (J : Nat → Act → World → Prop) (K : Act → World → Prop), (∀ k a' w', I k a' w' → J k a' w') → (∀ a' w', Handed J n a' w' → K a' w') → rest.wp P (Exit.jump l K Q) a w)
    (first : ∀ (L : Act → World → Prop), (∀ n a w, I n a w → rest.wp P (Exit.jump l L Q) a w) → c.wp P (Exit.jump l L Q) a w) : (Code.scope c).wp P Q a w := by
  have skip : ∀ {a : Act} {w : World} {R : Exit → Act → World → Prop}, rest.wp P R a w → (Code.seq .skip rest).wp P R a w := fun h => wp_seq (wp_skip h)
  refine wp_scope_jumps l (fun a w => ∃ n, I n a w) (fun a w => leastOf (fun n => I n a w)) hf ?_ ?_
  · refine first _ (fun n a w h => wp_mono (round n a w h I (fun a' w' => ∃ n, I n a' w') (fun _ _ _ q => q) (fun _ _ ⟨m, _, q⟩ => ⟨m, q⟩)) (fun _ _ _ q => q))
  · intro a w hI
    refine skip (wp_mono (round _ a w (leastOf_spec hI).1 I (fun a' w' => ∃ m, m < leastOf (fun n => I n a w) ∧ I m a' w') (fun _ _ _ q => q) (fun _ _ q => q)) ?_)
    intro e a' w' hq
    cases e with
    | normal => exact hq
    | exit id => exact hq
    | goto l' =>
      obtain ⟨hl, n', hlt, hI'⟩ := hq
      exact ⟨hl, ⟨n', hI'⟩, Nat.lt_of_le_of_lt ((leastOf_spec ⟨n', hI'⟩).2 n' hI') hlt⟩
    | ret => exact hq
    | panic ch => exact hq
    | outgrown => exact hq
theorem jump_goto {l : Nat} {J : Act → World → Prop} {Q : Exit → Act → World → Prop} {a : Act} {w : World} (h : J a w) : Exit.jump l J Q (.goto l) a w := ⟨rfl, h⟩
end Go.Proofs.YtadcekchmaiihaaW.PrintWords
