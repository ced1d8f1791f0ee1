/- What is known of the world from the start: blocks that hold what the program's text lays there, and are data. -/
import Derived.Test.YtdbenenonfldkaaDoorERel
import Derived.Lib.ItoaNum
namespace Go.Proofs.YtdbenenonfldkaaDoor.PE
set_option linter.unusedVariables false
open Go.RowKit
/-- The blocks, and what they hold: the powers of ten. -/
noncomputable def knownB : List (Nat × Array Value) := [(0, (Lib.pow10Tab.map fun z => Value.int .u64 z).toArray)]
def Known (w : World) (F : Nat → Prop) : Prop := ∀ p ∈ knownB, F p.1 ∧ ∃ T fr, w.heap[p.1]? = some (.cells p.2 T fr)
class KnownC (w : World) (F : Nat → Prop) : Prop where
  out : Known w F
theorem Known.mono {w : World} {F F' : Nat → Prop} (h : Known w F) (hF : ∀ b, F b → F' b) : Known w F' := fun p hp => ⟨hF _ (h p hp).1, (h p hp).2⟩
theorem Known.step {mine : Nat → Prop} {w w' : World} {F F' : Nat → Prop} (h : Known w F) (st : Step mine w F w' F') : Known w' F' := fun p hp => by
  obtain ⟨h1, T, fr, h2⟩ := h p hp
  exact ⟨st.grow _ h1, T, fr, by rw [st.data _ h1]; exact h2⟩
end Go.Proofs.YtdbenenonfldkaaDoor.PE
