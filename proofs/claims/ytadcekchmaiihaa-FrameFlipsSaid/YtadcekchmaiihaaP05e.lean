/- What a row gives. -/
import Derived.Test.YtadcekchmaiihaaP05d
import Derived.Test.YtadcekchmaiihaaERow
namespace Go.Proofs.Ytadcekchmaiihaa.PE
set_option linter.unusedVariables false
open Go Go.RowKit Go.Proofs.Ytadcekchmaiihaa.Crc
theorem recs_of {l : List (List Int)} (w : Wf (.slice (.slice (.int .u8))) l) : ∀ r ∈ l, Bytes r ∧ r.length ≤ 140737488355328 := fun r h =>
  ⟨fun x hx => by have := u8_range ((w.2 r h).2 x hx); omega, Nat.le_trans (w.2 r h).1 (show reachBytes ≤ 140737488355328 by decide)⟩
end Go.Proofs.Ytadcekchmaiihaa.PE
