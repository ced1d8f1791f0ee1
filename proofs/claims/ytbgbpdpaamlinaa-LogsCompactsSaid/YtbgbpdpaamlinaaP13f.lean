/- Logs: what a row's arguments are. -/
import Derived.Test.YtbgbpdpaamlinaaP13e
import Derived.Test.YtbgbpdpaamlinaaERow
namespace Go.Proofs.Ytbgbpdpaamlinaa.PE
set_option linter.unusedVariables false
theorem big_of {l : Es} (h : Wf (.slice (.pair (.int .i64) (.slice (.int .u8)))) l) : Big l := ⟨h.1, fun e he => (h.2 e he).2.1⟩
end Go.Proofs.Ytbgbpdpaamlinaa.PE
