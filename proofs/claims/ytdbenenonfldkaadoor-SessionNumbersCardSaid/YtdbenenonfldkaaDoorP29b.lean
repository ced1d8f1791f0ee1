/- works, at its values. -/
import Derived.Test.YtdbenenonfldkaaDoorX29
import Derived.Test.YtdbenenonfldkaaDoorELib
import Derived.KernelRfl
namespace Go.Proofs.YtdbenenonfldkaaDoor.PE
set_option linter.unusedVariables false
open Go Go.RowKit
theorem w_read : ref24_Read [10, 5, 1, 2] = some (10, 5, 1, (⟨#[]⟩ : ByteArray), (⟨#[]⟩ : ByteArray), 0, [], [], 2, 0, 0, 0, [], 0) :=
  (ref24_Read_raw _).trans (by kernel_rfl)
end Go.Proofs.YtdbenenonfldkaaDoor.PE
