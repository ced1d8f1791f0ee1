/- works, at its values. -/
import Derived.Test.YtdbenenonfldkaaDoorX29
import Derived.Test.YtdbenenonfldkaaDoorELib
import Derived.KernelRfl
namespace Go.Proofs.YtdbenenonfldkaaDoor.PE
set_option linter.unusedVariables false
open Go Go.RowKit
theorem w_open : ses_Open 5 0 3 2 1 [] 0 10 0 0 (⟨#[]⟩ : ByteArray) (⟨#[]⟩ : ByteArray) 0 [] [] 129 0 0 0 [] = some (5, 1, 3, 2, 1, [(1, 1, [10, 5, 1, 2])], 0, 0) :=
  (ses_Open_raw _ _ _ _ _ _ _ _ _ _ _ _ _ _ _ _ _ _ _ _).trans (by kernel_rfl)
end Go.Proofs.YtdbenenonfldkaaDoor.PE
