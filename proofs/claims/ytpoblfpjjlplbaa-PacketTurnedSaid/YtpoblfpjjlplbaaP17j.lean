/- Messages as a program may be handed them. -/
import Derived.Test.YtpoblfpjjlplbaaERow
import Derived.Test.YtpoblfpjjlplbaaP17i
namespace Go.Proofs.Ytpoblfpjjlplbaa.PE
set_option linter.unusedVariables false
open Go Go.RowKit Go.Proofs.Ytpoblfpjjlplbaa.Pack
abbrev mgT : Ty := .pair (.int .i64) (.pair (.int .i64) (.pair (.int .i64) (.pair (.int .i64) (.pair (.int .i64) (.pair (.int .i64) (.pair (.int .i64) (.pair (.int .i64) (.pair .bool (.pair (.slice (.pair (.int .i64) (.slice (.int .u8)))) (.slice (.int .u8)))))))))))
theorem reach17 {n : Nat} (h : n ≤ reachBytes) : n ≤ 140737488355328 := Nat.le_trans h (show reachBytes ≤ 140737488355328 by decide)
theorem wfm_of {m : mgT.den} (w : Wf mgT m) : WfM m := by
  obtain ⟨_, _, _, _, _, _, _, _, _, ⟨l1, e1⟩, ⟨l2, e2⟩⟩ := w
  exact ⟨⟨bytes_of e2, fun e he => bytes_of (e1 e he).2.2⟩, ⟨reach17 l2, fun e he => reach17 (e1 e he).2.1⟩, reach17 l1⟩
theorem wfms_of {l : List mgT.den} (w : Wf (.slice mgT) l) : l.length ≤ 140737488355328 ∧ ∀ m ∈ l, WfM m := ⟨reach17 w.1, fun m hm => wfm_of (w.2 m hm)⟩
end Go.Proofs.Ytpoblfpjjlplbaa.PE
