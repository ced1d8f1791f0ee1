/- What the rows of chapter 23 are handed. -/
import Derived.Test.YtdmfjpcobbkppaaP23w
import Derived.Test.YtdmfjpcobbkppaaERow
namespace Go.Proofs.Ytdmfjpcobbkppaa.PE
set_option linter.unusedVariables false
abbrev TBx : Ty := .pair (.slice (.int .i64)) (.pair (.slice (.pair (.int .i64) (.pair (.int .i64) (.slice (.int .u8))))) (.slice (.int .i64)))
theorem big_of {x : TBx.den} (h : Wf TBx x) : Big x.1 x.2.1 x.2.2 := by
  obtain ⟨⟨h1, _⟩, ⟨h2, h3⟩, h4, _⟩ := h
  unfold reachBytes at h1 h2 h4
  refine ⟨by omega, by omega, by omega, fun e he => ?_⟩
  have := (h3 e he).2.2.1
  unfold reachBytes at this
  omega
theorem r64_of {x : TBx.den} (h : Wf TBx x) : ∀ o ∈ x.2.1, R64 o.2.1 := fun o ho => i64_range (h.2.1.2 o ho).2.1
theorem len_of {l : List Int} (h : Wf (.slice (.int .u8)) l) : l.length ≤ 140737488351232 := by
  have := h.1
  unfold reachBytes at this
  omega
end Go.Proofs.Ytdmfjpcobbkppaa.PE
