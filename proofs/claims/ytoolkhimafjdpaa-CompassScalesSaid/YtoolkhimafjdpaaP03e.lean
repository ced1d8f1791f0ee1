/- What the rows of chapter 03 are handed. -/
import Derived.Test.YtoolkhimafjdpaaP03d
import Derived.Test.YtoolkhimafjdpaaERow
namespace Go.Proofs.Ytoolkhimafjdpaa.PE
set_option linter.unusedVariables false
open Go
theorem i16_sh {n : Int} (h : Wf (.int .i16) n) : Sh n := by
  have h : (Lit.int .i16 n).wf = true := h
  simp only [Lit.wf, Bool.and_eq_true, decide_eq_true_eq] at h
  have e1 : IntKind.i16.min = -32768 := by decide
  have e2 : IntKind.i16.max = 32767 := by decide
  rw [e1, e2] at h
  exact h
theorem i8_r {n : Int} (h : Wf (.int .i8) n) : -128 ≤ n ∧ n ≤ 127 := by
  have h : (Lit.int .i8 n).wf = true := h
  simp only [Lit.wf, Bool.and_eq_true, decide_eq_true_eq] at h
  have e1 : IntKind.i8.min = -128 := by decide
  have e2 : IntKind.i8.max = 127 := by decide
  rw [e1, e2] at h
  exact h
theorem u32_u {n : Int} (h : Wf (.int .u32) n) : U32 n := by have := u32_range h; exact ⟨by omega, by omega⟩
theorem str_sz {s : ByteArray} (h : Wf .str s) : s.size ≤ 140737488351232 := by
  have h : s.size ≤ reachBytes := h
  unfold reachBytes at h; omega
end Go.Proofs.Ytoolkhimafjdpaa.PE
