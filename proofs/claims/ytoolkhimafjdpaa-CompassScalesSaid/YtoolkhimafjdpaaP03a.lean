/- Points of the plane as pairs of whole numbers: turns, quarters, distances. -/
import Derived.Test.YtoolkhimafjdpaaELib
import Derived.Test.YtoolkhimafjdpaaX03
namespace Go.Proofs.Ytoolkhimafjdpaa.PE
set_option linter.unusedVariables false
open Go
def Sm (a : Int) : Prop := -32768 ≤ a ∧ a ≤ 32768
theorem whole_of {n : Int} (h1 : -9007199254740992 < n) (h2 : n < 9007199254740992) : whole n = true := by
  unfold whole; simp [h1, h2]
theorem wrap_i16 {x : Int} : IntKind.i16.wrap x = if x % 65536 ≥ 32768 then x % 65536 - 65536 else x % 65536 := by
  show (let m := x % (65536 : Int); if (true && decide (m ≥ (32768 : Int))) = true then m - (65536 : Int) else m) = _
  simp only [Bool.true_and, decide_eq_true_eq]
theorem tmod_pos {x n : Int} (hx : 0 ≤ x) : x.tmod n = x % n := Int.tmod_eq_emod_of_nonneg hx
theorem tmod_four (x : Int) : x.tmod 4 = if 0 ≤ x then x % 4 else -((-x) % 4) := by
  split
  · exact Int.tmod_eq_emod_of_nonneg ‹_›
  · have := Int.neg_tmod (a := -x) (b := 4)
    rw [Int.neg_neg] at this
    rw [this, Int.tmod_eq_emod_of_nonneg (by omega)]
theorem and_three {x : Int} : ((BitVec.ofInt IntKind.i64.bits x &&& BitVec.ofInt IntKind.i64.bits 3).toNat : Int) = x % 4 := by
  have h1 : (BitVec.ofInt IntKind.i64.bits x &&& BitVec.ofInt IntKind.i64.bits 3).toNat = (x % 18446744073709551616).toNat % 4 := by
    rw [BitVec.toNat_and, BitVec.toNat_ofInt, BitVec.toNat_ofInt]
    have e1 : ((2 ^ IntKind.i64.bits : Nat) : Int) = 18446744073709551616 := by decide
    have e2 : ((3 : Int) % ((2 ^ IntKind.i64.bits : Nat) : Int)).toNat = 2 ^ 2 - 1 := by decide
    rw [e2, Nat.and_two_pow_sub_one_eq_mod, e1]
  rw [h1]
  omega
/-- A point turned by quarters. -/
def qt (a b n : Int) : Int × Int := if n % 4 = 1 then (-b, a) else if n % 4 = 2 then (-a, -b) else if n % 4 = 3 then (b, -a) else (a, b)
theorem Turn_step {a b r k : Int} (ha : Sm a) (hb : Sm b) (h0 : 0 ≤ k) (h : k < r) (hr : r ≤ 3) : compass_Turn_l0 a b r k = compass_Turn_l0 (-b) a r (k + 1) := by
  obtain ⟨a1, a2⟩ := ha
  obtain ⟨b1, b2⟩ := hb
  rw [compass_Turn_l0_eq]
  simp only [Int.mul_zero, Int.mul_one, Int.zero_sub, Int.add_zero]
  rw [decide_eq_true h, whole_of (n := 0) (by omega) (by omega), whole_of (n := b) (by omega) (by omega), whole_of (n := -b) (by omega) (by omega), whole_of (n := a) (by omega) (by omega), wrap_i64 (by omega) (by omega)]
  rfl
theorem Turn_stop {a b r k : Int} (h : ¬ k < r) : compass_Turn_l0 a b r k = some (a, b) := by
  rw [compass_Turn_l0_eq, decide_eq_false h]; rfl
theorem neg_sm {a : Int} (h : Sm a) : Sm (-a) := ⟨by have := h.2; omega, by have := h.1; omega⟩
theorem Turn_says {z : Int × Int} {n : Int} (ha : Sm z.1) (hb : Sm z.2) : compass_Turn z n = some (qt z.1 z.2 n) := by
  rw [compass_Turn_eq, and_three, wrap_i64 (by omega) (by omega)]
  obtain ⟨a, b⟩ := z
  simp only at ha hb ⊢
  unfold qt
  have h4 : n % 4 = 0 ∨ n % 4 = 1 ∨ n % 4 = 2 ∨ n % 4 = 3 := by omega
  rcases h4 with h | h | h | h <;> rw [h]
  · rw [Turn_stop (by omega)]; rfl
  · rw [Turn_step ha hb (by omega) (by omega) (by omega), Turn_stop (by omega)]; rfl
  · rw [Turn_step ha hb (by omega) (by omega) (by omega), Turn_step (neg_sm hb) ha (by omega) (by omega) (by omega), Turn_stop (by omega)]; rfl
  · rw [Turn_step ha hb (by omega) (by omega) (by omega), Turn_step (neg_sm hb) ha (by omega) (by omega) (by omega), Turn_step (neg_sm ha) (neg_sm hb) (by omega) (by omega) (by omega), Turn_stop (by omega), Int.neg_neg]; rfl
theorem qt_sm {a b n : Int} (ha : Sm a) (hb : Sm b) : Sm (qt a b n).1 ∧ Sm (qt a b n).2 := by
  unfold qt Sm at *
  split
  · exact ⟨by simp only; omega, ha⟩
  · split
    · exact ⟨by simp only; omega, by simp only; omega⟩
    · split
      · exact ⟨hb, by simp only; omega⟩
      · exact ⟨ha, hb⟩
/-- A point's quarter. -/
def quad (a b : Int) : Int := if 0 < a ∧ 0 ≤ b then 0 else if 0 < b ∧ a ≤ 0 then 1 else if a < 0 ∧ b ≤ 0 then 2 else if b < 0 ∧ 0 ≤ a then 3 else 0
theorem quad_range (a b : Int) : 0 ≤ quad a b ∧ quad a b ≤ 3 := by
  unfold quad; repeat' split
  all_goals omega
theorem Quarter_says {z : Int × Int} (ha : Sm z.1) (hb : Sm z.2) : compass_Quarter z = some (quad z.1 z.2) := by
  have e0 : IntKind.i64.wrap (0 - 0) = 0 := by decide
  have e1 : IntKind.i64.wrap (0 + 1) = 1 := by decide
  have e2 : IntKind.i64.wrap (1 + 1) = 2 := by decide
  have e3 : IntKind.i64.wrap (2 + 1) = 3 := by decide
  have f1 : IntKind.i64.wrap (0 - 1) = -1 := by decide
  have f2 : IntKind.i64.wrap (0 - 2) = -2 := by decide
  have f3 : IntKind.i64.wrap (0 - 3) = -3 := by decide
  have t : ∀ n, compass_Turn z n = some (qt z.1 z.2 n) := fun n => Turn_says ha hb
  have q0 : qt z.1 z.2 0 = (z.1, z.2) := rfl
  have q1 : qt z.1 z.2 (-1) = (z.2, -z.1) := rfl
  have q2 : qt z.1 z.2 (-2) = (-z.1, -z.2) := rfl
  have q3 : qt z.1 z.2 (-3) = (-z.2, z.1) := rfl
  rw [compass_Quarter_eq]
  simp -implicitDefEqProofs only [e0, e1, e2, e3, f1, f2, f3, t, q0, q1, q2, q3, Option.bind_some, Bool.cond_decide]
  obtain ⟨a, b⟩ := z
  unfold quad
  simp only
  repeat' split
  all_goals first | rfl | (exfalso; omega)
theorem mul_bd {a b : Int} (ha : Sm a) (hb : Sm b) : -1073741824 ≤ a * b ∧ a * b ≤ 1073741824 := by
  have h1 : a.natAbs ≤ 32768 := by have := ha.1; have := ha.2; omega
  have h2 : b.natAbs ≤ 32768 := by have := hb.1; have := hb.2; omega
  have h3 : (a * b).natAbs ≤ 32768 * 32768 := by rw [Int.natAbs_mul]; exact Nat.mul_le_mul h1 h2
  omega
theorem Norm_says {z : Int × Int} (ha : Sm z.1) (hb : Sm z.2) : compass_Norm z = some (z.1 * z.1 + z.2 * z.2) := by
  obtain ⟨a, b⟩ := z
  simp only at ha hb ⊢
  rw [compass_Norm_eq]
  simp only [Int.mul_neg]
  have h1 := mul_bd ha ha
  have h2 := mul_bd hb hb
  have h3 := mul_bd ha hb
  have e : b * a = a * b := Int.mul_comm b a
  rw [e]
  generalize a * a = x at *
  generalize b * b = y at *
  generalize a * b = v at *
  have m1 : IntKind.i64.min = -9223372036854775808 := by decide
  have m2 : IntKind.i64.max = 9223372036854775807 := by decide
  rw [whole_of (n := x) (by omega) (by omega), whole_of (n := -y) (by omega) (by omega), whole_of (n := x - -y) (by omega) (by omega), whole_of (n := -v) (by omega) (by omega), whole_of (n := v) (by omega) (by omega), whole_of (n := -v + v) (by omega) (by omega), m1, m2, decide_eq_true (by omega), decide_eq_true (by omega)]
  rw [Int.sub_neg]
  rfl
theorem refTurn_says {a b n : Int} (ha : Sm a) (hb : Sm b) (h1 : -9223372036854775808 ≤ n) (h2 : n ≤ 9223372036854775807) : ref03_Turn a b n = some (qt a b n) := by
  obtain ⟨a1, a2⟩ := ha
  obtain ⟨b1, b2⟩ := hb
  rw [ref03_Turn_eq, tmod_four n]
  have e : IntKind.i64.wrap ((if 0 ≤ n then n % 4 else -(-n % 4)) + 4) = (if 0 ≤ n then n % 4 else -(-n % 4)) + 4 := by
    split <;> exact wrap_i64 (by omega) (by omega)
  rw [e, tmod_pos (by split <;> omega), wrap_i64 (x := 0 - b) (by omega) (by omega), wrap_i64 (x := 0 - a) (by omega) (by omega)]
  have e2 : ((if 0 ≤ n then n % 4 else -(-n % 4)) + 4) % 4 = n % 4 := by split <;> omega
  rw [e2, Int.zero_sub, Int.zero_sub]
  unfold qt
  have h4 : n % 4 = 0 ∨ n % 4 = 1 ∨ n % 4 = 2 ∨ n % 4 = 3 := by omega
  rcases h4 with h | h | h | h <;> rw [h] <;> rfl
theorem refQuarter_says (a b : Int) : ref03_Quarter a b = some (quad a b) := by
  rw [ref03_Quarter_eq]
  simp -implicitDefEqProofs only [Bool.cond_decide]
  unfold quad
  repeat' split
  all_goals first | rfl | (exfalso; omega)
theorem refNorm_says {a b : Int} (ha : Sm a) (hb : Sm b) : ref03_Norm a b = some (a * a + b * b) := by
  have h1 := mul_bd ha ha
  have h2 := mul_bd hb hb
  rw [ref03_Norm_eq]
  generalize a * a = x at *
  generalize b * b = y at *
  rw [wrap_i64 (x := x) (by omega) (by omega), wrap_i64 (x := y) (by omega) (by omega), wrap_i64 (by omega) (by omega)]
theorem at_says {a b : Int} (ha : Sm a) (hb : Sm b) : law03_at a b = some (a, b) := by
  obtain ⟨a1, a2⟩ := ha
  obtain ⟨b1, b2⟩ := hb
  rw [law03_at_eq, whole_of (n := a) (by omega) (by omega), whole_of (n := b) (by omega) (by omega)]; rfl
end Go.Proofs.Ytoolkhimafjdpaa.PE
