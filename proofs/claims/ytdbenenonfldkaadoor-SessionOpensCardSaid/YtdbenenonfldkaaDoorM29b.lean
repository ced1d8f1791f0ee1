/- Points of the plane as pairs of whole numbers: turns, quarters, distances. Which part of the circle a point lies in; keys of texts. Keys of texts, and where a name belongs. -/
import Derived.Test.YtdbenenonfldkaaDoorELib
import Derived.Test.YtdbenenonfldkaaDoorX29p
namespace Go.Proofs.YtdbenenonfldkaaDoor.PE
set_option linter.unusedVariables false
open Go
attribute [local irreducible] compass_Turn_l0 compass_Key_l0 ref03_Part_l0 ref03_Key_l0
def Sm (a : Int) : Prop := -32768 ≤ a ∧ a ≤ 32768
theorem whole_of {n : Int} (h1 : -9007199254740992 < n) (h2 : n < 9007199254740992) : whole n = true := by
  unfold whole; simp [h1, h2]
theorem wrap_i16 {x : Int} : IntKind.i16.wrap x = if x % 65536 ≥ 32768 then x % 65536 - 65536 else x % 65536 := by
  show (let m := x % (65536 : Int); if (true && decide (m ≥ (32768 : Int))) = true then m - (65536 : Int) else m) = _
  simp only [Bool.true_and, decide_eq_true_eq]
theorem tmod_pos {x n : Int} (hx : 0 ≤ x) : x.tmod n = x % n := Int.tmod_eq_emod_of_nonneg hx
theorem tmod_four (x : Int) : x.tmod 4 = if 0 ≤ x then x % 4 else -((-x) % 4) := by
  split
  · exact Int.tmod_eq_emod_of_nonneg ‹_›
  · have := Int.neg_tmod (a := -x) (b := 4)
    rw [Int.neg_neg] at this
    rw [this, Int.tmod_eq_emod_of_nonneg (by omega)]
theorem and_three {x : Int} : ((BitVec.ofInt IntKind.i64.bits x &&& BitVec.ofInt IntKind.i64.bits 3).toNat : Int) = x % 4 := by
  have h1 : (BitVec.ofInt IntKind.i64.bits x &&& BitVec.ofInt IntKind.i64.bits 3).toNat = (x % 18446744073709551616).toNat % 4 := by
    rw [BitVec.toNat_and, BitVec.toNat_ofInt, BitVec.toNat_ofInt]
    have e1 : ((2 ^ IntKind.i64.bits : Nat) : Int) = 18446744073709551616 := by decide
    have e2 : ((3 : Int) % ((2 ^ IntKind.i64.bits : Nat) : Int)).toNat = 2 ^ 2 - 1 := by decide
    rw [e2, Nat.and_two_pow_sub_one_eq_mod, e1]
  rw [h1]
  omega
/-- A point turned by quarters. -/
def qt (a b n : Int) : Int × Int := if n % 4 = 1 then (-b, a) else if n % 4 = 2 then (-a, -b) else if n % 4 = 3 then (b, -a) else (a, b)
theorem Turn_step {a b r k : Int} (ha : Sm a) (hb : Sm b) (h0 : 0 ≤ k) (h : k < r) (hr : r ≤ 3) : compass_Turn_l0 a b r k = compass_Turn_l0 (-b) a r (k + 1) := by
  obtain ⟨a1, a2⟩ := ha
  obtain ⟨b1, b2⟩ := hb
  rw [compass_Turn_l0_eq]
  simp only [Int.mul_zero, Int.mul_one, Int.zero_sub, Int.add_zero]
  rw [decide_eq_true h, whole_of (n := 0) (by omega) (by omega), whole_of (n := b) (by omega) (by omega), whole_of (n := -b) (by omega) (by omega), whole_of (n := a) (by omega) (by omega), wrap_i64 (by omega) (by omega)]
  rfl
theorem Turn_stop {a b r k : Int} (h : ¬ k < r) : compass_Turn_l0 a b r k = some (a, b) := by
  rw [compass_Turn_l0_eq, decide_eq_false h]; rfl
theorem neg_sm {a : Int} (h : Sm a) : Sm (-a) := ⟨by have := h.2; omega, by have := h.1; omega⟩
theorem Turn_says {z : Int × Int} {n : Int} (ha : Sm z.1) (hb : Sm z.2) : compass_Turn z n = some (qt z.1 z.2 n) := by
  rw [compass_Turn_eq, and_three, wrap_i64 (by omega) (by omega)]
  obtain ⟨a, b⟩ := z
  simp only at ha hb ⊢
  unfold qt
  have h4 : n % 4 = 0 ∨ n % 4 = 1 ∨ n % 4 = 2 ∨ n % 4 = 3 := by omega
  rcases h4 with h | h | h | h <;> rw [h]
  · rw [Turn_stop (by omega)]; rfl
  · rw [Turn_step ha hb (by omega) (by omega) (by omega), Turn_stop (by omega)]; rfl
  · rw [Turn_step ha hb (by omega) (by omega) (by omega), Turn_step (neg_sm hb) ha (by omega) (by omega) (by omega), Turn_stop (by omega)]; rfl
  · rw [Turn_step ha hb (by omega) (by omega) (by omega), Turn_step (neg_sm hb) ha (by omega) (by omega) (by omega), Turn_step (neg_sm ha) (neg_sm hb) (by omega) (by omega) (by omega), Turn_stop (by omega), Int.neg_neg]; rfl
theorem qt_sm {a b n : Int} (ha : Sm a) (hb : Sm b) : Sm (qt a b n).1 ∧ Sm (qt a b n).2 := by
  unfold qt Sm at *
  split
  · exact ⟨by simp only; omega, ha⟩
  · split
    · exact ⟨by simp only; omega, by simp only; omega⟩
    · split
      · exact ⟨hb, by simp only; omega⟩
      · exact ⟨ha, hb⟩
/-- A point's quarter. -/
def quad (a b : Int) : Int := if 0 < a ∧ 0 ≤ b then 0 else if 0 < b ∧ a ≤ 0 then 1 else if a < 0 ∧ b ≤ 0 then 2 else if b < 0 ∧ 0 ≤ a then 3 else 0
theorem quad_range (a b : Int) : 0 ≤ quad a b ∧ quad a b ≤ 3 := by
  unfold quad; repeat' split
  all_goals omega
theorem Quarter_says {z : Int × Int} (ha : Sm z.1) (hb : Sm z.2) : compass_Quarter z = some (quad z.1 z.2) := by
  have e0 : IntKind.i64.wrap (0 - 0) = 0 := by decide
  have e1 : IntKind.i64.wrap (0 + 1) = 1 := by decide
  have e2 : IntKind.i64.wrap (1 + 1) = 2 := by decide
  have e3 : IntKind.i64.wrap (2 + 1) = 3 := by decide
  have f1 : IntKind.i64.wrap (0 - 1) = -1 := by decide
  have f2 : IntKind.i64.wrap (0 - 2) = -2 := by decide
  have f3 : IntKind.i64.wrap (0 - 3) = -3 := by decide
  have t : ∀ n, compass_Turn z n = some (qt z.1 z.2 n) := fun n => Turn_says ha hb
  have q0 : qt z.1 z.2 0 = (z.1, z.2) := rfl
  have q1 : qt z.1 z.2 (-1) = (z.2, -z.1) := rfl
  have q2 : qt z.1 z.2 (-2) = (-z.1, -z.2) := rfl
  have q3 : qt z.1 z.2 (-3) = (-z.2, z.1) := rfl
  rw [compass_Quarter_eq]
  simp -implicitDefEqProofs only [e0, e1, e2, e3, f1, f2, f3, t, q0, q1, q2, q3, Option.bind_some, Bool.cond_decide]
  obtain ⟨a, b⟩ := z
  unfold quad
  simp only
  repeat' split
  all_goals first | rfl | (exfalso; omega)
theorem mul_bd {a b : Int} (ha : Sm a) (hb : Sm b) : -1073741824 ≤ a * b ∧ a * b ≤ 1073741824 := by
  have h1 : a.natAbs ≤ 32768 := by have := ha.1; have := ha.2; omega
  have h2 : b.natAbs ≤ 32768 := by have := hb.1; have := hb.2; omega
  have h3 : (a * b).natAbs ≤ 32768 * 32768 := by rw [Int.natAbs_mul]; exact Nat.mul_le_mul h1 h2
  omega
theorem refTurn_says {a b n : Int} (ha : Sm a) (hb : Sm b) (h1 : -9223372036854775808 ≤ n) (h2 : n ≤ 9223372036854775807) : ref03_Turn a b n = some (qt a b n) := by
  obtain ⟨a1, a2⟩ := ha
  obtain ⟨b1, b2⟩ := hb
  rw [ref03_Turn_eq, tmod_four n]
  have e : IntKind.i64.wrap ((if 0 ≤ n then n % 4 else -(-n % 4)) + 4) = (if 0 ≤ n then n % 4 else -(-n % 4)) + 4 := by
    split <;> exact wrap_i64 (by omega) (by omega)
  rw [e, tmod_pos (by split <;> omega), wrap_i64 (x := 0 - b) (by omega) (by omega), wrap_i64 (x := 0 - a) (by omega) (by omega)]
  have e2 : ((if 0 ≤ n then n % 4 else -(-n % 4)) + 4) % 4 = n % 4 := by split <;> omega
  rw [e2, Int.zero_sub, Int.zero_sub]
  unfold qt
  have h4 : n % 4 = 0 ∨ n % 4 = 1 ∨ n % 4 = 2 ∨ n % 4 = 3 := by omega
  rcases h4 with h | h | h | h <;> rw [h] <;> rfl
theorem refQuarter_says (a b : Int) : ref03_Quarter a b = some (quad a b) := by
  rw [ref03_Quarter_eq]
  simp -implicitDefEqProofs only [Bool.cond_decide]
  unfold quad
  repeat' split
  all_goals first | rfl | (exfalso; omega)
end Go.Proofs.YtdbenenonfldkaaDoor.PE

namespace Go.Proofs.YtdbenenonfldkaaDoor.PE
open Go
/-- Which of n parts. -/
def prt (a b n : Int) : Int := let s := (qt a b (-quad a b)).1 + (qt a b (-quad a b)).2; (quad a b * s + (qt a b (-quad a b)).2) * n / (4 * s)
theorem turned_back {a b : Int} (h : ¬ (a = 0 ∧ b = 0)) : 0 < (qt a b (-quad a b)).1 ∧ 0 ≤ (qt a b (-quad a b)).2 := by
  have e1 : (-(1 : Int)) % 4 = 3 := by decide
  have e2 : (-(2 : Int)) % 4 = 2 := by decide
  have e3 : (-(3 : Int)) % 4 = 1 := by decide
  unfold quad
  split
  · simp [qt]; omega
  · split
    · simp [qt, e1]; omega
    · split
      · simp [qt, e2]; omega
      · split
        · simp [qt, e3]; omega
        · omega
theorem qt_zero (n : Int) : qt 0 0 n = (0, 0) := by unfold qt; (repeat' split) <;> rfl
/-- The numbers that a part comes of are small. -/
theorem part_bounds {q s d n : Int} (hq : 0 ≤ q ∧ q ≤ 3) (hs : 0 < s ∧ s ≤ 65536) (hd : 0 ≤ d ∧ d < s) (hn : 1 ≤ n ∧ n ≤ 64) : 0 ≤ q * s ∧ q * s + d < 4 * s ∧ 0 ≤ (q * s + d) * n ∧ (q * s + d) * n < 4 * s * n ∧ 4 * s * n ≤ 16777216 := by
  have h1 : 0 ≤ q * s := Int.mul_nonneg hq.1 (by omega)
  have h2 : q * s ≤ 3 * s := Int.mul_le_mul_of_nonneg_right hq.2 (by omega)
  have h3 : 0 ≤ (q * s + d) * n := Int.mul_nonneg (by omega) (by omega)
  have h4 : (q * s + d) * n < 4 * s * n := Int.mul_lt_mul_of_pos_right (by omega) (by omega)
  have h5 : 4 * s * n ≤ 4 * s * 64 := Int.mul_le_mul_of_nonneg_left hn.2 (by omega)
  exact ⟨h1, by omega, h3, h4, by omega⟩
theorem prt_range {a b n : Int} (ha : Sm a) (hb : Sm b) (hn : 1 ≤ n ∧ n ≤ 64) (h : ¬ (a = 0 ∧ b = 0)) : 0 ≤ prt a b n ∧ prt a b n < n := by
  obtain ⟨h1, h2⟩ := turned_back h
  obtain ⟨k1, k2⟩ := qt_sm (n := -quad a b) ha hb
  unfold prt
  simp only
  have hq := quad_range a b
  generalize (qt a b (-quad a b)).1 = c at *
  generalize (qt a b (-quad a b)).2 = d at *
  generalize quad a b = q at *
  obtain ⟨c1, c2⟩ := k1
  obtain ⟨d1, d2⟩ := k2
  obtain ⟨_, _, b3, b4, _⟩ := part_bounds (q := q) (s := c + d) (d := d) (n := n) hq ⟨by omega, by omega⟩ ⟨h2, by omega⟩ hn
  refine ⟨Int.ediv_nonneg b3 (by omega), Int.ediv_lt_of_lt_mul (by omega) ?_⟩
  rw [Int.mul_comm n]; exact b4
/-- What a part is, and what is wrong. -/
def prtE (a b n : Int) : Int × Int := if n < 1 ∨ n > 64 then (0, 2) else if a = 0 ∧ b = 0 then (0, 0) else (prt a b n, 0)
theorem Part_says {z : Int × Int} {n : Int} (ha : Sm z.1) (hb : Sm z.2) : compass_Part z n = some (prtE z.1 z.2 n) := by
  rw [compass_Part_eq, Quarter_says ha hb]
  simp only [Option.bind_some]
  have hq := quad_range z.1 z.2
  rw [Int.zero_sub, wrap_i64 (by omega) (by omega), Turn_says ha hb]
  obtain ⟨a, b⟩ := z
  simp only [Option.bind_some] at *
  unfold prtE
  by_cases n1 : n < 1
  · rw [decide_eq_true n1, if_pos (.inl n1)]; rfl
  by_cases n2 : n > 64
  · rw [decide_eq_false n1, decide_eq_true n2, if_pos (.inr n2)]; rfl
  rw [decide_eq_false n1, decide_eq_false n2, if_neg (by omega)]
  simp only [cond_false]
  obtain ⟨k1, k2⟩ := qt_sm (n := -quad a b) ha hb
  have m1 : IntKind.i64.min = -9223372036854775808 := by decide
  have m2 : IntKind.i64.max = 9223372036854775807 := by decide
  obtain ⟨c1, c2⟩ := k1
  obtain ⟨d1, d2⟩ := k2
  rw [m1, m2, decide_eq_true (by omega), decide_eq_true (by omega), decide_eq_true (by omega), decide_eq_true (by omega)]
  simp only [Bool.and_self, cond_true]
  rw [wrap_i64 (x := (qt a b (-quad a b)).1 + (qt a b (-quad a b)).2) (by omega) (by omega)]
  by_cases h : a = 0 ∧ b = 0
  · rw [if_pos h]
    obtain ⟨rfl, rfl⟩ := h
    rw [qt_zero]; rfl
  · rw [if_neg h]
    obtain ⟨h1, h2⟩ := turned_back h
    unfold prt
    simp only
    generalize (qt a b (-quad a b)).1 = c at *
    generalize (qt a b (-quad a b)).2 = d at *
    generalize quad a b = q at *
    obtain ⟨b1, b2, b3, b4, b5⟩ := part_bounds (q := q) (s := c + d) (d := d) (n := n) hq ⟨by omega, by omega⟩ ⟨h2, by omega⟩ ⟨by omega, by omega⟩
    rw [beq_no (by omega), wrap_i64 (x := 4 * (c + d)) (by omega) (by omega), decide_eq_false (by omega)]
    simp only [cond_false]
    rw [wrap_i64 (x := q * (c + d)) (by omega) (by omega), wrap_i64 (x := q * (c + d) + d) (by omega) (by omega), wrap_i64 (x := (q * (c + d) + d) * n) (by omega) (by omega), Int.tdiv_eq_ediv_of_nonneg b3]
    have hlt : (q * (c + d) + d) * n / (4 * (c + d)) < 64 := Int.ediv_lt_of_lt_mul (by omega) (by
      have : 4 * (c + d) * n ≤ 4 * (c + d) * 64 := Int.mul_le_mul_of_nonneg_left (by omega) (by omega)
      omega)
    have hge : 0 ≤ (q * (c + d) + d) * n / (4 * (c + d)) := Int.ediv_nonneg b3 (by omega)
    rw [wrap_i64 (by omega) (by omega)]
theorem refPart_loop {n q c d : Int} (hn : 1 ≤ n ∧ n ≤ 64) (hq : 0 ≤ q ∧ q ≤ 3) (hc : 0 < c ∧ c ≤ 32768) (hd : 0 ≤ d ∧ d ≤ 32768) : ∀ (m : Nat) (k : Int), k = (q * (c + d) + d) * n / (4 * (c + d)) + m → k < n →
    ref03_Part_l0 n q c d k = some ((q * (c + d) + d) * n / (4 * (c + d)), 0) := by
  obtain ⟨b1, b2, b3, b4, b5⟩ := part_bounds (q := q) (s := c + d) (d := d) (n := n) hq ⟨by omega, by omega⟩ ⟨hd.1, by omega⟩ hn
  have hge : 0 ≤ (q * (c + d) + d) * n / (4 * (c + d)) := Int.ediv_nonneg b3 (by omega)
  intro m
  induction m with
  | zero =>
    intro k hk hkn
    rw [ref03_Part_l0_eq]
    by_cases h0 : k > 0
    · have hle : k * (4 * (c + d)) ≤ (q * (c + d) + d) * n := by rw [hk]; simp only [Int.natCast_zero, Int.add_zero]; exact Int.ediv_mul_le _ (by omega)
      have hkb : k * (4 * (c + d)) ≤ 16777216 := by omega
      have hk0 : 0 ≤ k * (4 * (c + d)) := Int.mul_nonneg (by omega) (by omega)
      have e1 : 4 * k * (c + d) = k * (4 * (c + d)) := by rw [Int.mul_comm 4 k, Int.mul_assoc]
      rw [decide_eq_true h0, wrap_i64 (x := 4 * k) (by omega) (by omega), wrap_i64 (x := c + d) (by omega) (by omega), e1, wrap_i64 (x := q * (c + d)) (by omega) (by omega), wrap_i64 (x := q * (c + d) + d) (by omega) (by omega), Int.mul_comm n, wrap_i64 (by omega) (by omega), wrap_i64 (by omega) (by omega), decide_eq_true hle]
      simp only [cond_true]
      rw [hk]; simp
    · rw [decide_eq_false h0]
      have : k = 0 := by omega
      rw [this] at hk
      simp only [cond_false]
      rw [show (q * (c + d) + d) * n / (4 * (c + d)) = 0 by omega]
  | succ m ih =>
    intro k hk hkn
    rw [ref03_Part_l0_eq]
    have hgt : ¬ k * (4 * (c + d)) ≤ (q * (c + d) + d) * n := by
      intro hle
      have := Int.le_ediv_of_mul_le (by omega) hle
      omega
    have hkb : k * (4 * (c + d)) ≤ n * (4 * (c + d)) := Int.mul_le_mul_of_nonneg_right (by omega) (by omega)
    have hkb2 : n * (4 * (c + d)) = 4 * (c + d) * n := Int.mul_comm _ _
    have hk0 : 0 ≤ k * (4 * (c + d)) := Int.mul_nonneg (by omega) (by omega)
    have e1 : 4 * k * (c + d) = k * (4 * (c + d)) := by rw [Int.mul_comm 4 k, Int.mul_assoc]
    rw [decide_eq_true (by omega), wrap_i64 (x := 4 * k) (by omega) (by omega), wrap_i64 (x := c + d) (by omega) (by omega), e1, wrap_i64 (x := q * (c + d)) (by omega) (by omega), wrap_i64 (x := q * (c + d) + d) (by omega) (by omega), Int.mul_comm n, wrap_i64 (by omega) (by omega), wrap_i64 (by omega) (by omega), decide_eq_false hgt, wrap_i64 (x := k - 1) (by omega) (by omega)]
    simp only [cond_true, cond_false]
    exact ih (k - 1) (by rw [hk]; push_cast; omega) (by omega)
theorem refPart_says {a b n : Int} (ha : Sm a) (hb : Sm b) : ref03_Part a b n = some (prtE a b n) := by
  have hq := quad_range a b
  rw [ref03_Part_eq, refQuarter_says]
  simp only [Option.bind_some]
  rw [Int.zero_sub, wrap_i64 (x := -quad a b) (by omega) (by omega), refTurn_says ha hb (by omega) (by omega)]
  simp only [Option.bind_some]
  unfold prtE
  by_cases n1 : n < 1
  · rw [decide_eq_true n1, if_pos (.inl n1)]; rfl
  by_cases n2 : n > 64
  · rw [decide_eq_false n1, decide_eq_true n2, if_pos (.inr n2)]; rfl
  rw [decide_eq_false n1, decide_eq_false n2, if_neg (by omega)]
  simp only [cond_false]
  by_cases h : a = 0 ∧ b = 0
  · rw [if_pos h, beq_yes h.1, beq_yes h.2]; rfl
  have hl : ref03_Part_l0 n (quad a b) (qt a b (-quad a b)).1 (qt a b (-quad a b)).2 (IntKind.i64.wrap (n - 1)) = some (prt a b n, 0) := by
    obtain ⟨h1, h2⟩ := turned_back h
    obtain ⟨k1, k2⟩ := qt_sm (n := -quad a b) ha hb
    obtain ⟨r1, r2⟩ := prt_range ha hb ⟨by omega, by omega⟩ h (n := n)
    rw [wrap_i64 (by omega) (by omega)]
    refine refPart_loop ⟨by omega, by omega⟩ hq ⟨h1, k1.2⟩ ⟨h2, k2.2⟩ (n - 1 - prt a b n).toNat _ ?_ (by omega)
    show n - 1 = prt a b n + _
    omega
  rw [if_neg h, hl]
  by_cases h0 : a = 0
  · have h1 : ¬ b = 0 := fun e => h ⟨h0, e⟩
    rw [beq_yes h0, beq_no h1]; rfl
  · rw [beq_no h0]; rfl
end Go.Proofs.YtdbenenonfldkaaDoor.PE

namespace Go.Proofs.YtdbenenonfldkaaDoor.PE
open Go
def kstep (k c : Int) : Int := ((k.toNat ^^^ c.toNat : Nat) : Int) * 16777619 % 4294967296
def keyS (l : List Int) : Int := l.foldl kstep 2166136261
def Byt (c : Int) : Prop := 0 ≤ c ∧ c < 256
def U32 (k : Int) : Prop := 0 ≤ k ∧ k < 4294967296
theorem kstep_u32 (k c : Int) : U32 (kstep k c) := by unfold kstep U32; omega
theorem keyF_u32 : ∀ (l : List Int) (k : Int), U32 k → U32 (l.foldl kstep k)
  | [], _, h => h
  | c :: r, k, _ => keyF_u32 r (kstep k c) (kstep_u32 k c)
theorem xor32 {k c : Int} (hk : U32 k) (hc : Byt c) : ((BitVec.ofInt IntKind.u32.bits k ^^^ BitVec.ofInt IntKind.u32.bits (IntKind.u32.wrap c)).toNat : Int) = ((k.toNat ^^^ c.toNat : Nat) : Int) := by
  obtain ⟨k1, k2⟩ := hk
  obtain ⟨c1, c2⟩ := hc
  rw [BitVec.toNat_xor, BitVec.toNat_ofInt, BitVec.toNat_ofInt, wrap_u32]
  have e1 : ((2 ^ IntKind.u32.bits : Nat) : Int) = 4294967296 := by decide
  rw [e1, show k % 4294967296 = k by omega, show c % 4294967296 % 4294967296 = c by omega]
theorem xor64 {k c : Int} (hk : 0 ≤ k ∧ k < 256) (hc : Byt c) : ((BitVec.ofInt IntKind.u64.bits k ^^^ BitVec.ofInt IntKind.u64.bits (IntKind.u64.wrap c)).toNat : Int) = ((k.toNat ^^^ c.toNat : Nat) : Int) := by
  obtain ⟨k1, k2⟩ := hk
  obtain ⟨c1, c2⟩ := hc
  rw [BitVec.toNat_xor, BitVec.toNat_ofInt, BitVec.toNat_ofInt, wrap_u64']
  have e1 : ((2 ^ IntKind.u64.bits : Nat) : Int) = 18446744073709551616 := by decide
  rw [e1, show k % 18446744073709551616 = k by omega, show c % 18446744073709551616 % 18446744073709551616 = c by omega]
theorem xor_lt32 {k c : Int} (hk : U32 k) (hc : Byt c) : ((k.toNat ^^^ c.toNat : Nat) : Int) < 4294967296 := by
  obtain ⟨k1, k2⟩ := hk
  obtain ⟨c1, c2⟩ := hc
  have : k.toNat ^^^ c.toNat < 2 ^ 32 := Nat.xor_lt_two_pow (by omega) (by omega)
  omega
theorem xor_low {k c : Int} (hk : U32 k) (hc : Byt c) : ((k.toNat ^^^ c.toNat : Nat) : Int) = k - k % 256 + (((k % 256).toNat ^^^ c.toNat : Nat) : Int) := by
  obtain ⟨k1, k2⟩ := hk
  obtain ⟨c1, c2⟩ := hc
  have e : (k % 256).toNat = k.toNat % 2 ^ 8 := by omega
  rw [e]
  have h1 : (k.toNat ^^^ c.toNat) / 2 ^ 8 = k.toNat / 2 ^ 8 ^^^ c.toNat / 2 ^ 8 := Nat.xor_div_two_pow
  have h2 : (k.toNat ^^^ c.toNat) % 2 ^ 8 = k.toNat % 2 ^ 8 ^^^ c.toNat % 2 ^ 8 := Nat.xor_mod_two_pow
  have h3 : c.toNat / 2 ^ 8 = 0 := by omega
  have h4 : c.toNat % 2 ^ 8 = c.toNat := by omega
  rw [h3, Nat.xor_zero] at h1
  rw [h4] at h2
  generalize k.toNat ^^^ c.toNat = x at *
  generalize k.toNat % 2 ^ 8 ^^^ c.toNat = y at *
  omega
theorem low_lt {k c : Int} (hk : 0 ≤ k ∧ k < 256) (hc : Byt c) : ((k.toNat ^^^ c.toNat : Nat) : Int) < 256 := by
  obtain ⟨k1, k2⟩ := hk
  obtain ⟨c1, c2⟩ := hc
  have : k.toNat ^^^ c.toNat < 2 ^ 8 := Nat.xor_lt_two_pow (by omega) (by omega)
  omega
theorem Key_loop (l : List Int) (hl : l.length ≤ 140737488351232) (hb : ∀ c ∈ l, Byt c) : ∀ (r : List Int) (i : Nat) (k : Int), l.drop i = r → U32 k → compass_Key_l0 k l.length i l = some (r.foldl kstep k) := by
  intro r
  induction r with
  | nil =>
    intro i k h _
    have hi := at_nil h
    rw [compass_Key_l0_eq, decide_eq_false (by omega)]; rfl
  | cons c r ih =>
    intro i k h hk
    obtain ⟨h1, h2, h3⟩ := at_drop h
    have hc : Byt c := hb c (List.mem_of_getElem? h2)
    rw [compass_Key_l0_eq, ilen_eq, decide_eq_true (by omega), decide_eq_true (by omega)]
    simp only [cond_true, Int.toNat_natCast, h2, Option.bind_some]
    have hx := xor_lt32 hk hc
    rw [xor32 hk hc, wrap_u32, wrap_u32, wrap_succ (by omega)]
    rw [show ((k.toNat ^^^ c.toNat : Nat) : Int) % 4294967296 = ((k.toNat ^^^ c.toNat : Nat) : Int) by omega]
    exact ih (i + 1) (kstep k c) h3 (kstep_u32 k c)
theorem bytes_byt (s : ByteArray) : ∀ c ∈ bytesList s, Byt c := by
  intro c hc
  obtain ⟨b, _, rfl⟩ := List.mem_map.1 hc
  have := b.toNat_lt
  exact ⟨by omega, by omega⟩
theorem Key_says {s : ByteArray} (hs : s.size ≤ 140737488351232) : compass_Key s = some (keyS (bytesList s)) := by
  rw [compass_Key_eq, ilen_eq]
  exact Key_loop (bytesList s) (by rw [bytesList_length]; exact hs) (bytes_byt s) _ 0 _ rfl ⟨by decide, by decide⟩
theorem refKey_loop (s : ByteArray) (hs : s.size ≤ 140737488351232) : ∀ (r : List Int) (i : Nat) (k : Int), (bytesList s).drop i = r → U32 k → ref03_Key_l0 s k i = some (r.foldl kstep k) := by
  intro r
  induction r with
  | nil =>
    intro i k h hk
    have hi := at_nil h
    rw [bytesList_length] at hi
    obtain ⟨k1, k2⟩ := hk
    rw [ref03_Key_l0_eq, isize_eq, decide_eq_false (by omega)]
    simp only [cond_false, List.foldl_nil]
    rw [wrap_u32, show k % 4294967296 = k by omega]
  | cons c r ih =>
    intro i k h hk
    obtain ⟨h1, h2, h3⟩ := at_drop h
    rw [bytesList_length] at h1
    have hc : Byt c := bytes_byt s c (List.mem_of_getElem? h2)
    obtain ⟨b, hb, hcb⟩ := bytesList_get h2
    rw [Array.getElem?_toList] at hb
    have hk' := hk
    obtain ⟨k1, k2⟩ := hk'
    rw [ref03_Key_l0_eq, isize_eq, decide_eq_true (by omega), decide_eq_true (by omega)]
    simp only [cond_true, Int.toNat_natCast, hb, Option.bind_some]
    rw [← hcb, tmod_pos k1, xor64 ⟨by omega, by omega⟩ hc]
    have hlow := low_lt (k := k % 256) ⟨by omega, by omega⟩ hc
    have hx := xor_low hk hc
    have hx2 := xor_lt32 hk hc
    have hnn : 0 ≤ (((k % 256).toNat ^^^ c.toNat : Nat) : Int) := by omega
    rw [wrap_u64 (x := (((k % 256).toNat ^^^ c.toNat : Nat) : Int)) (by omega) (by omega), wrap_u64 (x := k - k % 256) (by omega) (by omega), ← hx, wrap_u64 (x := ((k.toNat ^^^ c.toNat : Nat) : Int)) (by omega) (by omega),
      wrap_u64 (x := ((k.toNat ^^^ c.toNat : Nat) : Int) * 16777619) (by omega) (by omega), tmod_pos (by omega), wrap_succ (by omega)]
    exact ih (i + 1) (kstep k c) h3 (kstep_u32 k c)
theorem refKey_says {s : ByteArray} (hs : s.size ≤ 140737488351232) : ref03_Key s = some (keyS (bytesList s)) := by
  rw [ref03_Key_eq]
  exact refKey_loop s hs _ 0 _ rfl ⟨by decide, by decide⟩
theorem keyS_u32 (l : List Int) : U32 (keyS l) := keyF_u32 l _ ⟨by decide, by decide⟩
/-- A key's two parts. -/
def half (k : Int) : Int := if k % 65536 ≥ 32768 then k % 65536 - 65536 else k % 65536
def point (k : Int) : Int × Int := (half k, half (k / 65536))
theorem half_sm (k : Int) : Sm (half k) := by unfold half Sm; split <;> omega
theorem Point_says (k : Int) : compass_Point k = some (point k) := by
  have e : k.fdiv (2 ^ min (Int.toNat 16) IntKind.u32.bits) = k / 65536 := by
    have : (2 : Int) ^ min (Int.toNat 16) IntKind.u32.bits = 65536 := by decide
    rw [this]
    exact Int.fdiv_eq_ediv_of_nonneg k (by decide)
  have h1 : IntKind.i16.wrap k = half k := wrap_i16
  have h2 : IntKind.i16.wrap (k / 65536) = half (k / 65536) := wrap_i16
  obtain ⟨a1, a2⟩ := half_sm k
  obtain ⟨b1, b2⟩ := half_sm (k / 65536)
  rw [compass_Point_eq, e, h1, h2, whole_of (n := half k) (by omega) (by omega), whole_of (n := half (k / 65536)) (by omega) (by omega)]
  rfl
theorem refParts_says {k : Int} (hk : U32 k) : ref03_Parts k = some (point k) := by
  obtain ⟨k1, k2⟩ := hk
  rw [ref03_Parts_eq, tmod_pos k1, Int.tdiv_eq_ediv_of_nonneg k1, wrap_u32]
  rw [wrap_i64 (x := k % 65536) (by omega) (by omega), wrap_i64 (x := k % 65536 - 65536) (by omega) (by omega), wrap_i64 (x := k / 65536 % 4294967296) (by omega) (by omega), wrap_i64 (x := k / 65536 % 4294967296 - 65536) (by omega) (by omega)]
  unfold point half
  have e : k / 65536 % 4294967296 = k / 65536 % 65536 := by omega
  rw [e]
  simp -implicitDefEqProofs only [Bool.cond_decide]
  split <;> split <;> rfl
def route (s : ByteArray) (n : Int) : Int × Int := prtE (point (keyS (bytesList s))).1 (point (keyS (bytesList s))).2 n
theorem Route_says {s : ByteArray} {n : Int} (hs : s.size ≤ 140737488351232) : compass_Route s n = some (route s n) := by
  rw [compass_Route_eq, Key_says hs]
  simp only [Option.bind_some, Point_says]
  rw [Part_says (half_sm _) (half_sm _)]
  rfl
theorem refRoute_says {s : ByteArray} {n : Int} (hs : s.size ≤ 140737488351232) : ref03_Route s n = some (route s n) := by
  rw [ref03_Route_eq, refKey_says hs]
  simp only [Option.bind_some]
  rw [refParts_says (keyS_u32 _)]
  simp only [Option.bind_some]
  rw [show (point (keyS (bytesList s))).1 = half (keyS (bytesList s)) from rfl, show (point (keyS (bytesList s))).2 = half (keyS (bytesList s) / 65536) from rfl, refPart_says (half_sm _) (half_sm _)]
  rfl
end Go.Proofs.YtdbenenonfldkaaDoor.PE

