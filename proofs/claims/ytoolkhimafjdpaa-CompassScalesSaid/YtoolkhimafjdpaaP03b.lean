/- Which part of the circle a point lies in; keys of texts. -/
import Derived.Test.YtoolkhimafjdpaaP03a
namespace Go.Proofs.Ytoolkhimafjdpaa.PE
set_option linter.unusedVariables false
open Go
/-- Which of n parts. -/
def prt (a b n : Int) : Int := let s := (qt a b (-quad a b)).1 + (qt a b (-quad a b)).2; (quad a b * s + (qt a b (-quad a b)).2) * n / (4 * s)
theorem turned_back {a b : Int} (h : ¬ (a = 0 ∧ b = 0)) : 0 < (qt a b (-quad a b)).1 ∧ 0 ≤ (qt a b (-quad a b)).2 := by
  have e1 : (-(1 : Int)) % 4 = 3 := by decide
  have e2 : (-(2 : Int)) % 4 = 2 := by decide
  have e3 : (-(3 : Int)) % 4 = 1 := by decide
  unfold quad
  split
  · simp [qt]; omega
  · split
    · simp [qt, e1]; omega
    · split
      · simp [qt, e2]; omega
      · split
        · simp [qt, e3]; omega
        · omega
theorem qt_zero (n : Int) : qt 0 0 n = (0, 0) := by unfold qt; (repeat' split) <;> rfl
/-- The numbers that a part comes of are small. -/
theorem part_bounds {q s d n : Int} (hq : 0 ≤ q ∧ q ≤ 3) (hs : 0 < s ∧ s ≤ 65536) (hd : 0 ≤ d ∧ d < s) (hn : 1 ≤ n ∧ n ≤ 64) : 0 ≤ q * s ∧ q * s + d < 4 * s ∧ 0 ≤ (q * s + d) * n ∧ (q * s + d) * n < 4 * s * n ∧ 4 * s * n ≤ 16777216 := by
  have h1 : 0 ≤ q * s := Int.mul_nonneg hq.1 (by omega)
  have h2 : q * s ≤ 3 * s := Int.mul_le_mul_of_nonneg_right hq.2 (by omega)
  have h3 : 0 ≤ (q * s + d) * n := Int.mul_nonneg (by omega) (by omega)
  have h4 : (q * s + d) * n < 4 * s * n := Int.mul_lt_mul_of_pos_right (by omega) (by omega)
  have h5 : 4 * s * n ≤ 4 * s * 64 := Int.mul_le_mul_of_nonneg_left hn.2 (by omega)
  exact ⟨h1, by omega, h3, h4, by omega⟩
theorem prt_range {a b n : Int} (ha : Sm a) (hb : Sm b) (hn : 1 ≤ n ∧ n ≤ 64) (h : ¬ (a = 0 ∧ b = 0)) : 0 ≤ prt a b n ∧ prt a b n < n := by
  obtain ⟨h1, h2⟩ := turned_back h
  obtain ⟨k1, k2⟩ := qt_sm (n := -quad a b) ha hb
  unfold prt
  simp only
  have hq := quad_range a b
  generalize (qt a b (-quad a b)).1 = c at *
  generalize (qt a b (-quad a b)).2 = d at *
  generalize quad a b = q at *
  obtain ⟨c1, c2⟩ := k1
  obtain ⟨d1, d2⟩ := k2
  obtain ⟨_, _, b3, b4, _⟩ := part_bounds (q := q) (s := c + d) (d := d) (n := n) hq ⟨by omega, by omega⟩ ⟨h2, by omega⟩ hn
  refine ⟨Int.ediv_nonneg b3 (by omega), Int.ediv_lt_of_lt_mul (by omega) ?_⟩
  rw [Int.mul_comm n]; exact b4
/-- What a part is, and what is wrong. -/
def prtE (a b n : Int) : Int × Int := if n < 1 ∨ n > 64 then (0, 2) else if a = 0 ∧ b = 0 then (0, 0) else (prt a b n, 0)
theorem Part_says {z : Int × Int} {n : Int} (ha : Sm z.1) (hb : Sm z.2) : compass_Part z n = some (prtE z.1 z.2 n) := by
  rw [compass_Part_eq, Quarter_says ha hb]
  simp only [Option.bind_some]
  have hq := quad_range z.1 z.2
  rw [Int.zero_sub, wrap_i64 (by omega) (by omega), Turn_says ha hb]
  obtain ⟨a, b⟩ := z
  simp only [Option.bind_some] at *
  unfold prtE
  by_cases n1 : n < 1
  · rw [decide_eq_true n1, if_pos (.inl n1)]; rfl
  by_cases n2 : n > 64
  · rw [decide_eq_false n1, decide_eq_true n2, if_pos (.inr n2)]; rfl
  rw [decide_eq_false n1, decide_eq_false n2, if_neg (by omega)]
  simp only [cond_false]
  obtain ⟨k1, k2⟩ := qt_sm (n := -quad a b) ha hb
  have m1 : IntKind.i64.min = -9223372036854775808 := by decide
  have m2 : IntKind.i64.max = 9223372036854775807 := by decide
  obtain ⟨c1, c2⟩ := k1
  obtain ⟨d1, d2⟩ := k2
  rw [m1, m2, decide_eq_true (by omega), decide_eq_true (by omega), decide_eq_true (by omega), decide_eq_true (by omega)]
  simp only [Bool.and_self, cond_true]
  rw [wrap_i64 (x := (qt a b (-quad a b)).1 + (qt a b (-quad a b)).2) (by omega) (by omega)]
  by_cases h : a = 0 ∧ b = 0
  · rw [if_pos h]
    obtain ⟨rfl, rfl⟩ := h
    rw [qt_zero]; rfl
  · rw [if_neg h]
    obtain ⟨h1, h2⟩ := turned_back h
    unfold prt
    simp only
    generalize (qt a b (-quad a b)).1 = c at *
    generalize (qt a b (-quad a b)).2 = d at *
    generalize quad a b = q at *
    obtain ⟨b1, b2, b3, b4, b5⟩ := part_bounds (q := q) (s := c + d) (d := d) (n := n) hq ⟨by omega, by omega⟩ ⟨h2, by omega⟩ ⟨by omega, by omega⟩
    rw [beq_no (by omega), wrap_i64 (x := 4 * (c + d)) (by omega) (by omega), decide_eq_false (by omega)]
    simp only [cond_false]
    rw [wrap_i64 (x := q * (c + d)) (by omega) (by omega), wrap_i64 (x := q * (c + d) + d) (by omega) (by omega), wrap_i64 (x := (q * (c + d) + d) * n) (by omega) (by omega), Int.tdiv_eq_ediv_of_nonneg b3]
    have hlt : (q * (c + d) + d) * n / (4 * (c + d)) < 64 := Int.ediv_lt_of_lt_mul (by omega) (by
      have : 4 * (c + d) * n ≤ 4 * (c + d) * 64 := Int.mul_le_mul_of_nonneg_left (by omega) (by omega)
      omega)
    have hge : 0 ≤ (q * (c + d) + d) * n / (4 * (c + d)) := Int.ediv_nonneg b3 (by omega)
    rw [wrap_i64 (by omega) (by omega)]
theorem refPart_loop {n q c d : Int} (hn : 1 ≤ n ∧ n ≤ 64) (hq : 0 ≤ q ∧ q ≤ 3) (hc : 0 < c ∧ c ≤ 32768) (hd : 0 ≤ d ∧ d ≤ 32768) : ∀ (m : Nat) (k : Int), k = (q * (c + d) + d) * n / (4 * (c + d)) + m → k < n →
    ref03_Part_l0 n q c d k = some ((q * (c + d) + d) * n / (4 * (c + d)), 0) := by
  obtain ⟨b1, b2, b3, b4, b5⟩ := part_bounds (q := q) (s := c + d) (d := d) (n := n) hq ⟨by omega, by omega⟩ ⟨hd.1, by omega⟩ hn
  have hge : 0 ≤ (q * (c + d) + d) * n / (4 * (c + d)) := Int.ediv_nonneg b3 (by omega)
  intro m
  induction m with
  | zero =>
    intro k hk hkn
    rw [ref03_Part_l0_eq]
    by_cases h0 : k > 0
    · have hle : k * (4 * (c + d)) ≤ (q * (c + d) + d) * n := by rw [hk]; simp only [Int.natCast_zero, Int.add_zero]; exact Int.ediv_mul_le _ (by omega)
      have hkb : k * (4 * (c + d)) ≤ 16777216 := by omega
      have hk0 : 0 ≤ k * (4 * (c + d)) := Int.mul_nonneg (by omega) (by omega)
      have e1 : 4 * k * (c + d) = k * (4 * (c + d)) := by rw [Int.mul_comm 4 k, Int.mul_assoc]
      rw [decide_eq_true h0, wrap_i64 (x := 4 * k) (by omega) (by omega), wrap_i64 (x := c + d) (by omega) (by omega), e1, wrap_i64 (x := q * (c + d)) (by omega) (by omega), wrap_i64 (x := q * (c + d) + d) (by omega) (by omega), Int.mul_comm n, wrap_i64 (by omega) (by omega), wrap_i64 (by omega) (by omega), decide_eq_true hle]
      simp only [cond_true]
      rw [hk]; simp
    · rw [decide_eq_false h0]
      have : k = 0 := by omega
      rw [this] at hk
      simp only [cond_false]
      rw [show (q * (c + d) + d) * n / (4 * (c + d)) = 0 by omega]
  | succ m ih =>
    intro k hk hkn
    rw [ref03_Part_l0_eq]
    have hgt : ¬ k * (4 * (c + d)) ≤ (q * (c + d) + d) * n := by
      intro hle
      have := Int.le_ediv_of_mul_le (by omega) hle
      omega
    have hkb : k * (4 * (c + d)) ≤ n * (4 * (c + d)) := Int.mul_le_mul_of_nonneg_right (by omega) (by omega)
    have hkb2 : n * (4 * (c + d)) = 4 * (c + d) * n := Int.mul_comm _ _
    have hk0 : 0 ≤ k * (4 * (c + d)) := Int.mul_nonneg (by omega) (by omega)
    have e1 : 4 * k * (c + d) = k * (4 * (c + d)) := by rw [Int.mul_comm 4 k, Int.mul_assoc]
    rw [decide_eq_true (by omega), wrap_i64 (x := 4 * k) (by omega) (by omega), wrap_i64 (x := c + d) (by omega) (by omega), e1, wrap_i64 (x := q * (c + d)) (by omega) (by omega), wrap_i64 (x := q * (c + d) + d) (by omega) (by omega), Int.mul_comm n, wrap_i64 (by omega) (by omega), wrap_i64 (by omega) (by omega), decide_eq_false hgt, wrap_i64 (x := k - 1) (by omega) (by omega)]
    simp only [cond_true, cond_false]
    exact ih (k - 1) (by rw [hk]; push_cast; omega) (by omega)
theorem refPart_says {a b n : Int} (ha : Sm a) (hb : Sm b) : ref03_Part a b n = some (prtE a b n) := by
  have hq := quad_range a b
  rw [ref03_Part_eq, refQuarter_says]
  simp only [Option.bind_some]
  rw [Int.zero_sub, wrap_i64 (x := -quad a b) (by omega) (by omega), refTurn_says ha hb (by omega) (by omega)]
  simp only [Option.bind_some]
  unfold prtE
  by_cases n1 : n < 1
  · rw [decide_eq_true n1, if_pos (.inl n1)]; rfl
  by_cases n2 : n > 64
  · rw [decide_eq_false n1, decide_eq_true n2, if_pos (.inr n2)]; rfl
  rw [decide_eq_false n1, decide_eq_false n2, if_neg (by omega)]
  simp only [cond_false]
  by_cases h : a = 0 ∧ b = 0
  · rw [if_pos h, beq_yes h.1, beq_yes h.2]; rfl
  have hl : ref03_Part_l0 n (quad a b) (qt a b (-quad a b)).1 (qt a b (-quad a b)).2 (IntKind.i64.wrap (n - 1)) = some (prt a b n, 0) := by
    obtain ⟨h1, h2⟩ := turned_back h
    obtain ⟨k1, k2⟩ := qt_sm (n := -quad a b) ha hb
    obtain ⟨r1, r2⟩ := prt_range ha hb ⟨by omega, by omega⟩ h (n := n)
    rw [wrap_i64 (by omega) (by omega)]
    refine refPart_loop ⟨by omega, by omega⟩ hq ⟨h1, k1.2⟩ ⟨h2, k2.2⟩ (n - 1 - prt a b n).toNat _ ?_ (by omega)
    show n - 1 = prt a b n + _
    omega
  rw [if_neg h, hl]
  by_cases h0 : a = 0
  · have h1 : ¬ b = 0 := fun e => h ⟨h0, e⟩
    rw [beq_yes h0, beq_no h1]; rfl
  · rw [beq_no h0]; rfl
end Go.Proofs.Ytoolkhimafjdpaa.PE
