/- Floats that hold whole numbers: what the operations on them give. -/
import Derived.Test.YtdbenenonfldkaaDoorEDefs
import Derived.Laws.ComplexArith
namespace Go.Proofs.YtdbenenonfldkaaDoor.PE
set_option linter.unusedVariables false
open Go Ieee
/-- A datum that is a whole number of fewer than 54 binary digits (a zero of either sign). -/
def DF (d : Datum) (n : Int) : Prop := n.natAbs < 9007199254740992 ∧ ∃ (s : Bool) (k : Nat), d = .number s (n.natAbs * 2 ^ k) (-(k : Int)) ∧ (n ≠ 0 → s = decide (n < 0))
/-- A word that holds one. -/
def Fl (b : Nat) (n : Int) : Prop := DF (double.read b) n
theorem signed_eq (s : Bool) (m j : Nat) : signed s m j = (if s then -1 else 1) * ((m * 2 ^ j : Nat) : Int) := by
  unfold signed
  rw [Nat.shiftLeft_eq]
  cases s <;> simp
theorem signed_of {n : Int} {s : Bool} (h : n ≠ 0 → s = decide (n < 0)) (k j : Nat) : signed s (n.natAbs * 2 ^ k) j = n * (2 ^ (k + j) : Nat) := by
  rw [signed_eq, Nat.mul_assoc, ← Nat.pow_add]
  by_cases h0 : n = 0
  · subst h0; simp
  · rw [h h0]
    push_cast
    by_cases hn : n < 0
    · simp only [hn, decide_true, if_true]
      have : ((n.natAbs : Int)) = -n := by omega
      rw [← Int.mul_assoc]
      congr 1
      omega
    · simp only [hn, decide_false, Bool.false_eq_true, if_false]
      rw [← Int.mul_assoc]
      congr 1
      omega
theorem read_word {s : Bool} {r : Nat} (h : r < 9223372036854775808) : double.read (double.word s r) = (if r < 4503599627370496 then .number s r (-1074) else if r < 9218868437227405312 then .number s (4503599627370496 + r % 4503599627370496) (-1074 + (r / 4503599627370496 - 1 : Nat)) else if r = 9218868437227405312 then .infinity s else .nan s (r - 9218868437227405312)) := by
  have e1 : double.signWeight = 9223372036854775808 := by decide
  have e2 : double.binade = 4503599627370496 := by decide
  have e3 : double.infRung = 9218868437227405312 := by decide
  have e4 : double.leastPlace = -1074 := by decide
  unfold Format.read Format.word
  rw [e1, e2, e3, e4]
  cases s
  · have q1 : (r / 9223372036854775808 % 2 == 1) = false := by rw [Nat.div_eq_of_lt h]; rfl
    have q2 : r % 9223372036854775808 = r := Nat.mod_eq_of_lt h
    simp only [Bool.false_eq_true, if_false, q1, q2]
  · have q1 : ((9223372036854775808 + r) / 9223372036854775808 % 2 == 1) = true := by rw [show (9223372036854775808 + r) / 9223372036854775808 = 1 by omega]; rfl
    have q2 : (9223372036854775808 + r) % 9223372036854775808 = r := by omega
    simp only [if_true, q1, q2]
theorem log2_mul_pow {a k : Nat} (h : a ≠ 0) : (a * 2 ^ k).log2 = a.log2 + k := by
  have h1 : a * 2 ^ k ≠ 0 := Nat.mul_ne_zero h (Nat.pos_iff_ne_zero.1 (Nat.two_pow_pos k))
  rw [Nat.log2_eq_iff h1]
  refine ⟨?_, ?_⟩
  · rw [Nat.pow_add]; exact Nat.mul_le_mul_right _ (Nat.log2_self_le h)
  · rw [show a.log2 + k + 1 = (a.log2 + 1) + k by omega, Nat.pow_add]; exact Nat.mul_lt_mul_of_pos_right Nat.lt_log2_self (Nat.two_pow_pos k)
/-- A whole number is written so that it is read again. -/
theorem write_read {n : Int} (hn : n.natAbs < 9007199254740992) (s : Bool) (hs : n ≠ 0 → s = decide (n < 0)) (k : Nat) : Fl (double.write (.number s (n.natAbs * 2 ^ k) (-(k : Int)))) n := by
  refine ⟨hn, ?_⟩
  have e2 : double.binade = 4503599627370496 := by decide
  have e3 : double.infRung = 9218868437227405312 := by decide
  have e4 : double.leastPlace = -1074 := by decide
  have e5 : double.fractionBits = 52 := by decide
  show ∃ (s_1 : Bool) (k_1 : Nat), double.read (double.nearest s (n.natAbs * 2 ^ k) (-(k : Int))) = _ ∧ _
  unfold Format.nearest
  by_cases h0 : n.natAbs = 0
  · rw [h0, Nat.zero_mul, if_pos rfl, read_word (by decide), if_pos (by decide)]
    obtain ⟨j, hj⟩ : ∃ j : Nat, j = 1074 := ⟨_, rfl⟩
    exact ⟨s, j, by rw [Nat.zero_mul, hj]; rfl, hs⟩
  have hm : n.natAbs * 2 ^ k ≠ 0 := Nat.mul_ne_zero h0 (Nat.pos_iff_ne_zero.1 (Nat.two_pow_pos k))
  rw [if_neg hm, log2_mul_pow h0, e2, e3, e4, e5]
  generalize hL : n.natAbs.log2 = L
  have l1 : 2 ^ L ≤ n.natAbs := by rw [← hL]; exact Nat.log2_self_le h0
  have l2 : n.natAbs < 2 ^ (L + 1) := by rw [← hL]; exact Nat.lt_log2_self
  have l3 : L ≤ 52 := by
    rcases Nat.lt_or_ge 52 L with h | h
    · have : 2 ^ 53 ≤ 2 ^ L := Nat.pow_le_pow_right (by decide) h
      omega
    · exact h
  have hlast : max (-(k : Int) + ((L + k : Nat) : Int) - (52 : Nat)) (-1074) = (L : Int) - 52 := by omega
  simp only [hlast]
  generalize hd : 52 - L = d
  have hkept : Toward.even.cut s ((n.natAbs * 2 ^ k) <<< (-(k : Int) - ((L : Int) - 52)).toNat) ((L : Int) - 52 - -(k : Int)).toNat = n.natAbs * 2 ^ d := by
    rcases Nat.le_total k d with hkd | hkd
    · have a1 : (-(k : Int) - ((L : Int) - 52)).toNat = d - k := by omega
      have a2 : ((L : Int) - 52 - -(k : Int)).toNat = 0 := by omega
      rw [a1, a2, Nat.shiftLeft_eq, Nat.mul_assoc, ← Nat.pow_add, show k + (d - k) = d by omega]
      unfold Toward.cut
      rw [Nat.zero_min]
      simp only [Nat.one_shiftLeft, Nat.pow_zero, Nat.div_one, Nat.mod_one]
      simp
    · have a1 : (-(k : Int) - ((L : Int) - 52)).toNat = 0 := by omega
      have a2 : ((L : Int) - 52 - -(k : Int)).toNat = k - d := by omega
      rw [a1, a2, Nat.shiftLeft_zero]
      unfold Toward.cut
      have hmin : min (k - d) ((n.natAbs * 2 ^ k).log2 + 2) = k - d := by rw [log2_mul_pow h0]; omega
      have hp : n.natAbs * 2 ^ k = n.natAbs * 2 ^ d * 2 ^ (k - d) := by rw [Nat.mul_assoc, ← Nat.pow_add, show d + (k - d) = k by omega]
      rw [hmin]
      simp only [Nat.one_shiftLeft]
      rw [hp, Nat.mul_div_cancel _ (Nat.two_pow_pos _), Nat.mul_mod_left]
      have : 0 < 2 ^ (k - d) := Nat.two_pow_pos _
      simp
  rw [hkept]
  have b1 : n.natAbs * 2 ^ d < 9007199254740992 := by
    have : n.natAbs * 2 ^ d < 2 ^ (L + 1) * 2 ^ d := Nat.mul_lt_mul_of_pos_right l2 (Nat.two_pow_pos d)
    rw [← Nat.pow_add, show L + 1 + d = 53 by omega] at this
    exact this
  have b2 : 4503599627370496 ≤ n.natAbs * 2 ^ d := by
    have : 2 ^ L * 2 ^ d ≤ n.natAbs * 2 ^ d := Nat.mul_le_mul_right _ l1
    rw [← Nat.pow_add, show L + d = 52 by omega] at this
    exact this
  have a3 : ((L : Int) - 52 - -1074).toNat = L + 1022 := by omega
  rw [a3]
  suffices h : ∃ (s_1 : Bool) (k_1 : Nat), double.read (double.word s (min ((L + 1022) * 4503599627370496 + n.natAbs * 2 ^ d) 9218868437227405312)) = .number s_1 (n.natAbs * 2 ^ k_1) (-(k_1 : Int)) ∧ (n ≠ 0 → s_1 = decide (n < 0)) from h
  generalize hX : n.natAbs * 2 ^ d = X at b1 b2 hkept ⊢
  rw [Nat.min_eq_left (by omega), read_word (by omega), if_neg (by omega), if_pos (by omega)]
  refine ⟨s, d, ?_, hs⟩
  rw [hX]
  congr 1
  · omega
  · omega
theorem DF.write {d : Datum} {n : Int} (h : DF d n) : Fl (double.write d) n := by
  obtain ⟨h0, s, k, rfl, hs⟩ := h
  exact write_read h0 s hs k
theorem fl_ofInt {n : Int} (h : n.natAbs < 9007199254740992) : Fl (FloatKind.f64.nearest n) n := by
  have : DF (.number (decide (n < 0)) n.natAbs 0) n := ⟨h, decide (n < 0), 0, by simp, fun _ => rfl⟩
  exact this.write
theorem DF.product {d e : Datum} {n m : Int} (h : DF d n) (k : DF e m) (hb : (n * m).natAbs < 9007199254740992) : ∃ r, d.product e = some r ∧ DF r (n * m) := by
  obtain ⟨h0, s, i, rfl, hs⟩ := h
  obtain ⟨k0, t, j, rfl, ht⟩ := k
  refine ⟨_, rfl, hb, s ^^ t, i + j, ?_, fun hnm => ?_⟩
  · congr 1
    · rw [Int.natAbs_mul, Nat.pow_add]; ac_rfl
    · push_cast; omega
  · have hn : n ≠ 0 := by intro e; subst e; simp at hnm
    have hm : m ≠ 0 := by intro e; subst e; simp at hnm
    rw [hs hn, ht hm]
    rcases Int.lt_or_gt_of_ne hn with h1 | h1 <;> rcases Int.lt_or_gt_of_ne hm with h2 | h2
    · have := Int.mul_pos_of_neg_of_neg h1 h2
      simp [h1, h2]; omega
    · have := Int.mul_neg_of_neg_of_pos h1 h2
      simp [h1, this]; omega
    · have := Int.mul_neg_of_pos_of_neg h1 h2
      simp [h2, this]; omega
    · have := Int.mul_pos h1 h2
      have e1 : ¬ n < 0 := by omega
      have e2 : ¬ m < 0 := by omega
      have e3 : ¬ n * m < 0 := by omega
      rw [decide_eq_false e1, decide_eq_false e2, decide_eq_false e3]; rfl
theorem DF.sum {d e : Datum} {n m : Int} (h : DF d n) (k : DF e m) (hb : (n + m).natAbs < 9007199254740992) : ∃ r, d.sum e = some r ∧ DF r (n + m) := by
  obtain ⟨h0, s, i, rfl, hs⟩ := h
  obtain ⟨k0, t, j, rfl, ht⟩ := k
  have q1 : signed s (n.natAbs * 2 ^ i) (-(i : Int) - min (-(i : Int)) (-(j : Int))).toNat = n * (2 ^ (max i j) : Nat) := by
    rw [signed_of hs, show i + (-(i : Int) - min (-(i : Int)) (-(j : Int))).toNat = max i j by omega]
  have q2 : signed t (m.natAbs * 2 ^ j) (-(j : Int) - min (-(i : Int)) (-(j : Int))).toNat = m * (2 ^ (max i j) : Nat) := by
    rw [signed_of ht, show j + (-(j : Int) - min (-(i : Int)) (-(j : Int))).toNat = max i j by omega]
  have q3 : min (-(i : Int)) (-(j : Int)) = -((max i j : Nat) : Int) := by omega
  simp only [Datum.sum, q1, q2]
  rw [q3, ← Int.add_mul]
  have hp : (0 : Int) < ((2 ^ (max i j) : Nat) : Int) := by exact_mod_cast Nat.two_pow_pos _
  refine ⟨_, rfl, hb, (if (n + m) * ((2 ^ (max i j) : Nat) : Int) = 0 then s && t else decide ((n + m) * ((2 ^ (max i j) : Nat) : Int) < 0)), max i j, ?_, fun hnm => ?_⟩
  · rw [Int.natAbs_mul, Int.natAbs_natCast]
  · have hz : (n + m) * ((2 ^ (max i j) : Nat) : Int) ≠ 0 := Int.mul_ne_zero hnm (by omega)
    rw [if_neg hz]
    rcases Int.lt_or_gt_of_ne hnm with h1 | h1
    · have := Int.mul_neg_of_neg_of_pos h1 hp
      rw [decide_eq_true this, decide_eq_true h1]
    · have := Int.mul_pos h1 hp
      simp only [decide_eq_decide]; omega
theorem DF.opposite {d : Datum} {n : Int} (h : DF d n) : DF d.opposite (-n) := by
  obtain ⟨h0, s, k, rfl, hs⟩ := h
  refine ⟨by omega, !s, k, by simp [Datum.opposite], fun hn => ?_⟩
  rw [hs (by omega)]
  have : n ≠ 0 := by omega
  by_cases h1 : n < 0
  · simp [h1]; omega
  · simp [h1]; omega
theorem fl_mul {b c : Nat} {n m : Int} (h : Fl b n) (k : Fl c m) (hb : (n * m).natAbs < 9007199254740992) : ∃ r, double.mul b c = some r ∧ Fl r (n * m) := by
  obtain ⟨r, e, hr⟩ := DF.product h k hb
  exact ⟨_, by unfold Format.mul; rw [e]; rfl, hr.write⟩
theorem fl_add {b c : Nat} {n m : Int} (h : Fl b n) (k : Fl c m) (hb : (n + m).natAbs < 9007199254740992) : ∃ r, double.add b c = some r ∧ Fl r (n + m) := by
  obtain ⟨r, e, hr⟩ := DF.sum h k hb
  exact ⟨_, by unfold Format.add; rw [e]; rfl, hr.write⟩
theorem fl_sub {b c : Nat} {n m : Int} (h : Fl b n) (k : Fl c m) (hb : (n - m).natAbs < 9007199254740992) : ∃ r, double.sub b c = some r ∧ Fl r (n - m) := by
  obtain ⟨r, e, hr⟩ := DF.sum h (DF.opposite k) (by rw [← Int.sub_eq_add_neg]; exact hb)
  rw [← Int.sub_eq_add_neg] at hr
  exact ⟨_, by unfold Format.sub; rw [e]; rfl, hr.write⟩
theorem fl_order {b c : Nat} {n m : Int} (h : Fl b n) (k : Fl c m) : double.order b c = some (compare n m) := by
  unfold Format.order
  obtain ⟨h0, s, i, e1, hs⟩ := h
  obtain ⟨k0, t, j, e2, ht⟩ := k
  rw [e1, e2]
  have q1 : signed s (n.natAbs * 2 ^ i) (-(i : Int) - min (-(i : Int)) (-(j : Int))).toNat = n * (2 ^ (max i j) : Nat) := by
    rw [signed_of hs, show i + (-(i : Int) - min (-(i : Int)) (-(j : Int))).toNat = max i j by omega]
  have q2 : signed t (m.natAbs * 2 ^ j) (-(j : Int) - min (-(i : Int)) (-(j : Int))).toNat = m * (2 ^ (max i j) : Nat) := by
    rw [signed_of ht, show j + (-(j : Int) - min (-(i : Int)) (-(j : Int))).toNat = max i j by omega]
  simp only [Datum.order, q1, q2]
  have hp : (0 : Int) < ((2 ^ (max i j) : Nat) : Int) := by exact_mod_cast Nat.two_pow_pos _
  congr 1
  rcases Int.lt_trichotomy n m with h1 | h1 | h1
  · rw [Int.compare_eq_lt.2 h1, Int.compare_eq_lt.2 (Int.mul_lt_mul_of_pos_right h1 hp)]
  · subst h1; rw [Int.compare_eq_eq.2 rfl, Int.compare_eq_eq.2 rfl]
  · rw [Int.compare_eq_gt.2 h1, Int.compare_eq_gt.2 (Int.mul_lt_mul_of_pos_right h1 hp)]
theorem fl_toInt {b : Nat} {n : Int} (h : Fl b n) : (FloatKind.f64.decode b).toInt .zero = some n := by
  obtain ⟨h0, s, k, e, hs⟩ := h
  unfold FloatKind.decode
  rw [show FloatKind.f64.format = double from rfl, e]
  have q1 : (-(k : Int)).toNat = 0 := by omega
  have q2 : (- -(k : Int)).toNat = k := by omega
  have hc : Toward.zero.cut s ((n.natAbs * 2 ^ k) <<< 0) k = n.natAbs := by
    rw [Nat.shiftLeft_zero]
    unfold Toward.cut
    by_cases hz : n.natAbs = 0
    · rw [hz]; simp
    · rw [log2_mul_pow hz, Nat.min_eq_left (by omega)]
      simp only [Nat.one_shiftLeft]
      rw [Nat.mul_div_cancel _ (Nat.two_pow_pos _)]
      rfl
  simp only [Datum.toInt, Datum.integral, q1, q2, hc]
  have := signed_of hs 0 0
  simp only [Nat.pow_zero, Nat.mul_one] at this
  rw [this]
  simp
theorem fl_neg {b : Nat} {n : Int} (h : Fl b n) : Fl (Op.negFloat .f64 b) (-n) := by
  have : double.read (Op.negFloat .f64 b) = (double.read b).opposite := by
    have e1 : double.signWeight = 2 ^ 63 := by decide
    have hx : Op.negFloat .f64 b = b ^^^ 2 ^ 63 := rfl
    have p1 : (b ^^^ 2 ^ 63) % 2 ^ 63 = b % 2 ^ 63 := by rw [Nat.xor_mod_two_pow]; simp
    have p2 : ((b ^^^ 2 ^ 63) / 2 ^ 63 % 2 == 1) = !(b / 2 ^ 63 % 2 == 1) := by
      rw [Nat.xor_div_two_pow, Nat.div_self (by decide)]
      have := @Nat.xor_mod_two_eq_one (b / 2 ^ 63) 1
      rcases Nat.mod_two_eq_zero_or_one (b / 2 ^ 63) with h | h
      · rw [h]
        have : (b / 2 ^ 63 ^^^ 1) % 2 = 1 := this.2 (by omega)
        rw [this]; rfl
      · rw [h]
        have : ¬ (b / 2 ^ 63 ^^^ 1) % 2 = 1 := fun q => (this.1 q) (by omega)
        have : (b / 2 ^ 63 ^^^ 1) % 2 = 0 := by omega
        rw [this]; rfl
    unfold Format.read
    rw [hx, e1, p1, p2]
    simp only
    split
    · rfl
    · split
      · rfl
      · split
        · rfl
        · rfl
  show DF _ _
  rw [this]
  exact DF.opposite h
theorem wholeOf_fl {b : Nat} {n : Int} (h : wholeOf b = some n) : Fl b n := by
  unfold wholeOf at h
  split at h
  · rename_i m hm
    cases hc : (Nat.blt m.natAbs 9007199254740992 && Nat.beq (FloatKind.f64.nearest m) b) with
    | false => rw [hc] at h; cases h
    | true =>
      rw [hc] at h
      cases h
      simp only [Bool.and_eq_true] at hc
      have h1 := Nat.eq_of_beq_eq_true hc.2
      have h2 : n.natAbs < 9007199254740992 := by simpa [Nat.blt_eq] using hc.1
      rw [← h1]
      exact fl_ofInt h2
  · cases h
theorem whole_abs {n : Int} (h : whole n = true) : n.natAbs < 9007199254740992 := by
  unfold whole at h
  simp only [Bool.and_eq_true, decide_eq_true_eq] at h
  omega
end Go.Proofs.YtdbenenonfldkaaDoor.PE
