import Derived.Laws.BitsLemmas
import Derived.RowKit
/- The mathematics of the sums: a register of 32 bits, shifted to the right. -/
namespace Go.Proofs.Ytadcekchmaiihaa.Crc
set_option linter.unusedVariables false
open Go

def P : Nat := 3988292384
def M : Nat := 4294967295
def st (s : Nat) : Nat := if s % 2 = 1 then (s / 2) ^^^ P else s / 2
def stn : Nat → Nat → Nat
  | 0, s => s
  | n + 1, s => stn n (st s)
def byt (s c : Nat) : Nat := stn 8 (s ^^^ c)
def run (s : Nat) (b : List Int) : Nat := b.foldl (fun s c => byt s c.toNat) s

theorem st_lt {s : Nat} (h : s < 4294967296) : st s < 4294967296 := by
  unfold st
  split
  · exact Nat.xor_lt_two_pow (n := 32) (by omega) (by decide)
  · omega
theorem stn_lt {s : Nat} (n : Nat) (h : s < 4294967296) : stn n s < 4294967296 := by
  induction n generalizing s with
  | zero => exact h
  | succ n ih => exact ih (st_lt h)
theorem xor_lt {a b : Nat} (ha : a < 4294967296) (hb : b < 4294967296) : a ^^^ b < 4294967296 := Nat.xor_lt_two_pow (n := 32) ha hb
theorem byt_lt {s c : Nat} (h : s < 4294967296) (hc : c < 4294967296) : byt s c < 4294967296 := stn_lt 8 (xor_lt h hc)
def Bytes (b : List Int) : Prop := ∀ x ∈ b, 0 ≤ x ∧ x < 256
theorem run_lt {s : Nat} {b : List Int} (h : s < 4294967296) (hb : Bytes b) : run s b < 4294967296 := by
  induction b generalizing s with
  | nil => exact h
  | cons c b ih =>
    have hc := hb c (by simp)
    exact ih (byt_lt h (by omega)) (fun x hx => hb x (by simp [hx]))
theorem run_append (s : Nat) (a b : List Int) : run s (a ++ b) = run (run s a) b := by simp [run, List.foldl_append]
theorem run_cons (s : Nat) (c : Int) (b : List Int) : run s (c :: b) = run (byt s c.toNat) b := rfl
theorem run_nil (s : Nat) : run s [] = s := rfl

theorem xor_lc (a b c : Nat) : a ^^^ (b ^^^ c) = b ^^^ (a ^^^ c) := by rw [← Nat.xor_assoc, Nat.xor_comm a b, Nat.xor_assoc]
theorem xor_self_l (a b : Nat) : a ^^^ (a ^^^ b) = b := by rw [← Nat.xor_assoc, Nat.xor_self, Nat.zero_xor]
theorem st_zero : st 0 = 0 := by decide
theorem stn_zero (n : Nat) : stn n 0 = 0 := by
  induction n with
  | zero => rfl
  | succ n ih => rw [stn, st_zero, ih]
theorem st_xor (a b : Nat) : st (a ^^^ b) = st a ^^^ st b := by
  have hm : (a ^^^ b) % 2 = 1 ↔ ¬ (a % 2 = 1 ↔ b % 2 = 1) := Nat.xor_mod_two_eq_one
  have hd : (a ^^^ b) / 2 = a / 2 ^^^ b / 2 := Nat.xor_div_two
  unfold st
  rw [hd]
  by_cases ha : a % 2 = 1 <;> by_cases hb : b % 2 = 1
  · rw [if_pos ha, if_pos hb, if_neg (fun h => hm.mp h ⟨fun _ => hb, fun _ => ha⟩), Nat.xor_assoc, xor_lc P, Nat.xor_self, Nat.xor_zero]
  · rw [if_pos ha, if_neg hb, if_pos (hm.mpr (fun h => hb (h.mp ha))), Nat.xor_assoc, Nat.xor_assoc, Nat.xor_comm P]
  · rw [if_neg ha, if_pos hb, if_pos (hm.mpr (fun h => ha (h.mpr hb))), Nat.xor_assoc]
  · rw [if_neg ha, if_neg hb, if_neg (fun h => hm.mp h ⟨fun h => absurd h ha, fun h => absurd h hb⟩)]
theorem stn_xor (n a b : Nat) : stn n (a ^^^ b) = stn n a ^^^ stn n b := by
  induction n generalizing a b with
  | zero => rfl
  | succ n ih => rw [stn, st_xor, ih]; rfl
theorem stn_add (m n s : Nat) : stn (m + n) s = stn n (stn m s) := by
  induction m generalizing s with
  | zero => rw [Nat.zero_add]; rfl
  | succ m ih => rw [Nat.succ_add]; exact ih (st s)
/-- Even numbers are only halved. -/
theorem stn_pow (n y : Nat) : stn n (2 ^ n * y) = y := by
  induction n with
  | zero => rw [Nat.pow_zero, Nat.one_mul]; rfl
  | succ n ih =>
    have h : 2 ^ (n + 1) * y = 2 * (2 ^ n * y) := by rw [Nat.pow_succ, Nat.mul_comm (2 ^ n) 2, Nat.mul_assoc]
    have : st (2 ^ (n + 1) * y) = 2 ^ n * y := by unfold st; rw [h]; rw [if_neg (by omega)]; omega
    rw [stn, this, ih]
theorem byt_xor (s t c d : Nat) : byt (s ^^^ t) (c ^^^ d) = byt s c ^^^ byt t d := by
  unfold byt
  rw [← stn_xor]
  congr 1
  rw [Nat.xor_assoc, Nat.xor_assoc, xor_lc t]
theorem st_ne {s : Nat} (h : s < 4294967296) (h0 : s ≠ 0) : st s ≠ 0 := by
  unfold st
  split
  · intro e
    have : s / 2 = P := by
      have h1 : (s / 2 ^^^ P) ^^^ P = 0 ^^^ P := by rw [e]
      rw [Nat.xor_assoc, Nat.xor_self, Nat.xor_zero, Nat.zero_xor] at h1
      exact h1
    unfold P at this
    omega
  · omega
theorem stn_ne {s : Nat} (n : Nat) (h : s < 4294967296) (h0 : s ≠ 0) : stn n s ≠ 0 := by
  induction n generalizing s with
  | zero => exact h0
  | succ n ih => exact ih (st_lt h) (st_ne h h0)

theorem low_xor {n b : Nat} (a : Nat) (h : b < 2 ^ n) : b + 2 ^ n * a = b ^^^ (2 ^ n * a) := by
  apply Nat.eq_of_testBit_eq
  intro j
  rw [Nat.add_comm, Nat.testBit_two_pow_mul_add a h, Nat.testBit_xor, Nat.testBit_two_pow_mul]
  by_cases hj : j < n
  · simp [hj, Nat.not_le.mpr hj]
  · have : b.testBit j = false := Nat.testBit_lt_two_pow (Nat.lt_of_lt_of_le h (Nat.pow_le_pow_right (by decide) (by omega)))
    simp [hj, Nat.not_lt.mp hj, this]
/-- Four bytes, the lowest first, are one number. -/
theorem byt_low (n s b y : Nat) (h : b < 256) : stn (8 + n) (s ^^^ (b + 256 * y)) = stn n (byt s b ^^^ y) := by
  have e : b + 256 * y = b ^^^ (2 ^ 8 * y) := low_xor (n := 8) y h
  rw [stn_add, e, ← Nat.xor_assoc, stn_xor, stn_pow]; rfl
theorem run_four (s b0 b1 b2 b3 : Nat) (h0 : b0 < 256) (h1 : b1 < 256) (h2 : b2 < 256) (h3 : b3 < 256) :
    run s [(b0 : Int), (b1 : Int), (b2 : Int), (b3 : Int)] = stn 32 (s ^^^ (b0 + 256 * (b1 + 256 * (b2 + 256 * b3)))) := by
  rw [show (32 : Nat) = 8 + 24 by rfl, byt_low _ _ _ _ h0, show (24 : Nat) = 8 + 16 by rfl, byt_low _ _ _ _ h1, show (16 : Nat) = 8 + 8 by rfl, byt_low _ _ _ _ h2]
  have := byt_low 0 (byt (byt (byt s b0) b1) b2) b3 0 h3
  simp only [Nat.add_zero, Nat.mul_zero, Nat.xor_zero] at this
  rw [this]; rfl

/-- Texts blended. -/
def blend : List Int → List Int → List Int
  | x :: a, y :: b => ((x.toNat ^^^ y.toNat : Nat) : Int) :: blend a b
  | _, _ => []
theorem run_blend (s t : Nat) (a b : List Int) (h : a.length = b.length) : run (s ^^^ t) (blend a b) = run s a ^^^ run t b := by
  induction a generalizing b s t with
  | nil => cases b with
    | nil => rfl
    | cons y b => simp at h
  | cons x a ih => cases b with
    | nil => simp at h
    | cons y b =>
      rw [blend, run_cons, run_cons, run_cons, ← ih _ _ b (by simpa using h), Int.toNat_natCast, byt_xor]
theorem blend_length (a b : List Int) (h : a.length = b.length) : (blend a b).length = a.length := by
  induction a generalizing b with
  | nil => cases b with
    | nil => rfl
    | cons y b => simp at h
  | cons x a ih => cases b with
    | nil => simp at h
    | cons y b => simp [blend, ih b (by simpa using h)]
theorem run_zeros (n : Nat) (s : Nat) : run s (List.replicate n 0) = stn (8 * n) s := by
  induction n generalizing s with
  | zero => rfl
  | succ n ih =>
    rw [List.replicate_succ, run_cons, ih, show 8 * (n + 1) = 8 + 8 * n by omega, stn_add]
    simp [byt]

/-! bit by bit -/
def bs : Nat → Nat → Nat → Nat
  | 0, s, _ => s
  | n + 1, s, c => bs n (st (s ^^^ (c % 2))) (c / 2)
theorem bs_eq (n s c : Nat) (h : c < 2 ^ n) : bs n s c = stn n (s ^^^ c) := by
  induction n generalizing s c with
  | zero => have : c = 0 := by simpa using h
            subst this; simp [bs, stn]
  | succ n ih =>
    have hp : 2 ^ (n + 1) = 2 * 2 ^ n := by rw [Nat.pow_succ, Nat.mul_comm]
    rw [bs, ih _ _ (by omega), stn]
    congr 1
    have e : c = (c % 2) ^^^ (2 ^ 1 * (c / 2)) := by rw [← low_xor (n := 1) _ (by omega)]; omega
    conv => rhs; rw [e]
    rw [← Nat.xor_assoc, st_xor (s ^^^ c % 2)]
    congr 1
    exact (stn_pow 1 (c / 2)).symm
/-- bit i of a text. -/
def mbit (b : List Int) (i : Nat) : Nat := (b.getD (i / 8) 0).toNat / 2 ^ (i % 8) % 2
/-- the register behind i bits. -/
def brun (b : List Int) : Nat → Nat
  | 0 => M
  | i + 1 => st (brun b i ^^^ mbit b i)
theorem mbit_lt (b : List Int) (i : Nat) : mbit b i < 2 := Nat.mod_lt _ (by decide)
theorem brun_lt (b : List Int) (i : Nat) : brun b i < 4294967296 := by
  induction i with
  | zero => show M < 4294967296; decide
  | succ i ih => exact st_lt (xor_lt ih (by have := mbit_lt b i; omega))
theorem brun_bits (b : List Int) (j : Nat) (n i : Nat) (h : i + n = 8) : brun b (8 * j + 8) = bs n (brun b (8 * j + i)) ((b.getD j 0).toNat / 2 ^ i) ∨ (256 ≤ (b.getD j 0).toNat) := by
  by_cases hb : 256 ≤ (b.getD j 0).toNat
  · exact .inr hb
  · refine .inl ?_
    clear hb
    induction n generalizing i with
    | zero => have : i = 8 := by omega
              subst this; rfl
    | succ n ih =>
      rw [ih (i + 1) (by omega), bs]
      have e1 : (8 * j + i) / 8 = j := by omega
      have e2 : (8 * j + i) % 8 = i := by omega
      have e3 : brun b (8 * j + (i + 1)) = st (brun b (8 * j + i) ^^^ ((b.getD j 0).toNat / 2 ^ i % 2)) := by
        show brun b (8 * j + i + 1) = _
        rw [brun, mbit, e1, e2]
      rw [e3, Nat.div_div_eq_div_mul, ← Nat.pow_succ]
theorem brun_run (b : List Int) (hb : Bytes b) (j : Nat) (h : j ≤ b.length) : brun b (8 * j) = run M (b.take j) := by
  induction j with
  | zero => rfl
  | succ j ih =>
    have hlt : j < b.length := by omega
    have hx : 0 ≤ b[j] ∧ b[j] < 256 := hb _ (List.getElem_mem hlt)
    have hg : b.getD j 0 = b[j] := by simp [List.getD_eq_getElem?_getD, List.getElem?_eq_getElem hlt]
    rcases brun_bits b j 8 0 rfl with h1 | h1
    · rw [show 8 * (j + 1) = 8 * j + 8 by omega, h1, Nat.add_zero, ih (by omega), hg, Nat.pow_zero, Nat.div_one, bs_eq _ _ _ (by omega)]
      rw [List.take_succ_eq_append_getElem hlt, run_append]; rfl
    · rw [hg] at h1; omega
end Go.Proofs.Ytadcekchmaiihaa.Crc
