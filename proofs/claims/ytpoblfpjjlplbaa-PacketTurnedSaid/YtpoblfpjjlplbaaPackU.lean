/- What the program's numbers as bytes, and names, come to. -/
import Derived.Test.YtpoblfpjjlplbaaX17
import Derived.Test.YtpoblfpjjlplbaaELib
import Derived.Test.YtpoblfpjjlplbaaPackMath
namespace Go.Proofs.Ytpoblfpjjlplbaa.PE
set_option linter.unusedVariables false
open Go Go.RowKit Go.Proofs.Ytpoblfpjjlplbaa.Pack
theorem wraps8 (n : Int) (h₀ : 0 ≤ n) (h₁ : n < 2 ^ 8) : IntKind.u8.wrap n = n := by rw [wrap_u8]; omega
theorem wraps64 (n : Int) (h₀ : 0 ≤ n) (h₁ : n < 2 ^ 64) : IntKind.u64.wrap n = n := wrap_u64 h₀ (by omega)
theorem bits_or (k : IntKind) (x y : Int) : k.wrap ↑(BitVec.ofInt k.bits x ||| BitVec.ofInt k.bits y).toNat = Go.bits .or k x y := rfl
theorem bits_and (k : IntKind) (x y : Int) : k.wrap ↑(BitVec.ofInt k.bits x &&& BitVec.ofInt k.bits y).toNat = Go.bits .and k x y := rfl
theorem bits_xor (k : IntKind) (x y : Int) : k.wrap ↑(BitVec.ofInt k.bits x ^^^ BitVec.ofInt k.bits y).toNat = Go.bits .xor k x y := rfl
theorem bo8 {m : Nat} (h : m < 256) : Go.bits .or .u8 (m : Int) 128 = ((m % 128 + 128 : Nat) : Int) := by
  have := (bits_nat .u8 8 (by decide) wraps8 m 128 h (by decide)).2
  have e : ∀ m : Fin 256, m.val ||| 128 = m.val % 128 + 128 := by decide +kernel
  rw [e ⟨m, h⟩] at this
  exact this
theorem ba127 {x : Int} (h0 : 0 ≤ x) (h1 : x < 18446744073709551616) : Go.bits .and .u64 x 127 = x % 128 := by
  have := bits_mask .u64 64 (by decide) wraps64 7 (by decide) x h0 (by omega)
  simpa using this
theorem ba1 {x : Int} (h0 : 0 ≤ x) (h1 : x < 18446744073709551616) : Go.bits .and .u64 x 1 = x % 2 := by
  have := bits_mask .u64 64 (by decide) wraps64 1 (by decide) x h0 (by omega)
  simpa using this
theorem shlu {m i : Nat} (hi : i ≤ 9) (hm : m * 2 ^ (7 * i) < 18446744073709551616) : IntKind.u64.wrap ((m : Int) * 2 ^ min (7 * (i : Int)).toNat IntKind.u64.bits) = ((m * 2 ^ (7 * i) : Nat) : Int) := by
  rw [show (7 * (i : Int)).toNat = 7 * i by omega, show min (7 * i) IntKind.u64.bits = 7 * i by simp [IntKind.bits]; omega]
  have e2 : ((m : Int) * 2 ^ (7 * i)) = ((m * 2 ^ (7 * i) : Nat) : Int) := by rw [Int.natCast_mul, Int.natCast_pow]; rfl
  rw [e2]
  exact wrap_u64 (by omega) (by omega)
theorem orsh {acc m i : Nat} (hi : i ≤ 9) (ha : acc < 2 ^ (7 * i)) (hm : m * 2 ^ (7 * i) < 18446744073709551616) :
    Go.bits .or .u64 (acc : Int) ((m * 2 ^ (7 * i) : Nat) : Int) = ((acc + m * 2 ^ (7 * i) : Nat) : Int) := by
  have h2 : 2 ^ (7 * i) ≤ 2 ^ 63 := Nat.pow_le_pow_right (by decide) (by omega)
  rw [(bits_nat .u64 64 (by decide) wraps64 acc (m * 2 ^ (7 * i)) (by omega) (by omega)).2]
  congr 1
  rw [Nat.or_comm, Nat.mul_comm, ← Nat.two_pow_add_eq_or_of_lt ha m]
  omega
theorem uint_l0 : ∀ (f n : Nat) (x0 : List Int), n < 128 ^ (f + 1) → x0.length + f < 140737488351200 → pack_Uint_l0 (n : Int) x0 = some (x0 ++ encF f n) := by
  intro f
  induction f with
  | zero =>
    intro n x0 hn hl
    have : n < 128 := by simpa using hn
    rw [pack_Uint_l0_eq]
    simp -implicitDefEqProofs only [Bool.cond_decide]
    rw [if_neg (by omega), if_pos (show _ ≤ room by simp only [ilen_eq, List.length_cons, List.length_nil, room_eq]; omega), encF, wrap_u8, show (n : Int) % 256 = n by omega]
  | succ f ih =>
    intro n x0 hn hl
    rw [pack_Uint_l0_eq, encF]
    simp -implicitDefEqProofs only [Bool.cond_decide]
    by_cases h : n < 128
    · rw [if_neg (by omega), if_pos (show _ ≤ room by simp only [ilen_eq, List.length_cons, List.length_nil, room_eq]; omega), if_pos h, wrap_u8, show (n : Int) % 256 = n by omega]
    · rw [if_pos (by omega), if_pos (show _ ≤ room by simp only [ilen_eq, List.length_cons, List.length_nil, room_eq]; omega), if_neg h]
      have e : Go.bits .or .u8 ((n : Int) % 256) 128 = ((n % 128 + 128 : Nat) : Int) := by
        rw [show (n : Int) % 256 = ((n % 256 : Nat) : Int) by omega, bo8 (Nat.mod_lt _ (by decide)), show n % 256 % 128 = n % 128 by omega]
      rw [bits_or, wrap_u8, e, show ((2 : Int) ^ min (Int.toNat 7) IntKind.u64.bits) = 128 from rfl, Int.fdiv_eq_ediv_of_nonneg _ (by omega), show (n : Int) / 128 = ((n / 128 : Nat) : Int) by omega, ih (n / 128) _ (by rw [Nat.pow_succ] at hn; exact Nat.div_lt_of_lt_mul (by rw [Nat.mul_comm]; exact hn)) (by simp only [List.length_append, List.length_cons, List.length_nil]; omega)]
      rw [List.append_assoc, List.singleton_append]
theorem uint_spec {n : Nat} {x0 : List Int} (hn : n < 18446744073709551616) (hl : x0.length ≤ 140737488351000) : pack_Uint x0 (n : Int) = some (x0 ++ enc n) := by
  rw [pack_Uint_eq]
  exact uint_l0 9 n x0 (Nat.lt_of_lt_of_le hn (by decide)) (by omega)
/-- What is told of a reading: its number on top of what was read ahead. -/
def told (acc i : Nat) (r : Nat × List Int × Int) : Int × List Int × Int := if r.2.2 = 0 then (((acc + 2 ^ (7 * i) * r.1 : Nat) : Int), r.2.1, 0) else (0, [], r.2.2)
theorem told_2 (acc i : Nat) : told acc i (0, [], 2) = (0, [], 2) := by unfold told; rw [if_neg (by decide)]
theorem told_5 (acc i : Nat) : told acc i (0, [], 5) = (0, [], 5) := by unfold told; rw [if_neg (by decide)]
theorem told_ok (acc i v : Nat) (r : List Int) : told acc i (v, r, 0) = (((acc + 2 ^ (7 * i) * v : Nat) : Int), r, 0) := by unfold told; rw [if_pos rfl]
theorem acc_step (acc m X v : Nat) : acc + m * X + X * 2 ^ 7 * v = acc + X * (m + 128 * v) := by rw [Nat.mul_add, Nat.mul_comm m X, Nat.mul_assoc X (2 ^ 7) v, Nat.add_assoc]
theorem read_l0 (mm : Nat) (_hm10 : mm ≤ 10) : ∀ (d acc i : Nat) (b : List Int), Bytes b → b.length ≤ 140737488355328 → mm ≤ b.length → (mm = 10 ∨ mm = b.length) → i ≤ 9 → i + d = mm → acc < 2 ^ (7 * i) →
    pack_ReadUint_l0 b (acc : Int) (mm : Int) (i : Int) = some (told acc i (rdu i (b.drop i))) := by
  intro d
  induction d with
  | zero =>
    intro acc i b hb hm hml hmo hi hd ha
    rw [pack_ReadUint_l0_eq]
    simp -implicitDefEqProofs only [Bool.cond_decide]
    rw [if_neg (by omega), List.drop_eq_nil_of_le (by omega), rdu, told_5]
  | succ d ih =>
    intro acc i b hb hm hml hmo hi hd ha
    have hlt : i < b.length := by omega
    have f1 : (i : Int) < (mm : Int) := by omega
    have f2 : (0 : Int) ≤ (i : Int) := by omega
    have hc := hb _ (List.getElem_mem hlt)
    have hcw : IntKind.u64.wrap b[i] = b[i] := wrap_u64 hc.1 (by omega)
    have h7 : IntKind.i64.wrap (7 * (i : Int)) = 7 * (i : Int) := wrap_i64 (by omega) (by omega)
    have h1 : IntKind.i64.wrap ((i : Int) + 1) = ((i + 1 : Nat) : Int) := wrap_succ (by omega)
    have hand : Go.bits .and .u64 b[i] 127 = ((b[i].toNat % 128 : Nat) : Int) := by rw [ba127 hc.1 (by omega)]; omega
    have g1 : decide ((i : Int) < mm) = true := decide_eq_true f1
    have g2 : decide ((0 : Int) ≤ i) = true := decide_eq_true f2
    rw [List.drop_eq_getElem_cons hlt, pack_ReadUint_l0_eq, g1, cond_true, g2, cond_true, Int.toNat_natCast, List.getElem?_eq_getElem hlt, Option.bind_some]
    simp -implicitDefEqProofs only [hcw, h7, h1, ilen_eq, bits_and, bits_or, hand, Int.toNat_natCast, List.take_length]
    -- one round, once it is known whether the tenth byte is too large
    have step : ¬ (i = 9 ∧ 1 < b[i]) → (bif decide (7 * (i : Int) < 0) then none else bif decide (b[i] < 128) then bif b[i] == 0 then bif decide ((i : Int) > 0) then some ((0 : Int), ([] : List Int), (2 : Int))
              else bif decide (0 ≤ ((i + 1 : Nat) : Int)) then bif decide (((i + 1 : Nat) : Int) ≤ b.length) then bif decide ((b.length : Int) ≤ b.length)
                then some (Go.bits .or .u64 acc (IntKind.u64.wrap (((b[i].toNat % 128 : Nat) : Int) * 2 ^ min (7 * (i : Int)).toNat IntKind.u64.bits)), b.drop (i + 1), 0) else none else none else none
            else bif decide (0 ≤ ((i + 1 : Nat) : Int)) then bif decide (((i + 1 : Nat) : Int) ≤ b.length) then bif decide ((b.length : Int) ≤ b.length)
                then some (Go.bits .or .u64 acc (IntKind.u64.wrap (((b[i].toNat % 128 : Nat) : Int) * 2 ^ min (7 * (i : Int)).toNat IntKind.u64.bits)), b.drop (i + 1), 0) else none else none else none
          else pack_ReadUint_l0 b (Go.bits .or .u64 acc (IntKind.u64.wrap (((b[i].toNat % 128 : Nat) : Int) * 2 ^ min (7 * (i : Int)).toNat IntKind.u64.bits))) mm ((i + 1 : Nat) : Int)) = some (told acc i (rdu i (b[i] :: b.drop (i + 1)))) := by
      intro g
      rw [rdu, if_neg g]
      have hsh : b[i].toNat % 128 * 2 ^ (7 * i) < 18446744073709551616 := by
        by_cases h9 : i = 9
        · subst h9
          have : b[9].toNat ≤ 1 := by
            have : ¬ 1 < b[9] := fun h => g ⟨rfl, h⟩
            omega
          omega
        · have : 2 ^ (7 * i) ≤ 2 ^ 56 := Nat.pow_le_pow_right (by decide) (by omega)
          have h127 : b[i].toNat % 128 ≤ 127 := by omega
          have := Nat.mul_le_mul h127 this
          omega
      simp -implicitDefEqProofs only [Bool.cond_decide]
      rw [if_neg (by omega), shlu hi hsh, orsh hi ha hsh]
      by_cases h128 : b[i] < 128
      · rw [if_pos h128, if_pos h128]
        have hval : acc + b[i].toNat % 128 * 2 ^ (7 * i) = acc + 2 ^ (7 * i) * b[i].toNat := by rw [Nat.mod_eq_of_lt (by omega), Nat.mul_comm]
        by_cases hz : b[i] = 0
        · rw [beq_yes hz, cond_true]
          by_cases hp : 0 < i
          · rw [if_pos (by omega), if_pos ⟨hz, hp⟩, told_2]
          · rw [if_neg (show ¬ ((i : Int) > 0) by omega), if_pos (show (0 : Int) ≤ ((i + 1 : Nat) : Int) by omega), if_pos (show ((i + 1 : Nat) : Int) ≤ (b.length : Int) by omega), if_pos (Int.le_refl _), if_neg (show ¬ (b[i] = 0 ∧ 0 < i) from fun h => hp h.2), hval, told_ok]
        · rw [beq_no hz, cond_false, if_pos (show (0 : Int) ≤ ((i + 1 : Nat) : Int) by omega), if_pos (show ((i + 1 : Nat) : Int) ≤ (b.length : Int) by omega), if_pos (Int.le_refl _), if_neg (show ¬ (b[i] = 0 ∧ 0 < i) from fun h => hz h.1), hval, told_ok]
      · rw [if_neg h128, if_neg h128]
        have hi9 : i ≠ 9 := fun h => g ⟨h, by omega⟩
        have hacc : acc + b[i].toNat % 128 * 2 ^ (7 * i) < 2 ^ (7 * (i + 1)) := by
          have h127 : b[i].toNat % 128 ≤ 127 := by omega
          have h2 := Nat.mul_le_mul_right (2 ^ (7 * i)) h127
          rw [show 7 * (i + 1) = 7 * i + 7 by omega, Nat.pow_add]
          omega
        rw [ih (acc + b[i].toNat % 128 * 2 ^ (7 * i)) (i + 1) b hb hm hml hmo (by omega) (by omega) hacc]
        refine congrArg some ?_
        unfold told
        by_cases he : (rdu (i + 1) (b.drop (i + 1))).2.2 = 0
        · rw [if_pos he, if_pos he, if_pos rfl]
          rw [show 7 * (i + 1) = 7 * i + 7 by omega, Nat.pow_add, acc_step]
        · rw [if_neg he, if_neg he, if_neg he]
    by_cases g9 : i = 9
    · rw [beq_yes (show (i : Int) = 9 by omega), cond_true]
      by_cases g8 : 1 < b[i]
      · rw [decide_eq_true (show b[i] > 1 from g8), cond_true, rdu, if_pos ⟨g9, g8⟩, told_2]
      · rw [decide_eq_false (show ¬ b[i] > 1 from g8), cond_false]
        exact step fun h => g8 h.2
    · rw [beq_no (show ¬ (i : Int) = 9 by omega), cond_false]
      exact step fun h => g9 h.1
/-- The number as a rdwhole one of the other kind, the bytes, the error. -/
def rdwhole (r : Nat × List Int × Int) : Int × List Int × Int := ((r.1 : Int), r.2.1, r.2.2)
theorem readUint_spec {b : List Int} (hb : Bytes b) (hm : b.length ≤ 140737488355328) : pack_ReadUint b = some (rdwhole (rdu 0 b)) := by
  have := read_l0 (min b.length 10) (by omega) (min b.length 10) 0 0 b hb hm (by omega) (by omega) (by omega) (by omega) (by decide)
  have e : (if (10 : Int) < ilen b then 10 else ilen b) = ((min b.length 10 : Nat) : Int) := by rw [ilen_eq]; split <;> omega
  rw [pack_ReadUint_eq, e]
  refine this.trans (congrArg some ?_)
  unfold told rdwhole
  by_cases he : (rdu 0 (b.drop 0)).2.2 = 0
  · rw [if_pos he]
    rw [List.drop_zero] at he ⊢
    rw [he]
    simp
  · rw [if_neg he]
    rw [List.drop_zero] at he ⊢
    obtain ⟨h1, h2⟩ := rdu_err 0 b he
    rw [h1, h2]; rfl
/-- Bytes that bytes begin with. -/
def rdb (b : List Int) : List Int × List Int × Int :=
  if (rdu 0 b).2.2 = 0 then (if (rdu 0 b).2.1.length < (rdu 0 b).1 then ([], [], 5) else ((rdu 0 b).2.1.take (rdu 0 b).1, (rdu 0 b).2.1.drop (rdu 0 b).1, 0)) else ([], [], (rdu 0 b).2.2)
theorem rdu_len (i : Nat) (b : List Int) : (rdu i b).2.1.length ≤ b.length := by
  induction b generalizing i with
  | nil => simp [rdu]
  | cons c r ih =>
    have := ih (i + 1)
    rw [rdu]
    split
    · simp
    · split
      · split <;> simp
      · split
        · simp; omega
        · simp
theorem rdu_rest {b : List Int} (hb : Bytes b) (i : Nat) : Bytes (rdu i b).2.1 := by
  induction b generalizing i with
  | nil => exact Bytes.nil
  | cons c r ih =>
    have hr : Bytes r := fun x hx => hb x (by simp [hx])
    rw [rdu]
    split
    · exact Bytes.nil
    · split
      · split
        · exact Bytes.nil
        · exact hr
      · split
        · exact ih hr (i + 1)
        · exact Bytes.nil
end Go.Proofs.Ytpoblfpjjlplbaa.PE
