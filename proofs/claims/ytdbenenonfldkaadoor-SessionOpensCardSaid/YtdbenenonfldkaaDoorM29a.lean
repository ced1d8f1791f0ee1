/- What the program's numbers as bytes, and names, come to. Texts as bytes behind their number. Names: what the program and the document say of a text. Numbers and texts as bytes. Numbers and texts as bytes: what the chapter says. Jobs: which may be; where one stands. Variables: whether they may be; as bytes, and read again. Variables as bytes, and read again. Whether a command may be. Printed by mk24.py. Commands as bytes. Printed by mk24p.py. A command that may be, and its bytes. Printed by mk24q.py. What Put answers. Printed by mk24s.py. What the chapter says of commands, notes. Printed by mk24t.py. What the chapter says of variables, of commands and notes. A command as bytes: what the chapter says. Printed by mk24C.py. -/
import Derived.Test.YtdbenenonfldkaaDoorX29p
import Derived.Test.YtdbenenonfldkaaDoorELib
import Derived.Test.YtdbenenonfldkaaDoorPackMath
namespace Go.Proofs.YtdbenenonfldkaaDoor.PE
set_option linter.unusedVariables false
open Go Go.RowKit Go.Proofs.YtdbenenonfldkaaDoor.Pack
attribute [local irreducible] pack_Uint_l0 pack_Name_l0 ref02_Name_l0 vars_Check_l1 ref09_Check_l0 vars_Put_l0 ref24_has_r27 ref24_has_l1 ref02_Uint_l0 ref09_Bytes_l0
theorem wraps8 (n : Int) (h₀ : 0 ≤ n) (h₁ : n < 2 ^ 8) : IntKind.u8.wrap n = n := by rw [wrap_u8]; omega
theorem wraps64 (n : Int) (h₀ : 0 ≤ n) (h₁ : n < 2 ^ 64) : IntKind.u64.wrap n = n := wrap_u64 h₀ (by omega)
theorem bits_or (k : IntKind) (x y : Int) : k.wrap ↑(BitVec.ofInt k.bits x ||| BitVec.ofInt k.bits y).toNat = Go.bits .or k x y := rfl
theorem bits_and (k : IntKind) (x y : Int) : k.wrap ↑(BitVec.ofInt k.bits x &&& BitVec.ofInt k.bits y).toNat = Go.bits .and k x y := rfl
theorem bits_xor (k : IntKind) (x y : Int) : k.wrap ↑(BitVec.ofInt k.bits x ^^^ BitVec.ofInt k.bits y).toNat = Go.bits .xor k x y := rfl
theorem bo8 {m : Nat} (h : m < 256) : Go.bits .or .u8 (m : Int) 128 = ((m % 128 + 128 : Nat) : Int) := by
  have := (bits_nat .u8 8 (by decide) wraps8 m 128 h (by decide)).2
  have e : ∀ m : Fin 256, m.val ||| 128 = m.val % 128 + 128 := by decide +kernel
  rw [e ⟨m, h⟩] at this
  exact this
theorem ba127 {x : Int} (h0 : 0 ≤ x) (h1 : x < 18446744073709551616) : Go.bits .and .u64 x 127 = x % 128 := by
  have := bits_mask .u64 64 (by decide) wraps64 7 (by decide) x h0 (by omega)
  simpa using this
theorem ba1 {x : Int} (h0 : 0 ≤ x) (h1 : x < 18446744073709551616) : Go.bits .and .u64 x 1 = x % 2 := by
  have := bits_mask .u64 64 (by decide) wraps64 1 (by decide) x h0 (by omega)
  simpa using this
theorem shlu {m i : Nat} (hi : i ≤ 9) (hm : m * 2 ^ (7 * i) < 18446744073709551616) : IntKind.u64.wrap ((m : Int) * 2 ^ min (7 * (i : Int)).toNat IntKind.u64.bits) = ((m * 2 ^ (7 * i) : Nat) : Int) := by
  rw [show (7 * (i : Int)).toNat = 7 * i by omega, show min (7 * i) IntKind.u64.bits = 7 * i by simp [IntKind.bits]; omega]
  have e2 : ((m : Int) * 2 ^ (7 * i)) = ((m * 2 ^ (7 * i) : Nat) : Int) := by rw [Int.natCast_mul, Int.natCast_pow]; rfl
  rw [e2]
  exact wrap_u64 (by omega) (by omega)
theorem orsh {acc m i : Nat} (hi : i ≤ 9) (ha : acc < 2 ^ (7 * i)) (hm : m * 2 ^ (7 * i) < 18446744073709551616) :
    Go.bits .or .u64 (acc : Int) ((m * 2 ^ (7 * i) : Nat) : Int) = ((acc + m * 2 ^ (7 * i) : Nat) : Int) := by
  have h2 : 2 ^ (7 * i) ≤ 2 ^ 63 := Nat.pow_le_pow_right (by decide) (by omega)
  rw [(bits_nat .u64 64 (by decide) wraps64 acc (m * 2 ^ (7 * i)) (by omega) (by omega)).2]
  congr 1
  rw [Nat.or_comm, Nat.mul_comm, ← Nat.two_pow_add_eq_or_of_lt ha m]
  omega
theorem uint_l0 : ∀ (f n : Nat) (x0 : List Int), n < 128 ^ (f + 1) → x0.length + f < 140737488351200 → pack_Uint_l0 (n : Int) x0 = some (x0 ++ encF f n) := by
  intro f
  induction f with
  | zero =>
    intro n x0 hn hl
    have : n < 128 := by simpa using hn
    rw [pack_Uint_l0_eq]
    simp -implicitDefEqProofs only [Bool.cond_decide]
    rw [if_neg (by omega), if_pos (show _ ≤ room by simp only [ilen_eq, List.length_cons, List.length_nil, room_eq]; omega), encF, wrap_u8, show (n : Int) % 256 = n by omega]
  | succ f ih =>
    intro n x0 hn hl
    rw [pack_Uint_l0_eq, encF]
    simp -implicitDefEqProofs only [Bool.cond_decide]
    by_cases h : n < 128
    · rw [if_neg (by omega), if_pos (show _ ≤ room by simp only [ilen_eq, List.length_cons, List.length_nil, room_eq]; omega), if_pos h, wrap_u8, show (n : Int) % 256 = n by omega]
    · rw [if_pos (by omega), if_pos (show _ ≤ room by simp only [ilen_eq, List.length_cons, List.length_nil, room_eq]; omega), if_neg h]
      have e : Go.bits .or .u8 ((n : Int) % 256) 128 = ((n % 128 + 128 : Nat) : Int) := by
        rw [show (n : Int) % 256 = ((n % 256 : Nat) : Int) by omega, bo8 (Nat.mod_lt _ (by decide)), show n % 256 % 128 = n % 128 by omega]
      rw [bits_or, wrap_u8, e, show ((2 : Int) ^ min (Int.toNat 7) IntKind.u64.bits) = 128 from rfl, Int.fdiv_eq_ediv_of_nonneg _ (by omega), show (n : Int) / 128 = ((n / 128 : Nat) : Int) by omega, ih (n / 128) _ (by rw [Nat.pow_succ] at hn; exact Nat.div_lt_of_lt_mul (by rw [Nat.mul_comm]; exact hn)) (by simp only [List.length_append, List.length_cons, List.length_nil]; omega)]
      rw [List.append_assoc, List.singleton_append]
theorem uint_spec {n : Nat} {x0 : List Int} (hn : n < 18446744073709551616) (hl : x0.length ≤ 140737488351000) : pack_Uint x0 (n : Int) = some (x0 ++ enc n) := by
  rw [pack_Uint_eq]
  exact uint_l0 9 n x0 (Nat.lt_of_lt_of_le hn (by decide)) (by omega)
/-- What is told of a reading: its number on top of what was read ahead. -/
def told (acc i : Nat) (r : Nat × List Int × Int) : Int × List Int × Int := if r.2.2 = 0 then (((acc + 2 ^ (7 * i) * r.1 : Nat) : Int), r.2.1, 0) else (0, [], r.2.2)
theorem told_2 (acc i : Nat) : told acc i (0, [], 2) = (0, [], 2) := by unfold told; rw [if_neg (by decide)]
theorem told_5 (acc i : Nat) : told acc i (0, [], 5) = (0, [], 5) := by unfold told; rw [if_neg (by decide)]
theorem told_ok (acc i v : Nat) (r : List Int) : told acc i (v, r, 0) = (((acc + 2 ^ (7 * i) * v : Nat) : Int), r, 0) := by unfold told; rw [if_pos rfl]
theorem acc_step (acc m X v : Nat) : acc + m * X + X * 2 ^ 7 * v = acc + X * (m + 128 * v) := by rw [Nat.mul_add, Nat.mul_comm m X, Nat.mul_assoc X (2 ^ 7) v, Nat.add_assoc]
/-- The number as a rdwhole one of the other kind, the bytes, the error. -/
def rdwhole (r : Nat × List Int × Int) : Int × List Int × Int := ((r.1 : Int), r.2.1, r.2.2)
/-- Bytes that bytes begin with. -/
def rdb (b : List Int) : List Int × List Int × Int :=
  if (rdu 0 b).2.2 = 0 then (if (rdu 0 b).2.1.length < (rdu 0 b).1 then ([], [], 5) else ((rdu 0 b).2.1.take (rdu 0 b).1, (rdu 0 b).2.1.drop (rdu 0 b).1, 0)) else ([], [], (rdu 0 b).2.2)
theorem rdu_len (i : Nat) (b : List Int) : (rdu i b).2.1.length ≤ b.length := by
  induction b generalizing i with
  | nil => simp [rdu]
  | cons c r ih =>
    have := ih (i + 1)
    rw [rdu]
    split
    · simp
    · split
      · split <;> simp
      · split
        · simp; omega
        · simp
theorem rdu_rest {b : List Int} (hb : Bytes b) (i : Nat) : Bytes (rdu i b).2.1 := by
  induction b generalizing i with
  | nil => exact Bytes.nil
  | cons c r ih =>
    have hr : Bytes r := fun x hx => hb x (by simp [hx])
    rw [rdu]
    split
    · exact Bytes.nil
    · split
      · split
        · exact Bytes.nil
        · exact hr
      · split
        · exact ih hr (i + 1)
        · exact Bytes.nil
end Go.Proofs.YtdbenenonfldkaaDoor.PE

namespace Go.Proofs.YtdbenenonfldkaaDoor.PE
open Go Go.RowKit Go.Proofs.YtdbenenonfldkaaDoor.Pack
theorem bytes_spec {x0 l1 : List Int} (hl : x0.length ≤ 140737488300000) (hl1 : l1.length ≤ 50000) : pack_Bytes x0 l1 = some (x0 ++ enc l1.length ++ l1) := by
  rw [pack_Bytes_eq, ilen_eq, wrap_u64 (by omega) (by omega), uint_spec (by omega) (by omega), Option.bind_some]
  have := enc_length l1.length
  rw [Bool.cond_decide, if_pos (show _ ≤ room by simp only [ilen_eq, List.length_append, room_eq]; omega)]
end Go.Proofs.YtdbenenonfldkaaDoor.PE

namespace Go.Proofs.YtdbenenonfldkaaDoor.PE
def nmc (c : Int) : Bool := (decide (48 ≤ c) && decide (c ≤ 57)) || (decide (97 ≤ c) && decide (c ≤ 122))
def nameL : List Int → Bool
  | [] => false
  | c :: r => decide (97 ≤ c) && (c :: r).all nmc && decide ((c :: r).length ≤ 32)
def nameS (s : ByteArray) : Bool := nameL (bytesList s)
theorem bytesList_len (s : ByteArray) : (bytesList s).length = s.size := by unfold bytesList; rw [List.length_map]; rfl
theorem bytesList_at (s : ByteArray) (i : Nat) : (bytesList s)[i]? = (s.data[i]?).map fun b => (b.toNat : Int) := by unfold bytesList; rw [List.getElem?_map, Array.getElem?_toList]
theorem name_l0 {s : ByteArray} (hs : s.size ≤ 140737488351232) : ∀ (r : List Int) (i : Nat), (bytesList s).drop i = r → 0 < i → pack_Name_l0 s (bytesList s).length i (bytesList s) = some (r.all nmc && (decide (1 ≤ s.size) && decide (s.size ≤ 32))) := by
  have hlen := bytesList_len s
  intro r
  induction r with
  | nil =>
    intro i h hi
    have h1 := at_nil h
    rw [pack_Name_l0_eq, isize_eq]
    simp -implicitDefEqProofs only [Bool.cond_decide]
    rw [if_neg (by omega)]
    by_cases h2 : 1 ≤ s.size
    · rw [if_pos (by omega)]
      have : decide ((s.size : Int) ≤ 32) = decide (s.size ≤ 32) := by apply decide_eq_decide.2; omega
      rw [this]
      simp [h2]
    · rw [if_neg (by omega)]; simp [h2]
  | cons c r ih =>
    intro i h hi
    obtain ⟨h1, h2, h3⟩ := at_drop h
    rw [pack_Name_l0_eq, ilen_eq]
    simp -implicitDefEqProofs only [Bool.cond_decide, Int.toNat_natCast, h2, Option.bind_some]
    rw [if_pos (by omega), if_pos (by omega), if_pos (by omega), wrap_succ (by omega), ih (i + 1) h3 (by omega), beq_no (show ¬ (i : Int) = 0 by omega), List.all_cons]
    by_cases k1 : c ≥ 97
    · rw [if_pos k1]
      by_cases k2 : c ≤ 122
      · rw [decide_eq_true k2, Bool.not_true, cond_false, show nmc c = true by simp [nmc, show 97 ≤ c from k1, k2], Bool.true_and]
      · rw [decide_eq_false k2, Bool.not_false, cond_true, cond_false, if_neg (by omega), if_pos (by omega), show nmc c = false by simp [nmc, k2]; omega]
        rfl
    · rw [if_neg k1, cond_false]
      by_cases k2 : c < 48
      · rw [if_pos k2, show nmc c = false by simp [nmc]; omega]
        rfl
      · rw [if_neg k2]
        by_cases k3 : c > 57
        · rw [if_pos k3, show nmc c = false by simp [nmc]; omega]
          rfl
        · rw [if_neg k3, show nmc c = true by simp [nmc]; omega, Bool.true_and]
theorem name_spec {s : ByteArray} (hs : s.size ≤ 140737488351232) : pack_Name s = some (nameS s) := by
  have hlen := bytesList_len s
  rw [pack_Name_eq, ilen_eq, nameS]
  cases hl : bytesList s with
  | nil =>
    rw [hl] at hlen
    rw [pack_Name_l0_eq, isize_eq]
    simp -implicitDefEqProofs only [Bool.cond_decide]
    rw [if_neg (by simp), if_neg (by simp at hlen; omega)]
    rfl
  | cons c r =>
    have hd : (bytesList s).drop 0 = c :: r := hl
    obtain ⟨h1, h2, h3⟩ := at_drop hd
    have key := name_l0 hs r 1 h3 (by omega)
    rw [← hl, pack_Name_l0_eq, ilen_eq]
    simp -implicitDefEqProofs only [Bool.cond_decide]
    rw [if_pos (by omega), if_pos (by omega), if_pos (by omega), show Int.toNat 0 = 0 from rfl, h2, Option.bind_some, wrap_i64 (by omega) (by omega), beq_yes rfl]
    rw [show (0 : Int) + 1 = ((1 : Nat) : Int) by omega, key]
    have e2 : decide ((c :: r).length ≤ 32) = decide (s.size ≤ 32) := by rw [← hlen, hl]
    rw [hl, nameL, e2, List.all_cons, decide_eq_true (show 1 ≤ s.size by omega), Bool.true_and]
    by_cases k1 : c ≥ 97
    · rw [if_pos k1, decide_eq_true (show 97 ≤ c from k1), Bool.true_and]
      by_cases k2 : c ≤ 122
      · rw [decide_eq_true k2, Bool.not_true, cond_false, show nmc c = true by simp [nmc, show 97 ≤ c from k1, k2], Bool.true_and]
      · rw [decide_eq_false k2, Bool.not_false, cond_true, cond_true, show nmc c = false by simp [nmc, k2]; omega]
        rfl
    · rw [if_neg k1, cond_true, decide_eq_false (show ¬ 97 ≤ c from k1)]
      rfl
theorem refName_l0 {s : ByteArray} (hs : s.size ≤ 140737488351232) : ∀ (r : List Int) (i : Nat), (bytesList s).drop i = r → ref02_Name_l0 s i = some (r.all nmc) := by
  have hlen := bytesList_len s
  intro r
  induction r with
  | nil =>
    intro i h
    have h1 := at_nil h
    rw [ref02_Name_l0_eq, isize_eq]
    simp -implicitDefEqProofs only [Bool.cond_decide]
    rw [if_neg (by omega)]
    rfl
  | cons c r ih =>
    intro i h
    obtain ⟨h1, h2, h3⟩ := at_drop h
    rw [bytesList_at] at h2
    obtain ⟨v, hv, rfl⟩ := Option.map_eq_some_iff.1 h2
    rw [ref02_Name_l0_eq, isize_eq]
    simp -implicitDefEqProofs only [Bool.cond_decide, Int.toNat_natCast, hv, Option.bind_some, if_pos (show (i : Int) < s.size by omega), if_pos (show (0 : Int) ≤ i by omega)]
    rw [wrap_succ (by omega), ih (i + 1) h3, List.all_cons]
    generalize (v.toNat : Int) = c
    by_cases k1 : c ≥ 48
    · rw [if_pos k1]
      by_cases k2 : c ≥ 97
      · rw [if_pos k2, decide_eq_false (show ¬ c ≤ 57 by omega), Bool.not_false, cond_true]
        by_cases k3 : c ≤ 122
        · rw [decide_eq_true k3, Bool.not_true, cond_false, show nmc c = true by simp [nmc]; omega, Bool.true_and]
        · rw [decide_eq_false k3, Bool.not_false, cond_true, show nmc c = false by simp [nmc]; omega, Bool.false_and]
      · rw [if_neg k2]
        by_cases k3 : c ≤ 57
        · rw [decide_eq_true k3, Bool.not_true, cond_false, show nmc c = true by simp [nmc]; omega, Bool.true_and]
        · rw [decide_eq_false k3, Bool.not_false, cond_true, show nmc c = false by simp [nmc]; omega, Bool.false_and]
    · rw [if_neg k1, if_neg (show ¬ c ≥ 97 by omega), show nmc c = false by simp [nmc]; omega, Bool.false_and]
theorem refName_spec {s : ByteArray} (hs : s.size ≤ 140737488351232) : ref02_Name s = some (nameS s) := by
  have hlen := bytesList_len s
  rw [ref02_Name_eq, isize_eq, nameS]
  simp -implicitDefEqProofs only [Bool.cond_decide]
  cases hl : bytesList s with
  | nil =>
    rw [hl] at hlen
    rw [beq_yes (show (s.size : Int) = 0 by simp at hlen; omega)]
    rfl
  | cons c r =>
    have hd : (bytesList s).drop 0 = c :: r := hl
    obtain ⟨h1, h2, h3⟩ := at_drop hd
    have key := refName_l0 hs (bytesList s) 0 rfl
    rw [Int.natCast_zero] at key
    rw [bytesList_at] at h2
    obtain ⟨v, hv, rfl⟩ := Option.map_eq_some_iff.1 h2
    rw [beq_no (show ¬ (s.size : Int) = 0 by omega), cond_false, show Int.toNat 0 = 0 from rfl, hv, Option.bind_some, key, hl, nameL]
    have e2 : decide ((((v.toNat : Int)) :: r).length ≤ 32) = decide (s.size ≤ 32) := by rw [← hlen, hl]
    rw [e2]
    by_cases k1 : (s.size : Int) > 32
    · rw [if_pos k1, decide_eq_false (show ¬ s.size ≤ 32 by omega), Bool.and_false]
    · rw [if_neg k1, decide_eq_true (show s.size ≤ 32 by omega), Bool.and_true]
      by_cases k2 : (v.toNat : Int) < 97
      · rw [if_pos k2, decide_eq_false (show ¬ 97 ≤ (v.toNat : Int) by omega), Bool.false_and]
      · rw [if_neg k2, decide_eq_true (show 97 ≤ (v.toNat : Int) by omega), Bool.true_and]
end Go.Proofs.YtdbenenonfldkaaDoor.PE

namespace Go.Proofs.YtdbenenonfldkaaDoor.PE
open Go Go.RowKit Go.Proofs.YtdbenenonfldkaaDoor.Pack
theorem xor_ones {n : Nat} (h : n < 18446744073709551616) : Go.bits .xor .u64 (n : Int) 18446744073709551615 = ((18446744073709551615 - n : Nat) : Int) := by
  show IntKind.u64.wrap (((BitVec.ofInt 64 (n : Int) ^^^ BitVec.ofInt 64 18446744073709551615).toNat : Nat) : Int) = _
  have e2 : BitVec.ofInt 64 18446744073709551615 = BitVec.allOnes 64 := by decide
  rw [e2, BitVec.xor_allOnes, BitVec.toNat_not, BitVec.ofInt_natCast, BitVec.toNat_ofNat, Nat.mod_eq_of_lt (show n < 2 ^ 64 from h)]
  exact wrap_u64 (by omega) (by omega)
theorem xor_zero {n : Nat} (h : n < 18446744073709551616) : Go.bits .xor .u64 (n : Int) 0 = (n : Int) := by
  show IntKind.u64.wrap (((BitVec.ofInt 64 (n : Int) ^^^ BitVec.ofInt 64 0).toNat : Nat) : Int) = _
  have e2 : BitVec.ofInt 64 0 = 0#64 := by decide
  rw [e2, BitVec.xor_zero, BitVec.ofInt_natCast, BitVec.toNat_ofNat, Nat.mod_eq_of_lt (show n < 2 ^ 64 from h)]
  exact wrap_u64 (by omega) (by omega)
theorem zigzag {m : Int} (h0 : -9223372036854775808 ≤ m) (h1 : m ≤ 9223372036854775807) :
    Go.bits .xor .u64 (IntKind.u64.wrap ((IntKind.u64.wrap m) * 2)) (IntKind.u64.wrap (m / 9223372036854775808)) = ((zig m : Nat) : Int) := by
  by_cases h : 0 ≤ m
  · rw [show m / 9223372036854775808 = 0 by omega, wrap_u64 (x := 0) (by omega) (by omega), wrap_u64 (x := m) h (by omega), wrap_u64 (by omega) (by omega), show m * 2 = (((2 * m).toNat : Nat) : Int) by omega, xor_zero (by omega)]
    unfold zig; rw [if_pos h]
  · rw [show m / 9223372036854775808 = -1 by omega, wrap_u64' (x := -1), wrap_u64' (x := m), wrap_u64', show (-1 : Int) % 18446744073709551616 = 18446744073709551615 from rfl, show m % 18446744073709551616 * 2 % 18446744073709551616 = (((18446744073709551616 + 2 * m).toNat : Nat) : Int) by omega, xor_ones (by omega)]
    unfold zig; rw [if_neg h]; omega
theorem int_spec {m : Int} {x0 : List Int} (h0 : -9223372036854775808 ≤ m) (h1 : m ≤ 9223372036854775807) (hl : x0.length ≤ 140737488351000) : pack_Int x0 m = some (x0 ++ enc (zig m)) := by
  rw [pack_Int_eq, bits_xor, show ((2 : Int) ^ min (Int.toNat 1) IntKind.u64.bits) = 2 from rfl, show ((2 : Int) ^ min (Int.toNat 63) IntKind.i64.bits) = 9223372036854775808 from rfl, Int.fdiv_eq_ediv_of_nonneg _ (by omega), zigzag h0 h1, uint_spec (zig_lt h0 h1) hl]
  rfl
/-- Bytes behind their number. -/
def encB (s : List Int) : List Int := enc s.length ++ s
theorem encB_len (s : List Int) : (encB s).length ≤ s.length + 10 := by
  have := enc_length s.length
  simp only [encB, List.length_append]; omega
theorem bytesL {x0 s : List Int} (hl : x0.length ≤ 1000000000000) (hs : s.length ≤ 100000) : pack_Bytes x0 s = some (x0 ++ encB s) := by
  rw [pack_Bytes_eq, ilen_eq, wrap_u64 (by omega) (by omega), uint_spec (by omega) (by omega), Option.bind_some]
  have := enc_length s.length
  rw [Bool.cond_decide, if_pos (show _ ≤ room by simp only [ilen_eq, List.length_append, room_eq]; omega), List.append_assoc]
  rfl
theorem xorz {n : Nat} (h : n < 9223372036854775808) : Go.bits .xor .i64 (n : Int) 0 = (n : Int) := by
  show IntKind.i64.wrap (((BitVec.ofInt 64 (n : Int) ^^^ BitVec.ofInt 64 0).toNat : Nat) : Int) = _
  have e2 : BitVec.ofInt 64 0 = 0#64 := by decide
  rw [e2, BitVec.xor_zero, BitVec.ofInt_natCast, BitVec.toNat_ofNat, Nat.mod_eq_of_lt (show n < 2 ^ 64 by omega)]
  exact wrap_i64 (by omega) (by omega)
theorem xorm {n : Nat} (h : n < 9223372036854775808) : Go.bits .xor .i64 (n : Int) (-1) = -(n : Int) - 1 := by
  show IntKind.i64.wrap (((BitVec.ofInt 64 (n : Int) ^^^ BitVec.ofInt 64 (-1)).toNat : Nat) : Int) = _
  have e2 : BitVec.ofInt 64 (-1) = BitVec.allOnes 64 := by decide
  rw [e2, BitVec.xor_allOnes, BitVec.toNat_not, BitVec.ofInt_natCast, BitVec.toNat_ofNat, Nat.mod_eq_of_lt (show n < 2 ^ 64 by omega)]
  rw [IntKind.wrap_i64]
  omega
theorem unzig {v : Nat} (h : v < 18446744073709551616) :
    Go.bits .xor .i64 (IntKind.i64.wrap ((v : Int).fdiv (2 ^ min (Int.toNat 1) IntKind.u64.bits))) (IntKind.i64.wrap (0 - IntKind.i64.wrap (Go.bits .and .u64 (v : Int) 1))) = zag v := by
  rw [show ((2 : Int) ^ min (Int.toNat 1) IntKind.u64.bits) = 2 from rfl, Int.fdiv_eq_ediv_of_nonneg _ (by omega), ba1 (by omega) (by omega), wrap_i64 (x := (v : Int) / 2) (by omega) (by omega), wrap_i64 (x := (v : Int) % 2) (by omega) (by omega), wrap_i64 (by omega) (by omega), show (v : Int) / 2 = ((v / 2 : Nat) : Int) by omega]
  unfold zag
  by_cases he : v % 2 = 0
  · rw [if_pos he, show (0 : Int) - (v : Int) % 2 = 0 by omega, xorz (by omega)]
  · rw [if_neg he, show (0 : Int) - (v : Int) % 2 = -1 by omega, xorm (by omega)]
end Go.Proofs.YtdbenenonfldkaaDoor.PE

namespace Go.Proofs.YtdbenenonfldkaaDoor.PE
open Go Go.RowKit Go.Proofs.YtdbenenonfldkaaDoor.Pack
theorem refUint_l0 : ∀ (f n : Nat) (x0 : List Int), n < 128 ^ (f + 1) → n < 18446744073709551616 → x0.length + f < 140737488351200 → ref02_Uint_l0 (n : Int) x0 = some (x0 ++ encF f n) := by
  intro f
  induction f with
  | zero =>
    intro n x0 hn hn64 hl
    have : n < 128 := by simpa using hn
    rw [ref02_Uint_l0_eq]
    simp -implicitDefEqProofs only [Bool.cond_decide]
    rw [if_neg (by omega), if_pos (show _ ≤ room by simp only [ilen_eq, List.length_cons, List.length_nil, room_eq]; omega), encF, wrap_u8, show (n : Int) % 256 = n by omega]
  | succ f ih =>
    intro n x0 hn hn64 hl
    rw [ref02_Uint_l0_eq, encF]
    simp -implicitDefEqProofs only [Bool.cond_decide]
    by_cases h : n < 128
    · rw [if_neg (by omega), if_pos (show _ ≤ room by simp only [ilen_eq, List.length_cons, List.length_nil, room_eq]; omega), if_pos h, wrap_u8, show (n : Int) % 256 = n by omega]
    · rw [if_pos (by omega), if_pos (show _ ≤ room by simp only [ilen_eq, List.length_cons, List.length_nil, room_eq]; omega), if_neg h]
      rw [Int.tmod_eq_emod_of_nonneg (by omega), Int.tdiv_eq_ediv_of_nonneg (by omega), wrap_u64 (x := 128 + (n : Int) % 128) (by omega) (by omega), wrap_u8, show (128 + (n : Int) % 128) % 256 = ((n % 128 + 128 : Nat) : Int) by omega, wrap_u64 (by omega) (by omega), show (n : Int) / 128 = ((n / 128 : Nat) : Int) by omega, ih (n / 128) _ (by rw [Nat.pow_succ] at hn; exact Nat.div_lt_of_lt_mul (by rw [Nat.mul_comm]; exact hn)) (by omega) (by simp only [List.length_append, List.length_cons, List.length_nil]; omega)]
      rw [List.append_assoc, List.singleton_append]
theorem refUint_spec {n : Nat} (hn : n < 18446744073709551616) : ref02_Uint (n : Int) = some (enc n) := by
  rw [ref02_Uint_eq]
  exact refUint_l0 9 n [] (Nat.lt_of_lt_of_le hn (by decide)) hn (by simp)
theorem refBytesL {s : List Int} (hs : s.length ≤ 100000) : ref02_Bytes s = some (encB s) := by
  rw [ref02_Bytes_eq, ilen_eq, wrap_u64 (by omega) (by omega), refUint_spec (by omega), Option.bind_some]
  have := enc_length s.length
  rw [Bool.cond_decide, if_pos (show _ ≤ room by simp only [ilen_eq, room_eq]; omega)]
  rfl
theorem refInt_spec {m : Int} (h0 : -9223372036854775808 ≤ m) (h1 : m ≤ 9223372036854775807) : ref02_Int m = some (enc (zig m)) := by
  rw [ref02_Int_eq]
  simp -implicitDefEqProofs only [Bool.cond_decide]
  unfold zig
  by_cases h : m ≥ 0
  · rw [if_pos h, if_pos h, wrap_u64 (x := m) h (by omega), wrap_u64 (by omega) (by omega), show m * 2 = (((2 * m).toNat : Nat) : Int) by omega, refUint_spec (by omega)]
    rfl
  · rw [if_neg h, if_neg h, wrap_i64 (x := m + 1) (by omega) (by omega), wrap_i64 (by omega) (by omega), wrap_u64 (x := 0 - (m + 1)) (by omega) (by omega), wrap_u64 (x := (0 - (m + 1)) * 2) (by omega) (by omega), wrap_u64 (by omega) (by omega), show (0 - (m + 1)) * 2 + 1 = (((-2 * m - 1).toNat : Nat) : Int) by omega, refUint_spec (by omega)]
    rfl
end Go.Proofs.YtdbenenonfldkaaDoor.PE

namespace Go.Proofs.YtdbenenonfldkaaDoor.PE
abbrev J : Type := Int × Int × Int × ByteArray × Int × ByteArray × Int
def emp : ByteArray := ⟨#[]⟩
def E0 (s : ByteArray) : Bool := s.toList == (⟨#[]⟩ : ByteArray).toList
def inR (a b c : Int) : Bool := decide (b ≤ a) && decide (a ≤ c)
/-- May a job be? -/
def okJ (j : J) : Bool := inR j.1 1 1099511627776 && (inR j.2.1 1 1099511627776 && (inR j.2.2.1 1 1099511627776 && (inR j.2.2.2.2.1 0 9 && (inR j.2.2.2.2.2.2 0 1099511627776 && (nameS j.2.2.2.1 &&
  bif E0 j.2.2.2.2.2.1 then j.2.2.2.2.2.2 == 0 else bif nameS j.2.2.2.2.2.1 then decide (j.2.2.2.2.1 > 0) else false)))))
/-- Texts of a size that may be. -/
def TxJ (j : J) : Prop := j.2.2.2.1.size ≤ 140737488351232 ∧ j.2.2.2.2.2.1.size ≤ 140737488351232
theorem ga (a x : Bool) : (bif !a then some false else some x) = some (a && x) := by cases a <;> rfl
theorem gc (a x : Bool) : (bif !a then false else x) = (a && x) := by cases a <;> rfl
theorem gb {α : Type} (c : Bool) (a b : α) : (bif c then some a else some b) = some (bif c then a else b) := by cases c <;> rfl
/-- Jobs that may be, each behind the ones ahead of it. -/
def rising : Int → List J → Bool
  | _, [] => true
  | last, j :: r => okJ j && (decide (last < j.1) && rising j.1 r)
theorem okJ_range {j : J} (h : okJ j = true) : 1 ≤ j.1 ∧ j.1 ≤ 1099511627776 ∧ 0 ≤ j.2.2.2.2.1 ∧ j.2.2.2.2.1 ≤ 9 ∧ 0 ≤ j.2.2.2.2.2.2 ∧ j.2.2.2.2.2.2 ≤ 1099511627776 := by
  simp only [okJ, inR, Bool.and_eq_true, decide_eq_true_eq] at h
  exact ⟨h.1.1, h.1.2, h.2.2.2.1.1, h.2.2.2.1.2, h.2.2.2.2.1.1, h.2.2.2.2.1.2⟩
end Go.Proofs.YtdbenenonfldkaaDoor.PE

namespace Go.Proofs.YtdbenenonfldkaaDoor.PE
open Go Go.RowKit Go.Proofs.YtdbenenonfldkaaDoor.Pack
def yesB : ByteArray := ⟨#[121, 101, 115]⟩
def noB : ByteArray := ⟨#[110, 111]⟩
def ahead : Option ByteArray → ByteArray → Bool
  | none, _ => true
  | some q, s => Op.bytesLess q.toList s.toList
def goodV : Option ByteArray → List ByteArray → Bool
  | _, [] => true
  | p, s :: r => nameS s && (!(s.toList == yesB.toList) && (!(s.toList == noB.toList) && (ahead p s && goodV (some s) r)))
/-- What is wrong with variables. -/
def chkV (ns : List ByteArray) (vs : List Int) : Int := if ns.length ≠ vs.length then 1 else if ns.length > 64 then 6 else if goodV none ns = true then 0 else 1
def Txt (ns : List ByteArray) : Prop := ∀ s ∈ ns, s.size ≤ 140737488351232
theorem vcheck_l1 {ns : List ByteArray} {vs : List Int} (hl : ns.length ≤ 1000) (ht : Txt ns) : ∀ (r : List ByteArray) (i : Nat) (p : Option ByteArray), ns.drop i = r → (i = 0 → p = none) → (∀ k, i = k + 1 → ∃ q, ns[k]? = some q ∧ p = some q) →
    vars_Check_l1 ns (ns.length : Int) (i : Int) ns vs = some (if goodV p r = true then 0 else 1) := by
  intro r
  induction r with
  | nil =>
    intro i p hd _ _
    have := at_nil hd
    rw [vars_Check_l1_eq, Bool.cond_decide, if_neg (by omega), goodV, if_pos rfl]
  | cons s r ih =>
    intro i p hd hp0 hp1
    obtain ⟨h1, h2, h3⟩ := at_drop hd
    have ihs := ih (i + 1) (some s) h3 (fun h => by omega) (fun k hk => ⟨s, by rw [show k = i by omega]; exact h2, rfl⟩)
    rw [vars_Check_l1_eq, Bool.cond_decide, if_pos (by omega), Bool.cond_decide, if_pos (by omega), Int.toNat_natCast, h2, Option.bind_some, name_spec (ht s (List.mem_of_getElem? h2)), Option.bind_some, wrap_succ (by omega), ihs, goodV,
      show (⟨#[121, 101, 115]⟩ : ByteArray) = yesB from rfl, show (⟨#[110, 111]⟩ : ByteArray) = noB from rfl]
    cases nameS s with
    | false => rfl
    | true =>
      cases (s.toList == yesB.toList) with
      | true => rfl
      | false =>
        cases (s.toList == noB.toList) with
        | true => rfl
        | false =>
          rw [Bool.not_true, cond_false, cond_false, cond_false, Bool.cond_decide]
          cases i with
          | zero =>
            rw [hp0 rfl, if_neg (by omega)]
            simp only [ahead, Bool.not_false, Bool.true_and]
          | succ k =>
            obtain ⟨q, hq, rfl⟩ := hp1 k rfl
            rw [if_pos (by omega), wrap_i64 (x := ((k + 1 : Nat) : Int) - 1) (by omega) (by omega), show ((k + 1 : Nat) : Int) - 1 = (k : Int) by omega, Bool.cond_decide, if_pos (by omega), Int.toNat_natCast, hq, Option.bind_some, ahead]
            cases Op.bytesLess q.toList s.toList <;> simp
theorem vcheck_spec {ns : List ByteArray} (vs : List Int) (hl : ns.length ≤ 9223372036854775806) (hv : vs.length ≤ 9223372036854775806) (ht : Txt ns) : vars_Check ns vs = some (chkV ns vs) := by
  rw [vars_Check_eq, ilen_eq, ilen_eq, chkV]
  by_cases h1 : ns.length = vs.length
  · rw [bne_no (by omega), cond_false, if_neg (fun h => h h1), Bool.cond_decide]
    by_cases h2 : ns.length > 64
    · rw [if_pos (by omega), if_pos h2]
    · rw [if_neg (by omega), if_neg h2]
      exact vcheck_l1 (by omega) ht ns 0 none rfl (fun _ => rfl) (fun k hk => by omega)
  · rw [bne_yes (by omega), cond_true, if_pos h1]
theorem chkV_ok {ns : List ByteArray} {vs : List Int} (h : chkV ns vs = 0) : ns.length = vs.length ∧ ns.length ≤ 64 ∧ goodV none ns = true := by
  unfold chkV at h
  split at h
  · cases h
  · rename_i h1
    split at h
    · cases h
    · rename_i h2
      split at h
      · rename_i h3
        exact ⟨by omega, by omega, h3⟩
      · cases h
theorem goodV_name {ns : List ByteArray} : ∀ {p : Option ByteArray}, goodV p ns = true → ∀ s ∈ ns, nameS s = true := by
  induction ns with
  | nil => intro p _ s hs; cases hs
  | cons x ns ih =>
    intro p h s hs
    simp only [goodV, Bool.and_eq_true] at h
    rcases List.mem_cons.mp hs with rfl | hs
    · exact h.1
    · exact ih h.2.2.2.2 s hs
end Go.Proofs.YtdbenenonfldkaaDoor.PE

namespace Go.Proofs.YtdbenenonfldkaaDoor.PE
open Go Go.RowKit Go.Proofs.YtdbenenonfldkaaDoor.Pack
theorem bytesList_bytes (s : ByteArray) : Bytes (bytesList s) := by
  intro x hx
  unfold bytesList at hx
  obtain ⟨c, _, rfl⟩ := List.mem_map.mp hx
  have := c.toNat_lt
  omega
theorem strOf_list (s : ByteArray) : strOf (bytesList s) = s := by
  cases s with
  | mk d =>
    cases d with
    | mk l =>
      unfold strOf bytesList
      congr 1
      show ((l.map fun b => (b.toNat : Int)).map fun n => UInt8.ofNat n.toNat).toArray = ⟨l⟩
      rw [List.map_map]
      have : (l.map ((fun n : Int => UInt8.ofNat n.toNat) ∘ fun b : UInt8 => (b.toNat : Int))) = l := by
        conv => rhs; rw [← List.map_id l]
        apply List.map_congr_left
        intro x _
        simp
      rw [this]
theorem list_strOf {t : List Int} (ht : Bytes t) : bytesList (strOf t) = t := by
  unfold strOf bytesList
  show ((t.map fun n => UInt8.ofNat n.toNat).map fun b => (b.toNat : Int)) = t
  rw [List.map_map]
  conv => rhs; rw [← List.map_id t]
  apply List.map_congr_left
  intro x hx
  have := ht x hx
  simp only [Function.comp, id, UInt8.toNat_ofNat']
  omega
theorem strOf_size (t : List Int) : (strOf t).size = t.length := by
  unfold strOf
  show ((t.map fun n => UInt8.ofNat n.toNat).toArray).size = t.length
  simp
theorem nameS_len {s : ByteArray} (h : nameS s = true) : (bytesList s).length ≤ 32 := by
  unfold nameS at h
  cases hb : bytesList s with
  | nil => simp
  | cons c r =>
    rw [hb] at h
    simp only [nameL, Bool.and_eq_true, decide_eq_true_eq] at h
    exact h.2
theorem nameS_size {s : ByteArray} (h : nameS s = true) : s.size ≤ 32 := by
  have := nameS_len h
  rw [bytesList_len] at this
  exact this
def encPairs : List ByteArray → List Int → List Int
  | s :: ns, v :: vs => encB (bytesList s) ++ (enc (zig v) ++ encPairs ns vs)
  | _, _ => []
def encV (ns : List ByteArray) (vs : List Int) : List Int := enc ns.length ++ encPairs ns vs
def I64 (vs : List Int) : Prop := ∀ v ∈ vs, -9223372036854775808 ≤ v ∧ v ≤ 9223372036854775807
def Names (ns : List ByteArray) : Prop := ∀ s ∈ ns, nameS s = true
theorem encPairs_len {ns : List ByteArray} (vs : List Int) (h : Names ns) : (encPairs ns vs).length ≤ 60 * ns.length := by
  induction ns generalizing vs with
  | nil => simp [encPairs]
  | cons s ns ih =>
    cases vs with
    | nil => simp [encPairs]
    | cons v vs =>
      have h1 := encB_len (bytesList s)
      have h2 := nameS_len (h s (by simp))
      have h3 := enc_length (zig v)
      have h4 := ih vs fun x hx => h x (by simp [hx])
      simp only [encPairs, List.length_append, List.length_cons]; omega
theorem encPairs_bytes {ns : List ByteArray} {vs : List Int} (h : Names ns) (hv : I64 vs) : Bytes (encPairs ns vs) := by
  induction ns generalizing vs with
  | nil => exact Bytes.nil
  | cons s ns ih =>
    cases vs with
    | nil => exact Bytes.nil
    | cons v vs =>
      have h2 := nameS_len (h s (by simp))
      have hz := zig_lt (hv v (by simp)).1 (hv v (by simp)).2
      exact ((enc_bytes (n := (bytesList s).length) (by omega)).app (bytesList_bytes s)).app ((enc_bytes hz).app (ih (fun x hx => h x (by simp [hx])) fun x hx => hv x (by simp [hx])))
theorem vput_l0 {ns : List ByteArray} {vs : List Int} (hl : ns.length ≤ 1000) (hlv : ns.length = vs.length) (hn : Names ns) (hv : I64 vs) : ∀ (r : List ByteArray) (q : List Int) (i : Nat) (acc : List Int), ns.drop i = r → vs.drop i = q → acc.length + 60 * r.length ≤ 1000000000000 →
    vars_Put_l0 ns (ns.length : Int) (i : Int) ns vs acc = some (acc ++ encPairs r q) := by
  intro r
  induction r with
  | nil =>
    intro q i acc hd hq _
    have := at_nil hd
    rw [vars_Put_l0_eq, Bool.cond_decide, if_neg (by omega), encPairs, List.append_nil]
    intro s ns v vs h; cases h
  | cons s r ih =>
    intro q i acc hd hq hb
    obtain ⟨h1, h2, h3⟩ := at_drop hd
    have hiv : i < vs.length := by omega
    rw [List.drop_eq_getElem_cons hiv] at hq
    subst hq
    have hs := nameS_len (hn s (List.mem_of_getElem? h2))
    have hvi := hv vs[i] (List.getElem_mem hiv)
    have l1 := encB_len (bytesList s)
    have l2 := enc_length (zig vs[i])
    rw [List.length_cons] at hb
    rw [vars_Put_l0_eq, Bool.cond_decide, if_pos (by omega), Bool.cond_decide, if_pos (by omega), Int.toNat_natCast, h2, Option.bind_some, bytesL (by omega) (by omega), Option.bind_some, Bool.cond_decide, if_pos (by omega), List.getElem?_eq_getElem hiv, Option.bind_some,
      int_spec hvi.1 hvi.2 (by rw [List.length_append]; omega), Option.bind_some, wrap_succ (by omega), ih _ (i + 1) _ h3 rfl (by simp only [List.length_append]; omega), encPairs]
    simp only [List.append_assoc]
theorem vput_spec {x0 : List Int} {ns : List ByteArray} {vs : List Int} (hl : ns.length ≤ 1000) (hlv : ns.length = vs.length) (hn : Names ns) (hv : I64 vs) (hx : x0.length ≤ 100000000000) : vars_Put x0 ns vs = some (x0 ++ encV ns vs) := by
  have := enc_length ns.length
  rw [vars_Put_eq, ilen_eq, wrap_u64 (by omega) (by omega), uint_spec (by omega) (by omega), Option.bind_some, encV, ← List.append_assoc]
  exact vput_l0 hl hlv hn hv ns vs 0 _ rfl rfl (by rw [List.length_append]; omega)
end Go.Proofs.YtdbenenonfldkaaDoor.PE

namespace Go.Proofs.YtdbenenonfldkaaDoor.PE
open Go Go.RowKit Go.Proofs.YtdbenenonfldkaaDoor.Pack
def fromS (n : Int) (a : Bool) (lo hi : Int) : Bool := bif a then inR n lo hi else n == 0
def textS (s : ByteArray) (a : Bool) : Bool := bif a then nameS s else s.toList == (⟨#[]⟩ : ByteArray).toList
def varsS (ns : List ByteArray) (vs : List Int) (a : Bool) : Int := bif a then chkV ns vs else bif decide (0 < ns.length) || decide (0 < vs.length) then 1 else chkV ns vs
theorem from_spec (n : Int) (a : Bool) (lo hi : Int) : command_from n a lo hi = some (fromS n a lo hi) := by
  rw [command_from_eq, fromS, inR]
  cases a with
  | false => rfl
  | true =>
    rw [Bool.not_true, cond_false, cond_true, Bool.cond_decide]
    by_cases h : n ≥ lo
    · rw [if_pos h, decide_eq_true (show lo ≤ n from h), Bool.true_and]
    · rw [if_neg h, decide_eq_false (show ¬ lo ≤ n from h), Bool.false_and]
theorem text_spec {s : ByteArray} (a : Bool) (h : s.size ≤ 140737488351232) : command_text s a = some (textS s a) := by
  rw [command_text_eq, textS, name_spec h, Option.bind_some]
  cases a <;> rfl
theorem variables_spec {ns : List ByteArray} (vs : List Int) (a : Bool) (hl : ns.length ≤ 9223372036854775806) (hv : vs.length ≤ 9223372036854775806) (ht : Txt ns) : command_variables ns vs a = some (varsS ns vs a) := by
  rw [command_variables_eq, varsS, vcheck_spec vs hl hv ht, Option.bind_some, ilen_eq, ilen_eq]
  cases a with
  | true => rfl
  | false =>
    rw [Bool.not_false, cond_true, cond_false, Bool.cond_decide, Bool.cond_decide]
    by_cases h1 : 0 < ns.length
    · rw [if_pos (by omega), decide_eq_true h1, Bool.true_or]; rfl
    · rw [if_neg (by omega), decide_eq_false h1, Bool.false_or, Bool.cond_decide]
      by_cases h2 : 0 < vs.length
      · rw [if_pos (by omega), if_pos h2]
      · rw [if_neg (by omega), if_neg h2]

noncomputable def chkGen (a n w k v i o c t d : Bool) (x1 x2 : Int) (x3 x4 : ByteArray) (x5 : Int) (x6 : List ByteArray) (x7 : List Int) (x8 x9 x10 x11 : Int) (x12 : List Int) : Option Int :=
  (command_from x1 a 1 1099511627776).bind fun r => bif !r then some 1 else (command_from x2 a 1 1099511627776).bind fun r => bif !r then some 1 else (command_text x3 n).bind fun r => bif !r then some 1 else (command_text x4 w).bind fun r => bif !r then some 1 else bif (!k && x5 != 0) then some 1 else (command_from x8 i 0 1099511627776).bind fun r => bif !r then some 2 else (command_from x9 o 0 1099511627776).bind fun r => bif !r then some 2 else (command_from x10 c 0 1099511627776).bind fun r => bif !r then some 2 else (command_from x11 t 0 1099511627776).bind fun r => bif !r then some 2 else bif (!d && decide (ilen x12 > 0)) then some 1 else bif decide (ilen x12 > 65536) then some 6 else (command_variables x6 x7 v).bind fun r => some r

def chkB (a n w k v i o c t d : Bool) (x1 x2 : Int) (x3 x4 : ByteArray) (x5 : Int) (x6 : List ByteArray) (x7 : List Int) (x8 x9 x10 x11 : Int) (x12 : List Int) : Int :=
  bif !fromS x1 a 1 1099511627776 then 1 else bif !fromS x2 a 1 1099511627776 then 1 else bif !textS x3 n then 1 else bif !textS x4 w then 1 else bif (!k && x5 != 0) then 1 else bif !fromS x8 i 0 1099511627776 then 2 else bif !fromS x9 o 0 1099511627776 then 2 else bif !fromS x10 c 0 1099511627776 then 2 else bif !fromS x11 t 0 1099511627776 then 2 else bif (!d && decide (ilen x12 > 0)) then 1 else bif decide (ilen x12 > 65536) then 6 else varsS x6 x7 v

theorem bif_some {α : Type} (c : Bool) (a b : α) : (bif c then some a else some b) = some (bif c then a else b) := by cases c <;> rfl
theorem chkGen_spec (a n w k v i o c t d : Bool) (x1 x2 : Int) (x3 x4 : ByteArray) (x5 : Int) (x6 : List ByteArray) (x7 : List Int) (x8 x9 x10 x11 : Int) (x12 : List Int) (h3 : x3.size ≤ 140737488351232) (h4 : x4.size ≤ 140737488351232) (hl : x6.length ≤ 9223372036854775806) (hv : x7.length ≤ 9223372036854775806) (ht : Txt x6) :
    chkGen a n w k v i o c t d x1 x2 x3 x4 x5 x6 x7 x8 x9 x10 x11 x12 = some (chkB a n w k v i o c t d x1 x2 x3 x4 x5 x6 x7 x8 x9 x10 x11 x12) := by
  unfold chkGen chkB
  simp only [from_spec, text_spec _ h3, text_spec _ h4, variables_spec x7 v hl hv ht, Option.bind_some, bif_some]

/-- What a kind of command is about. -/
def flag (k : Int) : Nat := if k = 1 then 256 else if k = 2 then 513 else if k = 3 then 19 else if k = 4 then 155 else if k = 5 then 391 else if k = 6 then 53 else if k = 7 then 37 else if k = 8 then 113 else if k = 9 then 161 else if k = 10 then 33 else if k = 11 then 672 else if k = 12 then 160 else 0
def hs (k : Int) (w : Nat) : Bool := decide (flag k / w % 2 = 1)

def chkC (x0 : Int) (x1 x2 : Int) (x3 x4 : ByteArray) (x5 : Int) (x6 : List ByteArray) (x7 : List Int) (x8 x9 x10 x11 : Int) (x12 : List Int) : Int := if flag x0 = 0 then 1 else chkB (hs x0 1) (hs x0 2) (hs x0 4) (hs x0 8) (hs x0 16) (hs x0 32) (hs x0 64) (hs x0 128) (hs x0 256) (hs x0 512) x1 x2 x3 x4 x5 x6 x7 x8 x9 x10 x11 x12

theorem cmd_Check_1 (x1 x2 : Int) (x3 x4 : ByteArray) (x5 : Int) (x6 : List ByteArray) (x7 : List Int) (x8 x9 x10 x11 : Int) (x12 : List Int) : cmd_Check 1 x1 x2 x3 x4 x5 x6 x7 x8 x9 x10 x11 x12 = chkGen false false false false false false false false true false x1 x2 x3 x4 x5 x6 x7 x8 x9 x10 x11 x12 := (cmd_Check_eq _ _ _ _ _ _ _ _ _ _ _ _ _).trans (by kernel_rfl)

theorem cmd_Check_2 (x1 x2 : Int) (x3 x4 : ByteArray) (x5 : Int) (x6 : List ByteArray) (x7 : List Int) (x8 x9 x10 x11 : Int) (x12 : List Int) : cmd_Check 2 x1 x2 x3 x4 x5 x6 x7 x8 x9 x10 x11 x12 = chkGen true false false false false false false false false true x1 x2 x3 x4 x5 x6 x7 x8 x9 x10 x11 x12 := (cmd_Check_eq _ _ _ _ _ _ _ _ _ _ _ _ _).trans (by kernel_rfl)

theorem cmd_Check_3 (x1 x2 : Int) (x3 x4 : ByteArray) (x5 : Int) (x6 : List ByteArray) (x7 : List Int) (x8 x9 x10 x11 : Int) (x12 : List Int) : cmd_Check 3 x1 x2 x3 x4 x5 x6 x7 x8 x9 x10 x11 x12 = chkGen true true false false true false false false false false x1 x2 x3 x4 x5 x6 x7 x8 x9 x10 x11 x12 := (cmd_Check_eq _ _ _ _ _ _ _ _ _ _ _ _ _).trans (by kernel_rfl)

theorem cmd_Check_4 (x1 x2 : Int) (x3 x4 : ByteArray) (x5 : Int) (x6 : List ByteArray) (x7 : List Int) (x8 x9 x10 x11 : Int) (x12 : List Int) : cmd_Check 4 x1 x2 x3 x4 x5 x6 x7 x8 x9 x10 x11 x12 = chkGen true true false true true false false true false false x1 x2 x3 x4 x5 x6 x7 x8 x9 x10 x11 x12 := (cmd_Check_eq _ _ _ _ _ _ _ _ _ _ _ _ _).trans (by kernel_rfl)

theorem cmd_Check_5 (x1 x2 : Int) (x3 x4 : ByteArray) (x5 : Int) (x6 : List ByteArray) (x7 : List Int) (x8 x9 x10 x11 : Int) (x12 : List Int) : cmd_Check 5 x1 x2 x3 x4 x5 x6 x7 x8 x9 x10 x11 x12 = chkGen true true true false false false false true true false x1 x2 x3 x4 x5 x6 x7 x8 x9 x10 x11 x12 := (cmd_Check_eq _ _ _ _ _ _ _ _ _ _ _ _ _).trans (by kernel_rfl)

theorem cmd_Check_6 (x1 x2 : Int) (x3 x4 : ByteArray) (x5 : Int) (x6 : List ByteArray) (x7 : List Int) (x8 x9 x10 x11 : Int) (x12 : List Int) : cmd_Check 6 x1 x2 x3 x4 x5 x6 x7 x8 x9 x10 x11 x12 = chkGen true false true false true true false false false false x1 x2 x3 x4 x5 x6 x7 x8 x9 x10 x11 x12 := (cmd_Check_eq _ _ _ _ _ _ _ _ _ _ _ _ _).trans (by kernel_rfl)

theorem cmd_Check_7 (x1 x2 : Int) (x3 x4 : ByteArray) (x5 : Int) (x6 : List ByteArray) (x7 : List Int) (x8 x9 x10 x11 : Int) (x12 : List Int) : cmd_Check 7 x1 x2 x3 x4 x5 x6 x7 x8 x9 x10 x11 x12 = chkGen true false true false false true false false false false x1 x2 x3 x4 x5 x6 x7 x8 x9 x10 x11 x12 := (cmd_Check_eq _ _ _ _ _ _ _ _ _ _ _ _ _).trans (by kernel_rfl)

theorem cmd_Check_8 (x1 x2 : Int) (x3 x4 : ByteArray) (x5 : Int) (x6 : List ByteArray) (x7 : List Int) (x8 x9 x10 x11 : Int) (x12 : List Int) : cmd_Check 8 x1 x2 x3 x4 x5 x6 x7 x8 x9 x10 x11 x12 = chkGen true false false false true true true false false false x1 x2 x3 x4 x5 x6 x7 x8 x9 x10 x11 x12 := (cmd_Check_eq _ _ _ _ _ _ _ _ _ _ _ _ _).trans (by kernel_rfl)

theorem cmd_Check_9 (x1 x2 : Int) (x3 x4 : ByteArray) (x5 : Int) (x6 : List ByteArray) (x7 : List Int) (x8 x9 x10 x11 : Int) (x12 : List Int) : cmd_Check 9 x1 x2 x3 x4 x5 x6 x7 x8 x9 x10 x11 x12 = chkGen true false false false false true false true false false x1 x2 x3 x4 x5 x6 x7 x8 x9 x10 x11 x12 := (cmd_Check_eq _ _ _ _ _ _ _ _ _ _ _ _ _).trans (by kernel_rfl)

theorem cmd_Check_10 (x1 x2 : Int) (x3 x4 : ByteArray) (x5 : Int) (x6 : List ByteArray) (x7 : List Int) (x8 x9 x10 x11 : Int) (x12 : List Int) : cmd_Check 10 x1 x2 x3 x4 x5 x6 x7 x8 x9 x10 x11 x12 = chkGen true false false false false true false false false false x1 x2 x3 x4 x5 x6 x7 x8 x9 x10 x11 x12 := (cmd_Check_eq _ _ _ _ _ _ _ _ _ _ _ _ _).trans (by kernel_rfl)

theorem cmd_Check_11 (x1 x2 : Int) (x3 x4 : ByteArray) (x5 : Int) (x6 : List ByteArray) (x7 : List Int) (x8 x9 x10 x11 : Int) (x12 : List Int) : cmd_Check 11 x1 x2 x3 x4 x5 x6 x7 x8 x9 x10 x11 x12 = chkGen false false false false false true false true false true x1 x2 x3 x4 x5 x6 x7 x8 x9 x10 x11 x12 := (cmd_Check_eq _ _ _ _ _ _ _ _ _ _ _ _ _).trans (by kernel_rfl)

theorem cmd_Check_12 (x1 x2 : Int) (x3 x4 : ByteArray) (x5 : Int) (x6 : List ByteArray) (x7 : List Int) (x8 x9 x10 x11 : Int) (x12 : List Int) : cmd_Check 12 x1 x2 x3 x4 x5 x6 x7 x8 x9 x10 x11 x12 = chkGen false false false false false true false true false false x1 x2 x3 x4 x5 x6 x7 x8 x9 x10 x11 x12 := (cmd_Check_eq _ _ _ _ _ _ _ _ _ _ _ _ _).trans (by kernel_rfl)

theorem cmd_Check_out {x0 : Int} (h : ¬ (1 ≤ x0 ∧ x0 ≤ 12)) (x1 x2 : Int) (x3 x4 : ByteArray) (x5 : Int) (x6 : List ByteArray) (x7 : List Int) (x8 x9 x10 x11 : Int) (x12 : List Int) : cmd_Check x0 x1 x2 x3 x4 x5 x6 x7 x8 x9 x10 x11 x12 = some 1 := by
  rw [cmd_Check_eq, beq_no (show ¬ x0 = 1 by omega), beq_no (show ¬ x0 = 2 by omega), beq_no (show ¬ x0 = 3 by omega), beq_no (show ¬ x0 = 4 by omega), beq_no (show ¬ x0 = 5 by omega), beq_no (show ¬ x0 = 6 by omega), beq_no (show ¬ x0 = 7 by omega), beq_no (show ¬ x0 = 8 by omega), beq_no (show ¬ x0 = 9 by omega), beq_no (show ¬ x0 = 10 by omega), beq_no (show ¬ x0 = 11 by omega), beq_no (show ¬ x0 = 12 by omega)]
  rfl
theorem flag_out {k : Int} (h : ¬ (1 ≤ k ∧ k ≤ 12)) : flag k = 0 := by
  unfold flag
  rw [if_neg (by omega), if_neg (by omega), if_neg (by omega), if_neg (by omega), if_neg (by omega), if_neg (by omega), if_neg (by omega), if_neg (by omega), if_neg (by omega), if_neg (by omega), if_neg (by omega), if_neg (by omega)]

theorem kinds {P : Int → Prop} (k : Int) (h : 1 ≤ k ∧ k ≤ 12) (h1 : P 1) (h2 : P 2) (h3 : P 3) (h4 : P 4) (h5 : P 5) (h6 : P 6) (h7 : P 7) (h8 : P 8) (h9 : P 9) (h10 : P 10) (h11 : P 11) (h12 : P 12) : P k := by
  have : k = 1 ∨ k = 2 ∨ k = 3 ∨ k = 4 ∨ k = 5 ∨ k = 6 ∨ k = 7 ∨ k = 8 ∨ k = 9 ∨ k = 10 ∨ k = 11 ∨ k = 12 := by omega
  rcases this with rfl | rfl | rfl | rfl | rfl | rfl | rfl | rfl | rfl | rfl | rfl | rfl <;> assumption

theorem cmd_Check_spec (x0 : Int) (x1 x2 : Int) (x3 x4 : ByteArray) (x5 : Int) (x6 : List ByteArray) (x7 : List Int) (x8 x9 x10 x11 : Int) (x12 : List Int) (h3 : x3.size ≤ 140737488351232) (h4 : x4.size ≤ 140737488351232) (hl : x6.length ≤ 9223372036854775806) (hv : x7.length ≤ 9223372036854775806) (ht : Txt x6) :
    cmd_Check x0 x1 x2 x3 x4 x5 x6 x7 x8 x9 x10 x11 x12 = some (chkC x0 x1 x2 x3 x4 x5 x6 x7 x8 x9 x10 x11 x12) := by
  by_cases h : 1 ≤ x0 ∧ x0 ≤ 12
  · have g := fun a n w k v i o c t d => chkGen_spec a n w k v i o c t d x1 x2 x3 x4 x5 x6 x7 x8 x9 x10 x11 x12 h3 h4 hl hv ht
    exact kinds (P := fun x0 => cmd_Check x0 x1 x2 x3 x4 x5 x6 x7 x8 x9 x10 x11 x12 = some (chkC x0 x1 x2 x3 x4 x5 x6 x7 x8 x9 x10 x11 x12)) x0 h
      ((cmd_Check_1 x1 x2 x3 x4 x5 x6 x7 x8 x9 x10 x11 x12).trans (g _ _ _ _ _ _ _ _ _ _))
      ((cmd_Check_2 x1 x2 x3 x4 x5 x6 x7 x8 x9 x10 x11 x12).trans (g _ _ _ _ _ _ _ _ _ _))
      ((cmd_Check_3 x1 x2 x3 x4 x5 x6 x7 x8 x9 x10 x11 x12).trans (g _ _ _ _ _ _ _ _ _ _))
      ((cmd_Check_4 x1 x2 x3 x4 x5 x6 x7 x8 x9 x10 x11 x12).trans (g _ _ _ _ _ _ _ _ _ _))
      ((cmd_Check_5 x1 x2 x3 x4 x5 x6 x7 x8 x9 x10 x11 x12).trans (g _ _ _ _ _ _ _ _ _ _))
      ((cmd_Check_6 x1 x2 x3 x4 x5 x6 x7 x8 x9 x10 x11 x12).trans (g _ _ _ _ _ _ _ _ _ _))
      ((cmd_Check_7 x1 x2 x3 x4 x5 x6 x7 x8 x9 x10 x11 x12).trans (g _ _ _ _ _ _ _ _ _ _))
      ((cmd_Check_8 x1 x2 x3 x4 x5 x6 x7 x8 x9 x10 x11 x12).trans (g _ _ _ _ _ _ _ _ _ _))
      ((cmd_Check_9 x1 x2 x3 x4 x5 x6 x7 x8 x9 x10 x11 x12).trans (g _ _ _ _ _ _ _ _ _ _))
      ((cmd_Check_10 x1 x2 x3 x4 x5 x6 x7 x8 x9 x10 x11 x12).trans (g _ _ _ _ _ _ _ _ _ _))
      ((cmd_Check_11 x1 x2 x3 x4 x5 x6 x7 x8 x9 x10 x11 x12).trans (g _ _ _ _ _ _ _ _ _ _))
      ((cmd_Check_12 x1 x2 x3 x4 x5 x6 x7 x8 x9 x10 x11 x12).trans (g _ _ _ _ _ _ _ _ _ _))
  · rw [cmd_Check_out h, chkC, if_pos (flag_out h)]
end Go.Proofs.YtdbenenonfldkaaDoor.PE

namespace Go.Proofs.YtdbenenonfldkaaDoor.PE
open Go Go.RowKit Go.Proofs.YtdbenenonfldkaaDoor.Pack
noncomputable def optU (f : Bool) (b : List Int) (x : Int) : Option (List Int) := bif f then pack_Uint b (IntKind.u64.wrap x) else some b
noncomputable def optB (f : Bool) (b t : List Int) : Option (List Int) := bif f then pack_Bytes b t else some b
noncomputable def optI (f : Bool) (b : List Int) (x : Int) : Option (List Int) := bif f then pack_Int b x else some b
noncomputable def optV (f : Bool) (b : List Int) (ns : List ByteArray) (vs : List Int) : Option (List Int) := bif f then vars_Put b ns vs else some b
def eU (f : Bool) (x : Int) : List Int := bif f then enc x.toNat else []
def eB (f : Bool) (t : List Int) : List Int := bif f then encB t else []
def eI (f : Bool) (x : Int) : List Int := bif f then enc (zig x) else []
def eV (f : Bool) (ns : List ByteArray) (vs : List Int) : List Int := bif f then encV ns vs else []

noncomputable def putGen (a n w k v i o c t d : Bool) (x0 x1 x2 : Int) (x3 x4 : ByteArray) (x5 : Int) (x6 : List ByteArray) (x7 : List Int) (x8 x9 x10 x11 : Int) (x12 : List Int) : Option (List Int × Int) :=
  (optU a [IntKind.u8.wrap x0] x1).bind fun r0 => (optU a r0 x2).bind fun r1 => (optU i r1 x8).bind fun r2 => (optU o r2 x9).bind fun r3 => (optU c r3 x10).bind fun r4 => (optU t r4 x11).bind fun r5 => (optB n r5 (bytesList x3)).bind fun r6 => (optB w r6 (bytesList x4)).bind fun r7 => (optI k r7 x5).bind fun r8 => (optV v r8 x6 x7).bind fun r9 => (optB d r9 x12).bind fun r10 => some (r10, 0)

/-- What stands behind a command's kind. -/
def rest24 (a n w k v i o c t d : Bool) (x1 x2 : Int) (x3 x4 : ByteArray) (x5 : Int) (x6 : List ByteArray) (x7 : List Int) (x8 x9 x10 x11 : Int) (x12 : List Int) : List Int :=
  eU a x1 ++ (eU a x2 ++ (eU i x8 ++ (eU o x9 ++ (eU c x10 ++ (eU t x11 ++ (eB n (bytesList x3) ++ (eB w (bytesList x4) ++ (eI k x5 ++ (eV v x6 x7 ++ (eB d x12))))))))))

def encC (x0 x1 x2 : Int) (x3 x4 : ByteArray) (x5 : Int) (x6 : List ByteArray) (x7 : List Int) (x8 x9 x10 x11 : Int) (x12 : List Int) : List Int := x0 :: rest24 (hs x0 1) (hs x0 2) (hs x0 4) (hs x0 8) (hs x0 16) (hs x0 32) (hs x0 64) (hs x0 128) (hs x0 256) (hs x0 512) x1 x2 x3 x4 x5 x6 x7 x8 x9 x10 x11 x12

theorem cmd_Put_1 (x1 x2 : Int) (x3 x4 : ByteArray) (x5 : Int) (x6 : List ByteArray) (x7 : List Int) (x8 x9 x10 x11 : Int) (x12 : List Int) (h : cmd_Check 1 x1 x2 x3 x4 x5 x6 x7 x8 x9 x10 x11 x12 = some 0) : cmd_Put 1 x1 x2 x3 x4 x5 x6 x7 x8 x9 x10 x11 x12 = putGen false false false false false false false false true false 1 x1 x2 x3 x4 x5 x6 x7 x8 x9 x10 x11 x12 := (cmd_Put_eq _ _ _ _ _ _ _ _ _ _ _ _ _).trans ((congrArg (fun o => Option.bind o _) h).trans (by kernel_rfl))

theorem cmd_Put_2 (x1 x2 : Int) (x3 x4 : ByteArray) (x5 : Int) (x6 : List ByteArray) (x7 : List Int) (x8 x9 x10 x11 : Int) (x12 : List Int) (h : cmd_Check 2 x1 x2 x3 x4 x5 x6 x7 x8 x9 x10 x11 x12 = some 0) : cmd_Put 2 x1 x2 x3 x4 x5 x6 x7 x8 x9 x10 x11 x12 = putGen true false false false false false false false false true 2 x1 x2 x3 x4 x5 x6 x7 x8 x9 x10 x11 x12 := (cmd_Put_eq _ _ _ _ _ _ _ _ _ _ _ _ _).trans ((congrArg (fun o => Option.bind o _) h).trans (by kernel_rfl))

theorem cmd_Put_3 (x1 x2 : Int) (x3 x4 : ByteArray) (x5 : Int) (x6 : List ByteArray) (x7 : List Int) (x8 x9 x10 x11 : Int) (x12 : List Int) (h : cmd_Check 3 x1 x2 x3 x4 x5 x6 x7 x8 x9 x10 x11 x12 = some 0) : cmd_Put 3 x1 x2 x3 x4 x5 x6 x7 x8 x9 x10 x11 x12 = putGen true true false false true false false false false false 3 x1 x2 x3 x4 x5 x6 x7 x8 x9 x10 x11 x12 := (cmd_Put_eq _ _ _ _ _ _ _ _ _ _ _ _ _).trans ((congrArg (fun o => Option.bind o _) h).trans (by kernel_rfl))

theorem cmd_Put_4 (x1 x2 : Int) (x3 x4 : ByteArray) (x5 : Int) (x6 : List ByteArray) (x7 : List Int) (x8 x9 x10 x11 : Int) (x12 : List Int) (h : cmd_Check 4 x1 x2 x3 x4 x5 x6 x7 x8 x9 x10 x11 x12 = some 0) : cmd_Put 4 x1 x2 x3 x4 x5 x6 x7 x8 x9 x10 x11 x12 = putGen true true false true true false false true false false 4 x1 x2 x3 x4 x5 x6 x7 x8 x9 x10 x11 x12 := (cmd_Put_eq _ _ _ _ _ _ _ _ _ _ _ _ _).trans ((congrArg (fun o => Option.bind o _) h).trans (by kernel_rfl))

theorem cmd_Put_5 (x1 x2 : Int) (x3 x4 : ByteArray) (x5 : Int) (x6 : List ByteArray) (x7 : List Int) (x8 x9 x10 x11 : Int) (x12 : List Int) (h : cmd_Check 5 x1 x2 x3 x4 x5 x6 x7 x8 x9 x10 x11 x12 = some 0) : cmd_Put 5 x1 x2 x3 x4 x5 x6 x7 x8 x9 x10 x11 x12 = putGen true true true false false false false true true false 5 x1 x2 x3 x4 x5 x6 x7 x8 x9 x10 x11 x12 := (cmd_Put_eq _ _ _ _ _ _ _ _ _ _ _ _ _).trans ((congrArg (fun o => Option.bind o _) h).trans (by kernel_rfl))

theorem cmd_Put_6 (x1 x2 : Int) (x3 x4 : ByteArray) (x5 : Int) (x6 : List ByteArray) (x7 : List Int) (x8 x9 x10 x11 : Int) (x12 : List Int) (h : cmd_Check 6 x1 x2 x3 x4 x5 x6 x7 x8 x9 x10 x11 x12 = some 0) : cmd_Put 6 x1 x2 x3 x4 x5 x6 x7 x8 x9 x10 x11 x12 = putGen true false true false true true false false false false 6 x1 x2 x3 x4 x5 x6 x7 x8 x9 x10 x11 x12 := (cmd_Put_eq _ _ _ _ _ _ _ _ _ _ _ _ _).trans ((congrArg (fun o => Option.bind o _) h).trans (by kernel_rfl))

theorem cmd_Put_7 (x1 x2 : Int) (x3 x4 : ByteArray) (x5 : Int) (x6 : List ByteArray) (x7 : List Int) (x8 x9 x10 x11 : Int) (x12 : List Int) (h : cmd_Check 7 x1 x2 x3 x4 x5 x6 x7 x8 x9 x10 x11 x12 = some 0) : cmd_Put 7 x1 x2 x3 x4 x5 x6 x7 x8 x9 x10 x11 x12 = putGen true false true false false true false false false false 7 x1 x2 x3 x4 x5 x6 x7 x8 x9 x10 x11 x12 := (cmd_Put_eq _ _ _ _ _ _ _ _ _ _ _ _ _).trans ((congrArg (fun o => Option.bind o _) h).trans (by kernel_rfl))

theorem cmd_Put_8 (x1 x2 : Int) (x3 x4 : ByteArray) (x5 : Int) (x6 : List ByteArray) (x7 : List Int) (x8 x9 x10 x11 : Int) (x12 : List Int) (h : cmd_Check 8 x1 x2 x3 x4 x5 x6 x7 x8 x9 x10 x11 x12 = some 0) : cmd_Put 8 x1 x2 x3 x4 x5 x6 x7 x8 x9 x10 x11 x12 = putGen true false false false true true true false false false 8 x1 x2 x3 x4 x5 x6 x7 x8 x9 x10 x11 x12 := (cmd_Put_eq _ _ _ _ _ _ _ _ _ _ _ _ _).trans ((congrArg (fun o => Option.bind o _) h).trans (by kernel_rfl))

theorem cmd_Put_9 (x1 x2 : Int) (x3 x4 : ByteArray) (x5 : Int) (x6 : List ByteArray) (x7 : List Int) (x8 x9 x10 x11 : Int) (x12 : List Int) (h : cmd_Check 9 x1 x2 x3 x4 x5 x6 x7 x8 x9 x10 x11 x12 = some 0) : cmd_Put 9 x1 x2 x3 x4 x5 x6 x7 x8 x9 x10 x11 x12 = putGen true false false false false true false true false false 9 x1 x2 x3 x4 x5 x6 x7 x8 x9 x10 x11 x12 := (cmd_Put_eq _ _ _ _ _ _ _ _ _ _ _ _ _).trans ((congrArg (fun o => Option.bind o _) h).trans (by kernel_rfl))

theorem cmd_Put_10 (x1 x2 : Int) (x3 x4 : ByteArray) (x5 : Int) (x6 : List ByteArray) (x7 : List Int) (x8 x9 x10 x11 : Int) (x12 : List Int) (h : cmd_Check 10 x1 x2 x3 x4 x5 x6 x7 x8 x9 x10 x11 x12 = some 0) : cmd_Put 10 x1 x2 x3 x4 x5 x6 x7 x8 x9 x10 x11 x12 = putGen true false false false false true false false false false 10 x1 x2 x3 x4 x5 x6 x7 x8 x9 x10 x11 x12 := (cmd_Put_eq _ _ _ _ _ _ _ _ _ _ _ _ _).trans ((congrArg (fun o => Option.bind o _) h).trans (by kernel_rfl))

theorem cmd_Put_11 (x1 x2 : Int) (x3 x4 : ByteArray) (x5 : Int) (x6 : List ByteArray) (x7 : List Int) (x8 x9 x10 x11 : Int) (x12 : List Int) (h : cmd_Check 11 x1 x2 x3 x4 x5 x6 x7 x8 x9 x10 x11 x12 = some 0) : cmd_Put 11 x1 x2 x3 x4 x5 x6 x7 x8 x9 x10 x11 x12 = putGen false false false false false true false true false true 11 x1 x2 x3 x4 x5 x6 x7 x8 x9 x10 x11 x12 := (cmd_Put_eq _ _ _ _ _ _ _ _ _ _ _ _ _).trans ((congrArg (fun o => Option.bind o _) h).trans (by kernel_rfl))

theorem cmd_Put_12 (x1 x2 : Int) (x3 x4 : ByteArray) (x5 : Int) (x6 : List ByteArray) (x7 : List Int) (x8 x9 x10 x11 : Int) (x12 : List Int) (h : cmd_Check 12 x1 x2 x3 x4 x5 x6 x7 x8 x9 x10 x11 x12 = some 0) : cmd_Put 12 x1 x2 x3 x4 x5 x6 x7 x8 x9 x10 x11 x12 = putGen false false false false false true false true false false 12 x1 x2 x3 x4 x5 x6 x7 x8 x9 x10 x11 x12 := (cmd_Put_eq _ _ _ _ _ _ _ _ _ _ _ _ _).trans ((congrArg (fun o => Option.bind o _) h).trans (by kernel_rfl))

theorem eU_len (f : Bool) (x : Int) : (eU f x).length ≤ 10 := by
  cases f with
  | false => simp [eU]
  | true => exact enc_length _
theorem eI_len (f : Bool) (x : Int) : (eI f x).length ≤ 10 := by
  cases f with
  | false => simp [eI]
  | true => exact enc_length _
theorem eB_len (f : Bool) (t : List Int) : (eB f t).length ≤ t.length + 10 := by
  cases f with
  | false => simp [eB]
  | true => exact encB_len _
theorem optU_spec {f : Bool} {b : List Int} {x : Int} (h : f = true → 0 ≤ x ∧ x ≤ 1099511627776) (hb : b.length ≤ 100000000000) : optU f b x = some (b ++ eU f x) := by
  cases f with
  | false => show some b = some (b ++ []); rw [List.append_nil]
  | true =>
    have hx := h rfl
    show pack_Uint b (IntKind.u64.wrap x) = some (b ++ enc x.toNat)
    rw [wrap_u64 (by omega) (by omega), ← uint_spec (n := x.toNat) (by omega) (by omega), show ((x.toNat : Nat) : Int) = x by omega]
theorem optB_spec {f : Bool} {b t : List Int} (h : f = true → t.length ≤ 100000) (hb : b.length ≤ 100000000000) : optB f b t = some (b ++ eB f t) := by
  cases f with
  | false => show some b = some (b ++ []); rw [List.append_nil]
  | true => exact bytesL (by omega) (h rfl)
theorem optI_spec {f : Bool} {b : List Int} {x : Int} (h : -9223372036854775808 ≤ x ∧ x ≤ 9223372036854775807) (hb : b.length ≤ 100000000000) : optI f b x = some (b ++ eI f x) := by
  cases f with
  | false => show some b = some (b ++ []); rw [List.append_nil]
  | true => exact int_spec h.1 h.2 (by omega)
theorem optV_spec {f : Bool} {b : List Int} {ns : List ByteArray} {vs : List Int} (h : f = true → chkV ns vs = 0) (hv : I64 vs) (hb : b.length ≤ 100000000000) : optV f b ns vs = some (b ++ eV f ns vs) := by
  cases f with
  | false => show some b = some (b ++ []); rw [List.append_nil]
  | true =>
    obtain ⟨g1, g2, g3⟩ := chkV_ok (h rfl)
    exact vput_spec (by omega) g1 (goodV_name g3) hv hb

end Go.Proofs.YtdbenenonfldkaaDoor.PE

namespace Go.Proofs.YtdbenenonfldkaaDoor.PE
open Go Go.RowKit Go.Proofs.YtdbenenonfldkaaDoor.Pack
theorem fromS_yes {x lo hi : Int} {a : Bool} (h : fromS x a lo hi = true) : (a = true → lo ≤ x ∧ x ≤ hi) ∧ (a = false → x = 0) := by
  cases a with
  | false => exact ⟨fun h => (by cases h), fun _ => eq_of_beq h⟩
  | true =>
    refine ⟨fun _ => ?_, fun h => (by cases h)⟩
    have h2 : inR x lo hi = true := h
    rw [inR, Bool.and_eq_true, decide_eq_true_eq, decide_eq_true_eq] at h2
    exact h2
theorem emp_of {s : ByteArray} (h : (s.toList == (⟨#[]⟩ : ByteArray).toList) = true) : s = ⟨#[]⟩ := by
  have e := eq_of_beq h
  rw [toList_data, toList_data] at e
  cases s with
  | mk d =>
    cases d with
    | mk l =>
      have : l = [] := e
      rw [this]
theorem textS_yes {s : ByteArray} {a : Bool} (h : textS s a = true) : (a = true → nameS s = true) ∧ (a = false → s = ⟨#[]⟩) := by
  cases a with
  | false => exact ⟨fun h => (by cases h), fun _ => emp_of h⟩
  | true => exact ⟨fun _ => h, fun h => (by cases h)⟩
theorem varsS_yes {ns : List ByteArray} {vs : List Int} {a : Bool} (h : varsS ns vs a = 0) : (a = true → chkV ns vs = 0) ∧ (a = false → ns = [] ∧ vs = []) := by
  cases a with
  | true => exact ⟨fun _ => h, fun h => (by cases h)⟩
  | false =>
    refine ⟨fun h => (by cases h), fun _ => ?_⟩
    have h2 : (bif decide (0 < ns.length) || decide (0 < vs.length) then 1 else chkV ns vs) = 0 := h
    cases e : (decide (0 < ns.length) || decide (0 < vs.length)) with
    | true => rw [e, cond_true] at h2; cases h2
    | false =>
      rw [Bool.or_eq_false_iff, decide_eq_false_iff_not, decide_eq_false_iff_not] at e
      exact ⟨List.length_eq_zero_iff.mp (by omega), List.length_eq_zero_iff.mp (by omega)⟩
structure Ok24 (a n w k v i o c t d : Bool) (x1 x2 : Int) (x3 x4 : ByteArray) (x5 : Int) (x6 : List ByteArray) (x7 : List Int) (x8 x9 x10 x11 : Int) (x12 : List Int) : Prop where
  c1 : fromS x1 a 1 1099511627776 = true
  c2 : fromS x2 a 1 1099511627776 = true
  c3 : textS x3 n = true
  c4 : textS x4 w = true
  c5 : k = false → x5 = 0
  c8 : fromS x8 i 0 1099511627776 = true
  c9 : fromS x9 o 0 1099511627776 = true
  c10 : fromS x10 c 0 1099511627776 = true
  c11 : fromS x11 t 0 1099511627776 = true
  c12 : d = false → x12 = []
  c13 : x12.length ≤ 65536
  c6 : varsS x6 x7 v = 0

theorem of_bne_false {a b : Int} (h : (a != b) = false) : a = b := by simpa using h
theorem chkB_ok {a n w k v i o c t d : Bool} {x1 x2 : Int} {x3 x4 : ByteArray} {x5 : Int} {x6 : List ByteArray} {x7 : List Int} {x8 x9 x10 x11 : Int} {x12 : List Int} (h : chkB a n w k v i o c t d x1 x2 x3 x4 x5 x6 x7 x8 x9 x10 x11 x12 = 0) : Ok24 a n w k v i o c t d x1 x2 x3 x4 x5 x6 x7 x8 x9 x10 x11 x12 := by
  unfold chkB at h
  cases e1 : fromS x1 a 1 1099511627776 with
  | false => rw [e1, Bool.not_false, cond_true] at h; cases h
  | true =>
  rw [e1, Bool.not_true, cond_false] at h
  cases e2 : fromS x2 a 1 1099511627776 with
  | false => rw [e2, Bool.not_false, cond_true] at h; cases h
  | true =>
  rw [e2, Bool.not_true, cond_false] at h
  cases e3 : textS x3 n with
  | false => rw [e3, Bool.not_false, cond_true] at h; cases h
  | true =>
  rw [e3, Bool.not_true, cond_false] at h
  cases e4 : textS x4 w with
  | false => rw [e4, Bool.not_false, cond_true] at h; cases h
  | true =>
  rw [e4, Bool.not_true, cond_false] at h
  cases e5 : (!k && x5 != 0) with
  | true => rw [e5, cond_true] at h; cases h
  | false =>
  rw [e5, cond_false] at h
  cases e8 : fromS x8 i 0 1099511627776 with
  | false => rw [e8, Bool.not_false, cond_true] at h; cases h
  | true =>
  rw [e8, Bool.not_true, cond_false] at h
  cases e9 : fromS x9 o 0 1099511627776 with
  | false => rw [e9, Bool.not_false, cond_true] at h; cases h
  | true =>
  rw [e9, Bool.not_true, cond_false] at h
  cases e10 : fromS x10 c 0 1099511627776 with
  | false => rw [e10, Bool.not_false, cond_true] at h; cases h
  | true =>
  rw [e10, Bool.not_true, cond_false] at h
  cases e11 : fromS x11 t 0 1099511627776 with
  | false => rw [e11, Bool.not_false, cond_true] at h; cases h
  | true =>
  rw [e11, Bool.not_true, cond_false] at h
  cases e12 : (!d && decide (ilen x12 > 0)) with
  | true => rw [e12, cond_true] at h; cases h
  | false =>
  rw [e12, cond_false, Bool.cond_decide] at h
  by_cases e13 : ilen x12 > 65536
  · rw [if_pos e13] at h; cases h
  rw [if_neg e13] at h
  rw [ilen_eq] at e13 e12
  refine ⟨e1, e2, e3, e4, fun hk => ?_, e8, e9, e10, e11, fun hd => ?_, by omega, h⟩
  · rw [hk, Bool.not_false, Bool.true_and] at e5
    exact of_bne_false e5
  · rw [hd, Bool.not_false, Bool.true_and, decide_eq_false_iff_not] at e12
    exact List.length_eq_zero_iff.mp (by omega)

theorem name_small {s : ByteArray} {a : Bool} (h : textS s a = true) : (bytesList s).length ≤ 32 := by
  cases a with
  | true => exact nameS_len ((textS_yes h).1 rfl)
  | false => rw [(textS_yes h).2 rfl]; exact Nat.zero_le _
theorem eV_len {f : Bool} {ns : List ByteArray} {vs : List Int} (h : varsS ns vs f = 0) : (eV f ns vs).length ≤ 4000 := by
  cases f with
  | false => simp [eV]
  | true =>
    obtain ⟨g1, g2, g3⟩ := chkV_ok ((varsS_yes h).1 rfl)
    have a1 := encPairs_len vs (goodV_name g3)
    have a2 := enc_length ns.length
    show (encV ns vs).length ≤ 4000
    simp only [encV, List.length_append]; omega
theorem putGen_spec {a n w k v i o c t d : Bool} {x0 x1 x2 : Int} {x3 x4 : ByteArray} {x5 : Int} {x6 : List ByteArray} {x7 : List Int} {x8 x9 x10 x11 : Int} {x12 : List Int} (ok : Ok24 a n w k v i o c t d x1 x2 x3 x4 x5 x6 x7 x8 x9 x10 x11 x12) (h0 : 0 ≤ x0 ∧ x0 ≤ 255) (h5 : -9223372036854775808 ≤ x5 ∧ x5 ≤ 9223372036854775807) (h7 : I64 x7) :
    putGen a n w k v i o c t d x0 x1 x2 x3 x4 x5 x6 x7 x8 x9 x10 x11 x12 = some (x0 :: rest24 a n w k v i o c t d x1 x2 x3 x4 x5 x6 x7 x8 x9 x10 x11 x12, 0) := by
  have n3 := name_small ok.c3
  have n4 := name_small ok.c4
  have f0 := eU_len a x1
  have f1 := eU_len a x2
  have f2 := eU_len i x8
  have f3 := eU_len o x9
  have f4 := eU_len c x10
  have f5 := eU_len t x11
  have f6 := eB_len n (bytesList x3)
  have f7 := eB_len w (bytesList x4)
  have f8 := eI_len k x5
  have f9 := eV_len ok.c6
  unfold putGen rest24
  rw [show IntKind.u8.wrap x0 = x0 by rw [wrap_u8]; omega]
  rw [optU_spec (fun h => by have := (fromS_yes ok.c1).1 h; omega) (by simp only [List.length_append, List.length_cons, List.length_nil]; omega), Option.bind_some]
  rw [optU_spec (fun h => by have := (fromS_yes ok.c2).1 h; omega) (by simp only [List.length_append, List.length_cons, List.length_nil]; omega), Option.bind_some]
  rw [optU_spec (fromS_yes ok.c8).1 (by simp only [List.length_append, List.length_cons, List.length_nil]; omega), Option.bind_some]
  rw [optU_spec (fromS_yes ok.c9).1 (by simp only [List.length_append, List.length_cons, List.length_nil]; omega), Option.bind_some]
  rw [optU_spec (fromS_yes ok.c10).1 (by simp only [List.length_append, List.length_cons, List.length_nil]; omega), Option.bind_some]
  rw [optU_spec (fromS_yes ok.c11).1 (by simp only [List.length_append, List.length_cons, List.length_nil]; omega), Option.bind_some]
  rw [optB_spec (fun h => by have := nameS_len ((textS_yes ok.c3).1 h); omega) (by simp only [List.length_append, List.length_cons, List.length_nil]; omega), Option.bind_some]
  rw [optB_spec (fun h => by have := nameS_len ((textS_yes ok.c4).1 h); omega) (by simp only [List.length_append, List.length_cons, List.length_nil]; omega), Option.bind_some]
  rw [optI_spec h5 (by simp only [List.length_append, List.length_cons, List.length_nil]; omega), Option.bind_some]
  rw [optV_spec (varsS_yes ok.c6).1 h7 (by simp only [List.length_append, List.length_cons, List.length_nil]; omega), Option.bind_some]
  rw [optB_spec (fun _ => by have := ok.c13; omega) (by simp only [List.length_append, List.length_cons, List.length_nil]; omega), Option.bind_some]
  simp only [List.append_assoc, List.singleton_append, List.cons_append, List.nil_append]

end Go.Proofs.YtdbenenonfldkaaDoor.PE

namespace Go.Proofs.YtdbenenonfldkaaDoor.PE
open Go Go.RowKit Go.Proofs.YtdbenenonfldkaaDoor.Pack

theorem ok_1 {x1 x2 : Int} {x3 x4 : ByteArray} {x5 : Int} {x6 : List ByteArray} {x7 : List Int} {x8 x9 x10 x11 : Int} {x12 : List Int} (h : chkC 1 x1 x2 x3 x4 x5 x6 x7 x8 x9 x10 x11 x12 = 0) : Ok24 false false false false false false false false true false x1 x2 x3 x4 x5 x6 x7 x8 x9 x10 x11 x12 := chkB_ok (show chkB false false false false false false false false true false x1 x2 x3 x4 x5 x6 x7 x8 x9 x10 x11 x12 = 0 from h)
theorem put_1 {x1 x2 : Int} {x3 x4 : ByteArray} {x5 : Int} {x6 : List ByteArray} {x7 : List Int} {x8 x9 x10 x11 : Int} {x12 : List Int} (h3 : x3.size ≤ 140737488351232) (h4 : x4.size ≤ 140737488351232) (hl : x6.length ≤ 9223372036854775806) (hv : x7.length ≤ 9223372036854775806) (ht : Txt x6) (h5 : -9223372036854775808 ≤ x5 ∧ x5 ≤ 9223372036854775807) (h7 : I64 x7) (h : chkC 1 x1 x2 x3 x4 x5 x6 x7 x8 x9 x10 x11 x12 = 0) : cmd_Put 1 x1 x2 x3 x4 x5 x6 x7 x8 x9 x10 x11 x12 = some (encC 1 x1 x2 x3 x4 x5 x6 x7 x8 x9 x10 x11 x12, 0) :=
  (cmd_Put_1 x1 x2 x3 x4 x5 x6 x7 x8 x9 x10 x11 x12 ((cmd_Check_spec 1 x1 x2 x3 x4 x5 x6 x7 x8 x9 x10 x11 x12 h3 h4 hl hv ht).trans (congrArg some h))).trans ((putGen_spec (ok_1 h) (by decide) h5 h7).trans rfl)

theorem ok_2 {x1 x2 : Int} {x3 x4 : ByteArray} {x5 : Int} {x6 : List ByteArray} {x7 : List Int} {x8 x9 x10 x11 : Int} {x12 : List Int} (h : chkC 2 x1 x2 x3 x4 x5 x6 x7 x8 x9 x10 x11 x12 = 0) : Ok24 true false false false false false false false false true x1 x2 x3 x4 x5 x6 x7 x8 x9 x10 x11 x12 := chkB_ok (show chkB true false false false false false false false false true x1 x2 x3 x4 x5 x6 x7 x8 x9 x10 x11 x12 = 0 from h)
theorem put_2 {x1 x2 : Int} {x3 x4 : ByteArray} {x5 : Int} {x6 : List ByteArray} {x7 : List Int} {x8 x9 x10 x11 : Int} {x12 : List Int} (h3 : x3.size ≤ 140737488351232) (h4 : x4.size ≤ 140737488351232) (hl : x6.length ≤ 9223372036854775806) (hv : x7.length ≤ 9223372036854775806) (ht : Txt x6) (h5 : -9223372036854775808 ≤ x5 ∧ x5 ≤ 9223372036854775807) (h7 : I64 x7) (h : chkC 2 x1 x2 x3 x4 x5 x6 x7 x8 x9 x10 x11 x12 = 0) : cmd_Put 2 x1 x2 x3 x4 x5 x6 x7 x8 x9 x10 x11 x12 = some (encC 2 x1 x2 x3 x4 x5 x6 x7 x8 x9 x10 x11 x12, 0) :=
  (cmd_Put_2 x1 x2 x3 x4 x5 x6 x7 x8 x9 x10 x11 x12 ((cmd_Check_spec 2 x1 x2 x3 x4 x5 x6 x7 x8 x9 x10 x11 x12 h3 h4 hl hv ht).trans (congrArg some h))).trans ((putGen_spec (ok_2 h) (by decide) h5 h7).trans rfl)

theorem ok_3 {x1 x2 : Int} {x3 x4 : ByteArray} {x5 : Int} {x6 : List ByteArray} {x7 : List Int} {x8 x9 x10 x11 : Int} {x12 : List Int} (h : chkC 3 x1 x2 x3 x4 x5 x6 x7 x8 x9 x10 x11 x12 = 0) : Ok24 true true false false true false false false false false x1 x2 x3 x4 x5 x6 x7 x8 x9 x10 x11 x12 := chkB_ok (show chkB true true false false true false false false false false x1 x2 x3 x4 x5 x6 x7 x8 x9 x10 x11 x12 = 0 from h)
theorem put_3 {x1 x2 : Int} {x3 x4 : ByteArray} {x5 : Int} {x6 : List ByteArray} {x7 : List Int} {x8 x9 x10 x11 : Int} {x12 : List Int} (h3 : x3.size ≤ 140737488351232) (h4 : x4.size ≤ 140737488351232) (hl : x6.length ≤ 9223372036854775806) (hv : x7.length ≤ 9223372036854775806) (ht : Txt x6) (h5 : -9223372036854775808 ≤ x5 ∧ x5 ≤ 9223372036854775807) (h7 : I64 x7) (h : chkC 3 x1 x2 x3 x4 x5 x6 x7 x8 x9 x10 x11 x12 = 0) : cmd_Put 3 x1 x2 x3 x4 x5 x6 x7 x8 x9 x10 x11 x12 = some (encC 3 x1 x2 x3 x4 x5 x6 x7 x8 x9 x10 x11 x12, 0) :=
  (cmd_Put_3 x1 x2 x3 x4 x5 x6 x7 x8 x9 x10 x11 x12 ((cmd_Check_spec 3 x1 x2 x3 x4 x5 x6 x7 x8 x9 x10 x11 x12 h3 h4 hl hv ht).trans (congrArg some h))).trans ((putGen_spec (ok_3 h) (by decide) h5 h7).trans rfl)

theorem ok_4 {x1 x2 : Int} {x3 x4 : ByteArray} {x5 : Int} {x6 : List ByteArray} {x7 : List Int} {x8 x9 x10 x11 : Int} {x12 : List Int} (h : chkC 4 x1 x2 x3 x4 x5 x6 x7 x8 x9 x10 x11 x12 = 0) : Ok24 true true false true true false false true false false x1 x2 x3 x4 x5 x6 x7 x8 x9 x10 x11 x12 := chkB_ok (show chkB true true false true true false false true false false x1 x2 x3 x4 x5 x6 x7 x8 x9 x10 x11 x12 = 0 from h)
theorem put_4 {x1 x2 : Int} {x3 x4 : ByteArray} {x5 : Int} {x6 : List ByteArray} {x7 : List Int} {x8 x9 x10 x11 : Int} {x12 : List Int} (h3 : x3.size ≤ 140737488351232) (h4 : x4.size ≤ 140737488351232) (hl : x6.length ≤ 9223372036854775806) (hv : x7.length ≤ 9223372036854775806) (ht : Txt x6) (h5 : -9223372036854775808 ≤ x5 ∧ x5 ≤ 9223372036854775807) (h7 : I64 x7) (h : chkC 4 x1 x2 x3 x4 x5 x6 x7 x8 x9 x10 x11 x12 = 0) : cmd_Put 4 x1 x2 x3 x4 x5 x6 x7 x8 x9 x10 x11 x12 = some (encC 4 x1 x2 x3 x4 x5 x6 x7 x8 x9 x10 x11 x12, 0) :=
  (cmd_Put_4 x1 x2 x3 x4 x5 x6 x7 x8 x9 x10 x11 x12 ((cmd_Check_spec 4 x1 x2 x3 x4 x5 x6 x7 x8 x9 x10 x11 x12 h3 h4 hl hv ht).trans (congrArg some h))).trans ((putGen_spec (ok_4 h) (by decide) h5 h7).trans rfl)

theorem ok_5 {x1 x2 : Int} {x3 x4 : ByteArray} {x5 : Int} {x6 : List ByteArray} {x7 : List Int} {x8 x9 x10 x11 : Int} {x12 : List Int} (h : chkC 5 x1 x2 x3 x4 x5 x6 x7 x8 x9 x10 x11 x12 = 0) : Ok24 true true true false false false false true true false x1 x2 x3 x4 x5 x6 x7 x8 x9 x10 x11 x12 := chkB_ok (show chkB true true true false false false false true true false x1 x2 x3 x4 x5 x6 x7 x8 x9 x10 x11 x12 = 0 from h)
theorem put_5 {x1 x2 : Int} {x3 x4 : ByteArray} {x5 : Int} {x6 : List ByteArray} {x7 : List Int} {x8 x9 x10 x11 : Int} {x12 : List Int} (h3 : x3.size ≤ 140737488351232) (h4 : x4.size ≤ 140737488351232) (hl : x6.length ≤ 9223372036854775806) (hv : x7.length ≤ 9223372036854775806) (ht : Txt x6) (h5 : -9223372036854775808 ≤ x5 ∧ x5 ≤ 9223372036854775807) (h7 : I64 x7) (h : chkC 5 x1 x2 x3 x4 x5 x6 x7 x8 x9 x10 x11 x12 = 0) : cmd_Put 5 x1 x2 x3 x4 x5 x6 x7 x8 x9 x10 x11 x12 = some (encC 5 x1 x2 x3 x4 x5 x6 x7 x8 x9 x10 x11 x12, 0) :=
  (cmd_Put_5 x1 x2 x3 x4 x5 x6 x7 x8 x9 x10 x11 x12 ((cmd_Check_spec 5 x1 x2 x3 x4 x5 x6 x7 x8 x9 x10 x11 x12 h3 h4 hl hv ht).trans (congrArg some h))).trans ((putGen_spec (ok_5 h) (by decide) h5 h7).trans rfl)

theorem ok_6 {x1 x2 : Int} {x3 x4 : ByteArray} {x5 : Int} {x6 : List ByteArray} {x7 : List Int} {x8 x9 x10 x11 : Int} {x12 : List Int} (h : chkC 6 x1 x2 x3 x4 x5 x6 x7 x8 x9 x10 x11 x12 = 0) : Ok24 true false true false true true false false false false x1 x2 x3 x4 x5 x6 x7 x8 x9 x10 x11 x12 := chkB_ok (show chkB true false true false true true false false false false x1 x2 x3 x4 x5 x6 x7 x8 x9 x10 x11 x12 = 0 from h)
theorem put_6 {x1 x2 : Int} {x3 x4 : ByteArray} {x5 : Int} {x6 : List ByteArray} {x7 : List Int} {x8 x9 x10 x11 : Int} {x12 : List Int} (h3 : x3.size ≤ 140737488351232) (h4 : x4.size ≤ 140737488351232) (hl : x6.length ≤ 9223372036854775806) (hv : x7.length ≤ 9223372036854775806) (ht : Txt x6) (h5 : -9223372036854775808 ≤ x5 ∧ x5 ≤ 9223372036854775807) (h7 : I64 x7) (h : chkC 6 x1 x2 x3 x4 x5 x6 x7 x8 x9 x10 x11 x12 = 0) : cmd_Put 6 x1 x2 x3 x4 x5 x6 x7 x8 x9 x10 x11 x12 = some (encC 6 x1 x2 x3 x4 x5 x6 x7 x8 x9 x10 x11 x12, 0) :=
  (cmd_Put_6 x1 x2 x3 x4 x5 x6 x7 x8 x9 x10 x11 x12 ((cmd_Check_spec 6 x1 x2 x3 x4 x5 x6 x7 x8 x9 x10 x11 x12 h3 h4 hl hv ht).trans (congrArg some h))).trans ((putGen_spec (ok_6 h) (by decide) h5 h7).trans rfl)

theorem ok_7 {x1 x2 : Int} {x3 x4 : ByteArray} {x5 : Int} {x6 : List ByteArray} {x7 : List Int} {x8 x9 x10 x11 : Int} {x12 : List Int} (h : chkC 7 x1 x2 x3 x4 x5 x6 x7 x8 x9 x10 x11 x12 = 0) : Ok24 true false true false false true false false false false x1 x2 x3 x4 x5 x6 x7 x8 x9 x10 x11 x12 := chkB_ok (show chkB true false true false false true false false false false x1 x2 x3 x4 x5 x6 x7 x8 x9 x10 x11 x12 = 0 from h)
theorem put_7 {x1 x2 : Int} {x3 x4 : ByteArray} {x5 : Int} {x6 : List ByteArray} {x7 : List Int} {x8 x9 x10 x11 : Int} {x12 : List Int} (h3 : x3.size ≤ 140737488351232) (h4 : x4.size ≤ 140737488351232) (hl : x6.length ≤ 9223372036854775806) (hv : x7.length ≤ 9223372036854775806) (ht : Txt x6) (h5 : -9223372036854775808 ≤ x5 ∧ x5 ≤ 9223372036854775807) (h7 : I64 x7) (h : chkC 7 x1 x2 x3 x4 x5 x6 x7 x8 x9 x10 x11 x12 = 0) : cmd_Put 7 x1 x2 x3 x4 x5 x6 x7 x8 x9 x10 x11 x12 = some (encC 7 x1 x2 x3 x4 x5 x6 x7 x8 x9 x10 x11 x12, 0) :=
  (cmd_Put_7 x1 x2 x3 x4 x5 x6 x7 x8 x9 x10 x11 x12 ((cmd_Check_spec 7 x1 x2 x3 x4 x5 x6 x7 x8 x9 x10 x11 x12 h3 h4 hl hv ht).trans (congrArg some h))).trans ((putGen_spec (ok_7 h) (by decide) h5 h7).trans rfl)

theorem ok_8 {x1 x2 : Int} {x3 x4 : ByteArray} {x5 : Int} {x6 : List ByteArray} {x7 : List Int} {x8 x9 x10 x11 : Int} {x12 : List Int} (h : chkC 8 x1 x2 x3 x4 x5 x6 x7 x8 x9 x10 x11 x12 = 0) : Ok24 true false false false true true true false false false x1 x2 x3 x4 x5 x6 x7 x8 x9 x10 x11 x12 := chkB_ok (show chkB true false false false true true true false false false x1 x2 x3 x4 x5 x6 x7 x8 x9 x10 x11 x12 = 0 from h)
theorem put_8 {x1 x2 : Int} {x3 x4 : ByteArray} {x5 : Int} {x6 : List ByteArray} {x7 : List Int} {x8 x9 x10 x11 : Int} {x12 : List Int} (h3 : x3.size ≤ 140737488351232) (h4 : x4.size ≤ 140737488351232) (hl : x6.length ≤ 9223372036854775806) (hv : x7.length ≤ 9223372036854775806) (ht : Txt x6) (h5 : -9223372036854775808 ≤ x5 ∧ x5 ≤ 9223372036854775807) (h7 : I64 x7) (h : chkC 8 x1 x2 x3 x4 x5 x6 x7 x8 x9 x10 x11 x12 = 0) : cmd_Put 8 x1 x2 x3 x4 x5 x6 x7 x8 x9 x10 x11 x12 = some (encC 8 x1 x2 x3 x4 x5 x6 x7 x8 x9 x10 x11 x12, 0) :=
  (cmd_Put_8 x1 x2 x3 x4 x5 x6 x7 x8 x9 x10 x11 x12 ((cmd_Check_spec 8 x1 x2 x3 x4 x5 x6 x7 x8 x9 x10 x11 x12 h3 h4 hl hv ht).trans (congrArg some h))).trans ((putGen_spec (ok_8 h) (by decide) h5 h7).trans rfl)

theorem ok_9 {x1 x2 : Int} {x3 x4 : ByteArray} {x5 : Int} {x6 : List ByteArray} {x7 : List Int} {x8 x9 x10 x11 : Int} {x12 : List Int} (h : chkC 9 x1 x2 x3 x4 x5 x6 x7 x8 x9 x10 x11 x12 = 0) : Ok24 true false false false false true false true false false x1 x2 x3 x4 x5 x6 x7 x8 x9 x10 x11 x12 := chkB_ok (show chkB true false false false false true false true false false x1 x2 x3 x4 x5 x6 x7 x8 x9 x10 x11 x12 = 0 from h)
theorem put_9 {x1 x2 : Int} {x3 x4 : ByteArray} {x5 : Int} {x6 : List ByteArray} {x7 : List Int} {x8 x9 x10 x11 : Int} {x12 : List Int} (h3 : x3.size ≤ 140737488351232) (h4 : x4.size ≤ 140737488351232) (hl : x6.length ≤ 9223372036854775806) (hv : x7.length ≤ 9223372036854775806) (ht : Txt x6) (h5 : -9223372036854775808 ≤ x5 ∧ x5 ≤ 9223372036854775807) (h7 : I64 x7) (h : chkC 9 x1 x2 x3 x4 x5 x6 x7 x8 x9 x10 x11 x12 = 0) : cmd_Put 9 x1 x2 x3 x4 x5 x6 x7 x8 x9 x10 x11 x12 = some (encC 9 x1 x2 x3 x4 x5 x6 x7 x8 x9 x10 x11 x12, 0) :=
  (cmd_Put_9 x1 x2 x3 x4 x5 x6 x7 x8 x9 x10 x11 x12 ((cmd_Check_spec 9 x1 x2 x3 x4 x5 x6 x7 x8 x9 x10 x11 x12 h3 h4 hl hv ht).trans (congrArg some h))).trans ((putGen_spec (ok_9 h) (by decide) h5 h7).trans rfl)

theorem ok_10 {x1 x2 : Int} {x3 x4 : ByteArray} {x5 : Int} {x6 : List ByteArray} {x7 : List Int} {x8 x9 x10 x11 : Int} {x12 : List Int} (h : chkC 10 x1 x2 x3 x4 x5 x6 x7 x8 x9 x10 x11 x12 = 0) : Ok24 true false false false false true false false false false x1 x2 x3 x4 x5 x6 x7 x8 x9 x10 x11 x12 := chkB_ok (show chkB true false false false false true false false false false x1 x2 x3 x4 x5 x6 x7 x8 x9 x10 x11 x12 = 0 from h)
theorem put_10 {x1 x2 : Int} {x3 x4 : ByteArray} {x5 : Int} {x6 : List ByteArray} {x7 : List Int} {x8 x9 x10 x11 : Int} {x12 : List Int} (h3 : x3.size ≤ 140737488351232) (h4 : x4.size ≤ 140737488351232) (hl : x6.length ≤ 9223372036854775806) (hv : x7.length ≤ 9223372036854775806) (ht : Txt x6) (h5 : -9223372036854775808 ≤ x5 ∧ x5 ≤ 9223372036854775807) (h7 : I64 x7) (h : chkC 10 x1 x2 x3 x4 x5 x6 x7 x8 x9 x10 x11 x12 = 0) : cmd_Put 10 x1 x2 x3 x4 x5 x6 x7 x8 x9 x10 x11 x12 = some (encC 10 x1 x2 x3 x4 x5 x6 x7 x8 x9 x10 x11 x12, 0) :=
  (cmd_Put_10 x1 x2 x3 x4 x5 x6 x7 x8 x9 x10 x11 x12 ((cmd_Check_spec 10 x1 x2 x3 x4 x5 x6 x7 x8 x9 x10 x11 x12 h3 h4 hl hv ht).trans (congrArg some h))).trans ((putGen_spec (ok_10 h) (by decide) h5 h7).trans rfl)

theorem ok_11 {x1 x2 : Int} {x3 x4 : ByteArray} {x5 : Int} {x6 : List ByteArray} {x7 : List Int} {x8 x9 x10 x11 : Int} {x12 : List Int} (h : chkC 11 x1 x2 x3 x4 x5 x6 x7 x8 x9 x10 x11 x12 = 0) : Ok24 false false false false false true false true false true x1 x2 x3 x4 x5 x6 x7 x8 x9 x10 x11 x12 := chkB_ok (show chkB false false false false false true false true false true x1 x2 x3 x4 x5 x6 x7 x8 x9 x10 x11 x12 = 0 from h)
theorem put_11 {x1 x2 : Int} {x3 x4 : ByteArray} {x5 : Int} {x6 : List ByteArray} {x7 : List Int} {x8 x9 x10 x11 : Int} {x12 : List Int} (h3 : x3.size ≤ 140737488351232) (h4 : x4.size ≤ 140737488351232) (hl : x6.length ≤ 9223372036854775806) (hv : x7.length ≤ 9223372036854775806) (ht : Txt x6) (h5 : -9223372036854775808 ≤ x5 ∧ x5 ≤ 9223372036854775807) (h7 : I64 x7) (h : chkC 11 x1 x2 x3 x4 x5 x6 x7 x8 x9 x10 x11 x12 = 0) : cmd_Put 11 x1 x2 x3 x4 x5 x6 x7 x8 x9 x10 x11 x12 = some (encC 11 x1 x2 x3 x4 x5 x6 x7 x8 x9 x10 x11 x12, 0) :=
  (cmd_Put_11 x1 x2 x3 x4 x5 x6 x7 x8 x9 x10 x11 x12 ((cmd_Check_spec 11 x1 x2 x3 x4 x5 x6 x7 x8 x9 x10 x11 x12 h3 h4 hl hv ht).trans (congrArg some h))).trans ((putGen_spec (ok_11 h) (by decide) h5 h7).trans rfl)

theorem ok_12 {x1 x2 : Int} {x3 x4 : ByteArray} {x5 : Int} {x6 : List ByteArray} {x7 : List Int} {x8 x9 x10 x11 : Int} {x12 : List Int} (h : chkC 12 x1 x2 x3 x4 x5 x6 x7 x8 x9 x10 x11 x12 = 0) : Ok24 false false false false false true false true false false x1 x2 x3 x4 x5 x6 x7 x8 x9 x10 x11 x12 := chkB_ok (show chkB false false false false false true false true false false x1 x2 x3 x4 x5 x6 x7 x8 x9 x10 x11 x12 = 0 from h)
theorem put_12 {x1 x2 : Int} {x3 x4 : ByteArray} {x5 : Int} {x6 : List ByteArray} {x7 : List Int} {x8 x9 x10 x11 : Int} {x12 : List Int} (h3 : x3.size ≤ 140737488351232) (h4 : x4.size ≤ 140737488351232) (hl : x6.length ≤ 9223372036854775806) (hv : x7.length ≤ 9223372036854775806) (ht : Txt x6) (h5 : -9223372036854775808 ≤ x5 ∧ x5 ≤ 9223372036854775807) (h7 : I64 x7) (h : chkC 12 x1 x2 x3 x4 x5 x6 x7 x8 x9 x10 x11 x12 = 0) : cmd_Put 12 x1 x2 x3 x4 x5 x6 x7 x8 x9 x10 x11 x12 = some (encC 12 x1 x2 x3 x4 x5 x6 x7 x8 x9 x10 x11 x12, 0) :=
  (cmd_Put_12 x1 x2 x3 x4 x5 x6 x7 x8 x9 x10 x11 x12 ((cmd_Check_spec 12 x1 x2 x3 x4 x5 x6 x7 x8 x9 x10 x11 x12 h3 h4 hl hv ht).trans (congrArg some h))).trans ((putGen_spec (ok_12 h) (by decide) h5 h7).trans rfl)

theorem cmd_put_yes {x0 x1 x2 : Int} {x3 x4 : ByteArray} {x5 : Int} {x6 : List ByteArray} {x7 : List Int} {x8 x9 x10 x11 : Int} {x12 : List Int} (h3 : x3.size ≤ 140737488351232) (h4 : x4.size ≤ 140737488351232) (hl : x6.length ≤ 9223372036854775806) (hv : x7.length ≤ 9223372036854775806) (ht : Txt x6) (h5 : -9223372036854775808 ≤ x5 ∧ x5 ≤ 9223372036854775807) (h7 : I64 x7) (h : chkC x0 x1 x2 x3 x4 x5 x6 x7 x8 x9 x10 x11 x12 = 0) : cmd_Put x0 x1 x2 x3 x4 x5 x6 x7 x8 x9 x10 x11 x12 = some (encC x0 x1 x2 x3 x4 x5 x6 x7 x8 x9 x10 x11 x12, 0) := by
  by_cases hk : 1 ≤ x0 ∧ x0 ≤ 12
  · exact kinds (P := fun x0 => chkC x0 x1 x2 x3 x4 x5 x6 x7 x8 x9 x10 x11 x12 = 0 → cmd_Put x0 x1 x2 x3 x4 x5 x6 x7 x8 x9 x10 x11 x12 = some (encC x0 x1 x2 x3 x4 x5 x6 x7 x8 x9 x10 x11 x12, 0)) x0 hk
      (put_1 h3 h4 hl hv ht h5 h7) (put_2 h3 h4 hl hv ht h5 h7) (put_3 h3 h4 hl hv ht h5 h7) (put_4 h3 h4 hl hv ht h5 h7) (put_5 h3 h4 hl hv ht h5 h7) (put_6 h3 h4 hl hv ht h5 h7) (put_7 h3 h4 hl hv ht h5 h7) (put_8 h3 h4 hl hv ht h5 h7) (put_9 h3 h4 hl hv ht h5 h7) (put_10 h3 h4 hl hv ht h5 h7) (put_11 h3 h4 hl hv ht h5 h7) (put_12 h3 h4 hl hv ht h5 h7) h
  · rw [chkC, if_pos (flag_out hk)] at h; cases h
theorem cmd_put_no {x0 x1 x2 : Int} {x3 x4 : ByteArray} {x5 : Int} {x6 : List ByteArray} {x7 : List Int} {x8 x9 x10 x11 : Int} {x12 : List Int} (h3 : x3.size ≤ 140737488351232) (h4 : x4.size ≤ 140737488351232) (hl : x6.length ≤ 9223372036854775806) (hv : x7.length ≤ 9223372036854775806) (ht : Txt x6) (h : chkC x0 x1 x2 x3 x4 x5 x6 x7 x8 x9 x10 x11 x12 ≠ 0) : cmd_Put x0 x1 x2 x3 x4 x5 x6 x7 x8 x9 x10 x11 x12 = some ([], chkC x0 x1 x2 x3 x4 x5 x6 x7 x8 x9 x10 x11 x12) := by
  rw [cmd_Put_eq, cmd_Check_spec x0 x1 x2 x3 x4 x5 x6 x7 x8 x9 x10 x11 x12 h3 h4 hl hv ht, Option.bind_some, bne_yes h, cond_true]
end Go.Proofs.YtdbenenonfldkaaDoor.PE

namespace Go.Proofs.YtdbenenonfldkaaDoor.PE
open Go Go.RowKit Go.Proofs.YtdbenenonfldkaaDoor.Pack
def anyB (c : Int) (l : List UInt8) : Bool := l.any fun b => (b.toNat : Int) == c
theorem has_l1 (c : Int) (s : ByteArray) (hs : s.size ≤ 1000) : ∀ (r : List UInt8) (i : Nat), s.data.toList.drop i = r → ref24_has_l1 c s (i : Int) = some (anyB c r) := by
  intro r
  induction r with
  | nil =>
    intro i hd
    have := at_nil hd
    have e : isize s = (s.data.toList.length : Int) := isize_eq s
    rw [ref24_has_l1_eq, e, Bool.cond_decide, if_neg (by omega)]; rfl
  | cons x r ih =>
    intro i hd
    obtain ⟨h1, h2, h3⟩ := at_drop hd
    have e : isize s = (s.data.toList.length : Int) := isize_eq s
    have hl : s.data.toList.length ≤ 1000 := hs
    rw [ref24_has_l1_eq, e, Bool.cond_decide, if_pos (by omega), Bool.cond_decide, if_pos (by omega), Int.toNat_natCast, ← Array.getElem?_toList, h2, Option.bind_some, wrap_succ (by omega), ih (i + 1) h3, anyB, anyB, List.any_cons]
    cases ((x.toNat : Int) == c) <;> rfl
theorem has_str (c : Int) (s : ByteArray) (hs : s.size ≤ 1000) : ref24_has_r27 c s = some (anyB c s.data.toList) := by
  rw [ref24_has_r27_eq]; exact has_l1 c s hs _ 0 rfl

theorem hask_1 (c : Int) : ref24_has 1 c = some (anyB c (⟨#[116]⟩ : ByteArray).data.toList) := by
  rw [ref24_has_eq, beq_yes rfl, cond_true, has_str c _ (by decide)]
theorem hask_2 (c : Int) : ref24_has 2 c = some (anyB c (⟨#[97, 100]⟩ : ByteArray).data.toList) := by
  rw [ref24_has_eq, beq_no (show ¬ (2 : Int) = 1 by decide), cond_false, beq_yes rfl, cond_true, has_str c _ (by decide)]
theorem hask_3 (c : Int) : ref24_has 3 c = some (anyB c (⟨#[97, 110, 118]⟩ : ByteArray).data.toList) := by
  rw [ref24_has_eq, beq_no (show ¬ (3 : Int) = 1 by decide), cond_false, beq_no (show ¬ (3 : Int) = 2 by decide), cond_false, beq_yes rfl, cond_true, has_str c _ (by decide)]
theorem hask_4 (c : Int) : ref24_has 4 c = some (anyB c (⟨#[97, 110, 107, 118, 99]⟩ : ByteArray).data.toList) := by
  rw [ref24_has_eq, beq_no (show ¬ (4 : Int) = 1 by decide), cond_false, beq_no (show ¬ (4 : Int) = 2 by decide), cond_false, beq_no (show ¬ (4 : Int) = 3 by decide), cond_false, beq_yes rfl, cond_true, has_str c _ (by decide)]
theorem hask_5 (c : Int) : ref24_has 5 c = some (anyB c (⟨#[97, 110, 119, 99, 116]⟩ : ByteArray).data.toList) := by
  rw [ref24_has_eq, beq_no (show ¬ (5 : Int) = 1 by decide), cond_false, beq_no (show ¬ (5 : Int) = 2 by decide), cond_false, beq_no (show ¬ (5 : Int) = 3 by decide), cond_false, beq_no (show ¬ (5 : Int) = 4 by decide), cond_false, beq_yes rfl, cond_true, has_str c _ (by decide)]
theorem hask_6 (c : Int) : ref24_has 6 c = some (anyB c (⟨#[97, 119, 118, 105]⟩ : ByteArray).data.toList) := by
  rw [ref24_has_eq, beq_no (show ¬ (6 : Int) = 1 by decide), cond_false, beq_no (show ¬ (6 : Int) = 2 by decide), cond_false, beq_no (show ¬ (6 : Int) = 3 by decide), cond_false, beq_no (show ¬ (6 : Int) = 4 by decide), cond_false, beq_no (show ¬ (6 : Int) = 5 by decide), cond_false, beq_yes rfl, cond_true, has_str c _ (by decide)]
theorem hask_7 (c : Int) : ref24_has 7 c = some (anyB c (⟨#[97, 119, 105]⟩ : ByteArray).data.toList) := by
  rw [ref24_has_eq, beq_no (show ¬ (7 : Int) = 1 by decide), cond_false, beq_no (show ¬ (7 : Int) = 2 by decide), cond_false, beq_no (show ¬ (7 : Int) = 3 by decide), cond_false, beq_no (show ¬ (7 : Int) = 4 by decide), cond_false, beq_no (show ¬ (7 : Int) = 5 by decide), cond_false, beq_no (show ¬ (7 : Int) = 6 by decide), cond_false, beq_yes rfl, cond_true, has_str c _ (by decide)]
theorem hask_8 (c : Int) : ref24_has 8 c = some (anyB c (⟨#[97, 118, 105, 111]⟩ : ByteArray).data.toList) := by
  rw [ref24_has_eq, beq_no (show ¬ (8 : Int) = 1 by decide), cond_false, beq_no (show ¬ (8 : Int) = 2 by decide), cond_false, beq_no (show ¬ (8 : Int) = 3 by decide), cond_false, beq_no (show ¬ (8 : Int) = 4 by decide), cond_false, beq_no (show ¬ (8 : Int) = 5 by decide), cond_false, beq_no (show ¬ (8 : Int) = 6 by decide), cond_false, beq_no (show ¬ (8 : Int) = 7 by decide), cond_false, beq_yes rfl, cond_true, has_str c _ (by decide)]
theorem hask_9 (c : Int) : ref24_has 9 c = some (anyB c (⟨#[97, 105, 99]⟩ : ByteArray).data.toList) := by
  rw [ref24_has_eq, beq_no (show ¬ (9 : Int) = 1 by decide), cond_false, beq_no (show ¬ (9 : Int) = 2 by decide), cond_false, beq_no (show ¬ (9 : Int) = 3 by decide), cond_false, beq_no (show ¬ (9 : Int) = 4 by decide), cond_false, beq_no (show ¬ (9 : Int) = 5 by decide), cond_false, beq_no (show ¬ (9 : Int) = 6 by decide), cond_false, beq_no (show ¬ (9 : Int) = 7 by decide), cond_false, beq_no (show ¬ (9 : Int) = 8 by decide), cond_false, beq_yes rfl, cond_true, has_str c _ (by decide)]
theorem hask_10 (c : Int) : ref24_has 10 c = some (anyB c (⟨#[97, 105]⟩ : ByteArray).data.toList) := by
  rw [ref24_has_eq, beq_no (show ¬ (10 : Int) = 1 by decide), cond_false, beq_no (show ¬ (10 : Int) = 2 by decide), cond_false, beq_no (show ¬ (10 : Int) = 3 by decide), cond_false, beq_no (show ¬ (10 : Int) = 4 by decide), cond_false, beq_no (show ¬ (10 : Int) = 5 by decide), cond_false, beq_no (show ¬ (10 : Int) = 6 by decide), cond_false, beq_no (show ¬ (10 : Int) = 7 by decide), cond_false, beq_no (show ¬ (10 : Int) = 8 by decide), cond_false, beq_no (show ¬ (10 : Int) = 9 by decide), cond_false, beq_yes rfl, cond_true, has_str c _ (by decide)]
theorem hask_11 (c : Int) : ref24_has 11 c = some (anyB c (⟨#[105, 99, 100]⟩ : ByteArray).data.toList) := by
  rw [ref24_has_eq, beq_no (show ¬ (11 : Int) = 1 by decide), cond_false, beq_no (show ¬ (11 : Int) = 2 by decide), cond_false, beq_no (show ¬ (11 : Int) = 3 by decide), cond_false, beq_no (show ¬ (11 : Int) = 4 by decide), cond_false, beq_no (show ¬ (11 : Int) = 5 by decide), cond_false, beq_no (show ¬ (11 : Int) = 6 by decide), cond_false, beq_no (show ¬ (11 : Int) = 7 by decide), cond_false, beq_no (show ¬ (11 : Int) = 8 by decide), cond_false, beq_no (show ¬ (11 : Int) = 9 by decide), cond_false, beq_no (show ¬ (11 : Int) = 10 by decide), cond_false, beq_yes rfl, cond_true, has_str c _ (by decide)]
theorem hask_12 (c : Int) : ref24_has 12 c = some (anyB c (⟨#[105, 99]⟩ : ByteArray).data.toList) := by
  rw [ref24_has_eq, beq_no (show ¬ (12 : Int) = 1 by decide), cond_false, beq_no (show ¬ (12 : Int) = 2 by decide), cond_false, beq_no (show ¬ (12 : Int) = 3 by decide), cond_false, beq_no (show ¬ (12 : Int) = 4 by decide), cond_false, beq_no (show ¬ (12 : Int) = 5 by decide), cond_false, beq_no (show ¬ (12 : Int) = 6 by decide), cond_false, beq_no (show ¬ (12 : Int) = 7 by decide), cond_false, beq_no (show ¬ (12 : Int) = 8 by decide), cond_false, beq_no (show ¬ (12 : Int) = 9 by decide), cond_false, beq_no (show ¬ (12 : Int) = 10 by decide), cond_false, beq_no (show ¬ (12 : Int) = 11 by decide), cond_false, beq_yes rfl, cond_true, has_str c _ (by decide)]
theorem has_a {k : Int} (hk : 1 ≤ k ∧ k ≤ 12) : ref24_has k 97 = some (hs k 1) :=
  kinds (P := fun k => ref24_has k 97 = some (hs k 1)) k hk
    ((hask_1 97).trans (by kernel_rfl)) ((hask_2 97).trans (by kernel_rfl)) ((hask_3 97).trans (by kernel_rfl)) ((hask_4 97).trans (by kernel_rfl)) ((hask_5 97).trans (by kernel_rfl)) ((hask_6 97).trans (by kernel_rfl)) ((hask_7 97).trans (by kernel_rfl)) ((hask_8 97).trans (by kernel_rfl)) ((hask_9 97).trans (by kernel_rfl)) ((hask_10 97).trans (by kernel_rfl)) ((hask_11 97).trans (by kernel_rfl)) ((hask_12 97).trans (by kernel_rfl))

theorem has_n {k : Int} (hk : 1 ≤ k ∧ k ≤ 12) : ref24_has k 110 = some (hs k 2) :=
  kinds (P := fun k => ref24_has k 110 = some (hs k 2)) k hk
    ((hask_1 110).trans (by kernel_rfl)) ((hask_2 110).trans (by kernel_rfl)) ((hask_3 110).trans (by kernel_rfl)) ((hask_4 110).trans (by kernel_rfl)) ((hask_5 110).trans (by kernel_rfl)) ((hask_6 110).trans (by kernel_rfl)) ((hask_7 110).trans (by kernel_rfl)) ((hask_8 110).trans (by kernel_rfl)) ((hask_9 110).trans (by kernel_rfl)) ((hask_10 110).trans (by kernel_rfl)) ((hask_11 110).trans (by kernel_rfl)) ((hask_12 110).trans (by kernel_rfl))

theorem has_w {k : Int} (hk : 1 ≤ k ∧ k ≤ 12) : ref24_has k 119 = some (hs k 4) :=
  kinds (P := fun k => ref24_has k 119 = some (hs k 4)) k hk
    ((hask_1 119).trans (by kernel_rfl)) ((hask_2 119).trans (by kernel_rfl)) ((hask_3 119).trans (by kernel_rfl)) ((hask_4 119).trans (by kernel_rfl)) ((hask_5 119).trans (by kernel_rfl)) ((hask_6 119).trans (by kernel_rfl)) ((hask_7 119).trans (by kernel_rfl)) ((hask_8 119).trans (by kernel_rfl)) ((hask_9 119).trans (by kernel_rfl)) ((hask_10 119).trans (by kernel_rfl)) ((hask_11 119).trans (by kernel_rfl)) ((hask_12 119).trans (by kernel_rfl))

theorem has_k {k : Int} (hk : 1 ≤ k ∧ k ≤ 12) : ref24_has k 107 = some (hs k 8) :=
  kinds (P := fun k => ref24_has k 107 = some (hs k 8)) k hk
    ((hask_1 107).trans (by kernel_rfl)) ((hask_2 107).trans (by kernel_rfl)) ((hask_3 107).trans (by kernel_rfl)) ((hask_4 107).trans (by kernel_rfl)) ((hask_5 107).trans (by kernel_rfl)) ((hask_6 107).trans (by kernel_rfl)) ((hask_7 107).trans (by kernel_rfl)) ((hask_8 107).trans (by kernel_rfl)) ((hask_9 107).trans (by kernel_rfl)) ((hask_10 107).trans (by kernel_rfl)) ((hask_11 107).trans (by kernel_rfl)) ((hask_12 107).trans (by kernel_rfl))

theorem has_v {k : Int} (hk : 1 ≤ k ∧ k ≤ 12) : ref24_has k 118 = some (hs k 16) :=
  kinds (P := fun k => ref24_has k 118 = some (hs k 16)) k hk
    ((hask_1 118).trans (by kernel_rfl)) ((hask_2 118).trans (by kernel_rfl)) ((hask_3 118).trans (by kernel_rfl)) ((hask_4 118).trans (by kernel_rfl)) ((hask_5 118).trans (by kernel_rfl)) ((hask_6 118).trans (by kernel_rfl)) ((hask_7 118).trans (by kernel_rfl)) ((hask_8 118).trans (by kernel_rfl)) ((hask_9 118).trans (by kernel_rfl)) ((hask_10 118).trans (by kernel_rfl)) ((hask_11 118).trans (by kernel_rfl)) ((hask_12 118).trans (by kernel_rfl))

theorem has_i {k : Int} (hk : 1 ≤ k ∧ k ≤ 12) : ref24_has k 105 = some (hs k 32) :=
  kinds (P := fun k => ref24_has k 105 = some (hs k 32)) k hk
    ((hask_1 105).trans (by kernel_rfl)) ((hask_2 105).trans (by kernel_rfl)) ((hask_3 105).trans (by kernel_rfl)) ((hask_4 105).trans (by kernel_rfl)) ((hask_5 105).trans (by kernel_rfl)) ((hask_6 105).trans (by kernel_rfl)) ((hask_7 105).trans (by kernel_rfl)) ((hask_8 105).trans (by kernel_rfl)) ((hask_9 105).trans (by kernel_rfl)) ((hask_10 105).trans (by kernel_rfl)) ((hask_11 105).trans (by kernel_rfl)) ((hask_12 105).trans (by kernel_rfl))

theorem has_o {k : Int} (hk : 1 ≤ k ∧ k ≤ 12) : ref24_has k 111 = some (hs k 64) :=
  kinds (P := fun k => ref24_has k 111 = some (hs k 64)) k hk
    ((hask_1 111).trans (by kernel_rfl)) ((hask_2 111).trans (by kernel_rfl)) ((hask_3 111).trans (by kernel_rfl)) ((hask_4 111).trans (by kernel_rfl)) ((hask_5 111).trans (by kernel_rfl)) ((hask_6 111).trans (by kernel_rfl)) ((hask_7 111).trans (by kernel_rfl)) ((hask_8 111).trans (by kernel_rfl)) ((hask_9 111).trans (by kernel_rfl)) ((hask_10 111).trans (by kernel_rfl)) ((hask_11 111).trans (by kernel_rfl)) ((hask_12 111).trans (by kernel_rfl))

theorem has_c {k : Int} (hk : 1 ≤ k ∧ k ≤ 12) : ref24_has k 99 = some (hs k 128) :=
  kinds (P := fun k => ref24_has k 99 = some (hs k 128)) k hk
    ((hask_1 99).trans (by kernel_rfl)) ((hask_2 99).trans (by kernel_rfl)) ((hask_3 99).trans (by kernel_rfl)) ((hask_4 99).trans (by kernel_rfl)) ((hask_5 99).trans (by kernel_rfl)) ((hask_6 99).trans (by kernel_rfl)) ((hask_7 99).trans (by kernel_rfl)) ((hask_8 99).trans (by kernel_rfl)) ((hask_9 99).trans (by kernel_rfl)) ((hask_10 99).trans (by kernel_rfl)) ((hask_11 99).trans (by kernel_rfl)) ((hask_12 99).trans (by kernel_rfl))

theorem has_t {k : Int} (hk : 1 ≤ k ∧ k ≤ 12) : ref24_has k 116 = some (hs k 256) :=
  kinds (P := fun k => ref24_has k 116 = some (hs k 256)) k hk
    ((hask_1 116).trans (by kernel_rfl)) ((hask_2 116).trans (by kernel_rfl)) ((hask_3 116).trans (by kernel_rfl)) ((hask_4 116).trans (by kernel_rfl)) ((hask_5 116).trans (by kernel_rfl)) ((hask_6 116).trans (by kernel_rfl)) ((hask_7 116).trans (by kernel_rfl)) ((hask_8 116).trans (by kernel_rfl)) ((hask_9 116).trans (by kernel_rfl)) ((hask_10 116).trans (by kernel_rfl)) ((hask_11 116).trans (by kernel_rfl)) ((hask_12 116).trans (by kernel_rfl))

theorem has_d {k : Int} (hk : 1 ≤ k ∧ k ≤ 12) : ref24_has k 100 = some (hs k 512) :=
  kinds (P := fun k => ref24_has k 100 = some (hs k 512)) k hk
    ((hask_1 100).trans (by kernel_rfl)) ((hask_2 100).trans (by kernel_rfl)) ((hask_3 100).trans (by kernel_rfl)) ((hask_4 100).trans (by kernel_rfl)) ((hask_5 100).trans (by kernel_rfl)) ((hask_6 100).trans (by kernel_rfl)) ((hask_7 100).trans (by kernel_rfl)) ((hask_8 100).trans (by kernel_rfl)) ((hask_9 100).trans (by kernel_rfl)) ((hask_10 100).trans (by kernel_rfl)) ((hask_11 100).trans (by kernel_rfl)) ((hask_12 100).trans (by kernel_rfl))

theorem refIn_spec (n : Int) (a : Bool) (lo : Int) : ref24_in n a lo = some (fromS n a lo 1099511627776) := by
  rw [ref24_in_eq, fromS, inR]
  cases a with
  | false => rfl
  | true =>
    rw [cond_true, cond_true, Bool.cond_decide]
    by_cases h : n ≥ lo
    · rw [if_pos h, decide_eq_true (show lo ≤ n from h), Bool.true_and]
    · rw [if_neg h, decide_eq_false (show ¬ lo ≤ n from h), Bool.false_and]
theorem refText_spec {s : ByteArray} (a : Bool) (h : s.size ≤ 140737488351232) : ref24_text s a = some (textS s a) := by
  rw [ref24_text_eq, textS, refName_spec h, Option.bind_some]
  cases a <;> rfl
end Go.Proofs.YtdbenenonfldkaaDoor.PE

namespace Go.Proofs.YtdbenenonfldkaaDoor.PE
open Go Go.RowKit Go.Proofs.YtdbenenonfldkaaDoor.Pack
theorem rvcheck_l0 {ns : List ByteArray} {vs : List Int} (hl : ns.length ≤ 1000) (ht : Txt ns) : ∀ (r : List ByteArray) (i : Nat) (p : Option ByteArray), ns.drop i = r → (i = 0 → p = none) → (∀ k, i = k + 1 → ∃ q, ns[k]? = some q ∧ p = some q) →
    ref09_Check_l0 (i : Int) ns vs = some (if goodV p r = true then 0 else 1) := by
  intro r
  induction r with
  | nil =>
    intro i p hd _ _
    have := at_nil hd
    rw [ref09_Check_l0_eq, ilen_eq, Bool.cond_decide, if_neg (by omega), goodV, if_pos rfl]
  | cons s r ih =>
    intro i p hd hp0 hp1
    obtain ⟨h1, h2, h3⟩ := at_drop hd
    have ihs := ih (i + 1) (some s) h3 (fun h => by omega) (fun k hk => ⟨s, by rw [show k = i by omega]; exact h2, rfl⟩)
    rw [ref09_Check_l0_eq, ilen_eq, Bool.cond_decide, if_pos (by omega), Bool.cond_decide, if_pos (by omega), Int.toNat_natCast, h2, Option.bind_some, refName_spec (ht s (List.mem_of_getElem? h2)), Option.bind_some, wrap_succ (by omega), ihs, goodV,
      show (⟨#[121, 101, 115]⟩ : ByteArray) = yesB from rfl, show (⟨#[110, 111]⟩ : ByteArray) = noB from rfl]
    cases nameS s with
    | false => rfl
    | true =>
      cases (s.toList == yesB.toList) with
      | true => rfl
      | false =>
        cases (s.toList == noB.toList) with
        | true => rfl
        | false =>
          rw [Bool.not_true, cond_false, cond_false, cond_false, Bool.cond_decide]
          cases i with
          | zero =>
            rw [hp0 rfl, if_neg (by omega)]
            simp only [ahead, Bool.not_false, Bool.true_and]
          | succ k =>
            obtain ⟨q, hq, rfl⟩ := hp1 k rfl
            rw [if_pos (by omega), wrap_i64 (x := ((k + 1 : Nat) : Int) - 1) (by omega) (by omega), show ((k + 1 : Nat) : Int) - 1 = (k : Int) by omega, Bool.cond_decide, if_pos (by omega), Int.toNat_natCast, hq, Option.bind_some, ahead]
            cases Op.bytesLess q.toList s.toList <;> simp
theorem rvcheck_spec {ns : List ByteArray} (vs : List Int) (hl : ns.length ≤ 9223372036854775806) (hv : vs.length ≤ 9223372036854775806) (ht : Txt ns) : ref09_Check ns vs = some (chkV ns vs) := by
  rw [ref09_Check_eq, ilen_eq, ilen_eq, chkV]
  by_cases h1 : ns.length = vs.length
  · rw [bne_no (by omega), cond_false, if_neg (fun h => h h1), Bool.cond_decide]
    by_cases h2 : ns.length > 64
    · rw [if_pos (by omega), if_pos h2]
    · rw [if_neg (by omega), if_neg h2]
      exact rvcheck_l0 (by omega) ht ns 0 none rfl (fun _ => rfl) (fun k hk => by omega)
  · rw [bne_yes (by omega), cond_true, if_pos h1]
theorem refSome_spec {ns : List ByteArray} (vs : List Int) (a : Bool) (hl : ns.length ≤ 1000000000000000) (hv : vs.length ≤ 1000000000000000) (ht : Txt ns) : ref24_some ns vs a = some (varsS ns vs a) := by
  rw [ref24_some_eq, varsS, rvcheck_spec vs (by omega) (by omega) ht, Option.bind_some, ilen_eq, ilen_eq, wrap_i64 (by omega) (by omega)]
  cases a with
  | true => rfl
  | false =>
    rw [Bool.not_false, cond_true, cond_false, Bool.cond_decide]
    by_cases h1 : 0 < ns.length
    · rw [if_pos (by omega), decide_eq_true h1, Bool.true_or]; rfl
    · rw [decide_eq_false h1, Bool.false_or, Bool.cond_decide]
      by_cases h2 : 0 < vs.length
      · rw [if_pos (by omega), if_pos h2]
      · rw [if_neg (by omega), if_neg h2]
theorem flag_in {k : Int} (h : 1 ≤ k ∧ k ≤ 12) : ¬ flag k = 0 :=
  kinds (P := fun k => ¬ flag k = 0) k h (by decide) (by decide) (by decide) (by decide) (by decide) (by decide) (by decide) (by decide) (by decide) (by decide) (by decide) (by decide)
theorem refCheck24_spec (x0 : Int) (x1 x2 : Int) (x3 x4 : ByteArray) (x5 : Int) (x6 : List ByteArray) (x7 : List Int) (x8 x9 x10 x11 : Int) (x12 : List Int) (h3 : x3.size ≤ 140737488351232) (h4 : x4.size ≤ 140737488351232) (hl : x6.length ≤ 1000000000000000) (hv : x7.length ≤ 1000000000000000) (ht : Txt x6) :
    ref24_Check x0 x1 x2 x3 x4 x5 x6 x7 x8 x9 x10 x11 x12 = some (chkC x0 x1 x2 x3 x4 x5 x6 x7 x8 x9 x10 x11 x12) := by
  rw [ref24_Check_eq, chkC, Bool.cond_decide, Bool.cond_decide]
  by_cases h : 1 ≤ x0 ∧ x0 ≤ 12
  · rw [if_neg (by omega), if_neg (by omega), if_neg (flag_in h)]
    simp only [has_a h, has_n h, has_w h, has_k h, has_v h, has_i h, has_o h, has_c h, has_t h, has_d h, Option.bind_some, refIn_spec, refText_spec _ h3, refText_spec _ h4, refSome_spec x7 _ hl hv ht, bif_some, chkB]
    cases fromS x1 (hs x0 1) 1 1099511627776 with
    | false => rfl
    | true =>
    cases fromS x2 (hs x0 1) 1 1099511627776 with
    | false => rfl
    | true =>
    cases textS x3 (hs x0 2) with
    | false => rfl
    | true =>
    cases textS x4 (hs x0 4) with
    | false => rfl
    | true =>
    cases (x5 != 0) <;> cases hs x0 8 <;> cases fromS x8 (hs x0 32) 0 1099511627776 <;> cases fromS x9 (hs x0 64) 0 1099511627776 <;> cases fromS x10 (hs x0 128) 0 1099511627776 <;> cases fromS x11 (hs x0 256) 0 1099511627776 <;> cases decide (ilen x12 > 0) <;> cases hs x0 512 <;> rfl
  · rw [if_pos (flag_out h)]
    by_cases h1 : x0 < 1
    · rw [if_pos h1]
    · rw [if_neg h1, if_pos (by omega)]
end Go.Proofs.YtdbenenonfldkaaDoor.PE

namespace Go.Proofs.YtdbenenonfldkaaDoor.PE
open Go Go.RowKit Go.Proofs.YtdbenenonfldkaaDoor.Pack
theorem refnum_spec {f : Bool} {x : Int} (h : f = true → 0 ≤ x ∧ x ≤ 1099511627776) : ref24_num x f = some (eU f x) := by
  rw [ref24_num_eq]
  cases f with
  | false => rfl
  | true =>
    have hx := h rfl
    rw [Bool.not_true, cond_false, wrap_u64 (by omega) (by omega), show x = ((x.toNat : Nat) : Int) by omega, refUint_spec (by omega)]; rfl
theorem refword_spec {f : Bool} {s : ByteArray} (h : f = true → (bytesList s).length ≤ 100000) : ref24_word s f = some (eB f (bytesList s)) := by
  rw [ref24_word_eq]
  cases f with
  | false => rfl
  | true => rw [Bool.not_true, cond_false, refBytesL (h rfl)]; rfl
theorem ref09_bytes_l0 {ns : List ByteArray} {vs : List Int} (hl : ns.length ≤ 1000) (hlv : ns.length = vs.length) (hn : Names ns) (hv : I64 vs) : ∀ (r : List ByteArray) (q : List Int) (i : Nat) (acc : List Int), ns.drop i = r → vs.drop i = q → acc.length + 60 * r.length ≤ 1000000000000 →
    ref09_Bytes_l0 (i : Int) ns vs acc = some (acc ++ encPairs r q) := by
  intro r
  induction r with
  | nil =>
    intro q i acc hd hq ha
    have := at_nil hd
    rw [ref09_Bytes_l0_eq, ilen_eq, Bool.cond_decide, if_neg (by omega), encPairs, List.append_nil]
    intro s ns v vs h; cases h
  | cons x r ih =>
    intro q i acc hd hq ha
    obtain ⟨h1, h2, h3⟩ := at_drop hd
    cases q with
    | nil => have := at_nil hq; omega
    | cons y q =>
      obtain ⟨k1, k2, k3⟩ := at_drop hq
      have hx : nameS x = true := hn x (List.mem_of_getElem? h2)
      have hy := hv y (List.mem_of_getElem? k2)
      have l1 := nameS_len hx
      have l2 := encB_len (bytesList x)
      have l3 := enc_length (zig y)
      have hr : (x :: r).length = r.length + 1 := rfl
      have gi := ih q (i + 1) (acc ++ encB (bytesList x) ++ enc (zig y)) h3 k3 (by simp only [List.length_append]; omega)
      rw [ref09_Bytes_l0_eq, ilen_eq, Bool.cond_decide, if_pos (by omega), Bool.cond_decide, if_pos (by omega), Int.toNat_natCast, h2, Option.bind_some, refBytesL (by omega), Option.bind_some,
        Bool.cond_decide, if_pos (show _ ≤ room by simp only [ilen_eq, room_eq]; omega), Bool.cond_decide, if_pos (by omega), k2, Option.bind_some, refInt_spec hy.1 hy.2, Option.bind_some,
        Bool.cond_decide, if_pos (show _ ≤ room by simp only [ilen_eq, room_eq, List.length_append]; omega), wrap_succ (by omega), gi]
      simp only [encPairs, List.append_assoc]
theorem ref09_bytes {ns : List ByteArray} {vs : List Int} (hl : ns.length ≤ 1000) (hlv : ns.length = vs.length) (hn : Names ns) (hv : I64 vs) : ref09_Bytes ns vs = some (encV ns vs) := by
  rw [ref09_Bytes_eq, ilen_eq, wrap_u64 (by omega) (by omega), refUint_spec (by omega), Option.bind_some]
  have := enc_length ns.length
  exact ref09_bytes_l0 hl hlv hn hv _ _ 0 _ rfl rfl (by omega)

theorem ok_all {x0 x1 x2 : Int} {x3 x4 : ByteArray} {x5 : Int} {x6 : List ByteArray} {x7 : List Int} {x8 x9 x10 x11 : Int} {x12 : List Int} (hk : 1 ≤ x0 ∧ x0 ≤ 12) (h : chkC x0 x1 x2 x3 x4 x5 x6 x7 x8 x9 x10 x11 x12 = 0) : Ok24 (hs x0 1) (hs x0 2) (hs x0 4) (hs x0 8) (hs x0 16) (hs x0 32) (hs x0 64) (hs x0 128) (hs x0 256) (hs x0 512) x1 x2 x3 x4 x5 x6 x7 x8 x9 x10 x11 x12 :=
  kinds (P := fun x0 => chkC x0 x1 x2 x3 x4 x5 x6 x7 x8 x9 x10 x11 x12 = 0 → Ok24 (hs x0 1) (hs x0 2) (hs x0 4) (hs x0 8) (hs x0 16) (hs x0 32) (hs x0 64) (hs x0 128) (hs x0 256) (hs x0 512) x1 x2 x3 x4 x5 x6 x7 x8 x9 x10 x11 x12) x0 hk
      ok_1 ok_2 ok_3 ok_4 ok_5 ok_6 ok_7 ok_8 ok_9 ok_10 ok_11 ok_12 h
theorem kind_in {x0 x1 x2 : Int} {x3 x4 : ByteArray} {x5 : Int} {x6 : List ByteArray} {x7 : List Int} {x8 x9 x10 x11 : Int} {x12 : List Int} (h : chkC x0 x1 x2 x3 x4 x5 x6 x7 x8 x9 x10 x11 x12 = 0) : 1 ≤ x0 ∧ x0 ≤ 12 := by
  by_cases hk : 1 ≤ x0 ∧ x0 ≤ 12
  · exact hk
  · rw [chkC, if_pos (flag_out hk)] at h; cases h

theorem refPut_yes {x0 x1 x2 : Int} {x3 x4 : ByteArray} {x5 : Int} {x6 : List ByteArray} {x7 : List Int} {x8 x9 x10 x11 : Int} {x12 : List Int} (h3 : x3.size ≤ 140737488351232) (h4 : x4.size ≤ 140737488351232) (hl : x6.length ≤ 1000000000000000) (hv : x7.length ≤ 1000000000000000) (ht : Txt x6) (h5 : -9223372036854775808 ≤ x5 ∧ x5 ≤ 9223372036854775807) (h7 : I64 x7) (h12 : Bytes x12) (h : chkC x0 x1 x2 x3 x4 x5 x6 x7 x8 x9 x10 x11 x12 = 0) : ref24_Put x0 x1 x2 x3 x4 x5 x6 x7 x8 x9 x10 x11 x12 = some (encC x0 x1 x2 x3 x4 x5 x6 x7 x8 x9 x10 x11 x12, 0) := by
  have hk := kind_in h
  have ok := ok_all hk h
  have n3 := name_small ok.c3
  have n4 := name_small ok.c4
  have g0 := eU_len (hs x0 1) x1
  have g11 := eU_len (hs x0 1) x2
  have g1 := eU_len (hs x0 32) x8
  have g2 := eU_len (hs x0 64) x9
  have g3 := eU_len (hs x0 128) x10
  have g4 := eU_len (hs x0 256) x11
  have g5 := eB_len (hs x0 2) (bytesList x3)
  have g6 := eB_len (hs x0 4) (bytesList x4)
  have g7 := enc_length (zig x5)
  have g8 := eV_len ok.c6
  have g9 := eB_len (hs x0 512) x12
  have g10 := ok.c13
  have gd : ref24_word (strOf x12) (hs x0 512) = some (eB (hs x0 512) x12) := by
    have := refword_spec (f := hs x0 512) (s := strOf x12) (by rw [list_strOf h12]; intro _; omega)
    rw [list_strOf h12] at this; exact this
  rw [ref24_Put_eq, refCheck24_spec x0 x1 x2 x3 x4 x5 x6 x7 x8 x9 x10 x11 x12 h3 h4 hl hv ht, Option.bind_some, bne_no h, cond_false, wrap_u8, show x0 % 256 = x0 by omega]
  rw [has_a hk, Option.bind_some, refnum_spec (fun h => by have := (fromS_yes ok.c1).1 h; omega), Option.bind_some, Bool.cond_decide, if_pos (show _ ≤ room by simp only [ilen_eq, room_eq, List.length_append, List.length_cons, List.length_nil]; omega)]
  rw [Option.bind_some, refnum_spec (fun h => by have := (fromS_yes ok.c2).1 h; omega), Option.bind_some, Bool.cond_decide, if_pos (show _ ≤ room by simp only [ilen_eq, room_eq, List.length_append, List.length_cons, List.length_nil]; omega)]
  rw [has_i hk, Option.bind_some, refnum_spec (fromS_yes ok.c8).1, Option.bind_some, Bool.cond_decide, if_pos (show _ ≤ room by simp only [ilen_eq, room_eq, List.length_append, List.length_cons, List.length_nil]; omega)]
  rw [has_o hk, Option.bind_some, refnum_spec (fromS_yes ok.c9).1, Option.bind_some, Bool.cond_decide, if_pos (show _ ≤ room by simp only [ilen_eq, room_eq, List.length_append, List.length_cons, List.length_nil]; omega)]
  rw [has_c hk, Option.bind_some, refnum_spec (fromS_yes ok.c10).1, Option.bind_some, Bool.cond_decide, if_pos (show _ ≤ room by simp only [ilen_eq, room_eq, List.length_append, List.length_cons, List.length_nil]; omega)]
  rw [has_t hk, Option.bind_some, refnum_spec (fromS_yes ok.c11).1, Option.bind_some, Bool.cond_decide, if_pos (show _ ≤ room by simp only [ilen_eq, room_eq, List.length_append, List.length_cons, List.length_nil]; omega)]
  rw [has_n hk, Option.bind_some, refword_spec (fun _ => by omega), Option.bind_some, Bool.cond_decide, if_pos (show _ ≤ room by simp only [ilen_eq, room_eq, List.length_append, List.length_cons, List.length_nil]; omega)]
  rw [has_w hk, Option.bind_some, refword_spec (fun _ => by omega), Option.bind_some, Bool.cond_decide, if_pos (show _ ≤ room by simp only [ilen_eq, room_eq, List.length_append, List.length_cons, List.length_nil]; omega)]
  rw [has_k hk, Option.bind_some, has_v hk, has_d hk]
  unfold encC rest24
  cases ek : hs x0 8 with
  | true =>
    rw [cond_true, refInt_spec h5.1 h5.2, Option.bind_some, Bool.cond_decide, if_pos (show _ ≤ room by simp only [ilen_eq, room_eq, List.length_append, List.length_cons, List.length_nil]; omega), Option.bind_some]
    cases ev : hs x0 16 with
    | true =>
      rw [ev] at g8
      obtain ⟨q1, q2, q3⟩ := chkV_ok ((varsS_yes ok.c6).1 ev)
      have g8' : (encV x6 x7).length ≤ 4000 := g8
      rw [cond_true, ref09_bytes (by omega) q1 (goodV_name q3) h7, Option.bind_some, Bool.cond_decide, if_pos (show _ ≤ room by simp only [ilen_eq, room_eq, List.length_append, List.length_cons, List.length_nil]; omega), Option.bind_some, gd, Option.bind_some, Bool.cond_decide, if_pos (show _ ≤ room by simp only [ilen_eq, room_eq, List.length_append, List.length_cons, List.length_nil]; omega)]
      simp only [List.append_assoc, List.singleton_append, List.cons_append, List.nil_append]; rfl
    | false =>
      rw [cond_false, Option.bind_some, gd, Option.bind_some, Bool.cond_decide, if_pos (show _ ≤ room by simp only [ilen_eq, room_eq, List.length_append, List.length_cons, List.length_nil]; omega)]
      simp only [List.append_assoc, List.singleton_append, List.cons_append, List.nil_append]; rfl
  | false =>
    rw [cond_false, Option.bind_some]
    cases ev : hs x0 16 with
    | true =>
      rw [ev] at g8
      obtain ⟨q1, q2, q3⟩ := chkV_ok ((varsS_yes ok.c6).1 ev)
      have g8' : (encV x6 x7).length ≤ 4000 := g8
      rw [cond_true, ref09_bytes (by omega) q1 (goodV_name q3) h7, Option.bind_some, Bool.cond_decide, if_pos (show _ ≤ room by simp only [ilen_eq, room_eq, List.length_append, List.length_cons, List.length_nil]; omega), Option.bind_some, gd, Option.bind_some, Bool.cond_decide, if_pos (show _ ≤ room by simp only [ilen_eq, room_eq, List.length_append, List.length_cons, List.length_nil]; omega)]
      simp only [List.append_assoc, List.singleton_append, List.cons_append, List.nil_append]; rfl
    | false =>
      rw [cond_false, Option.bind_some, gd, Option.bind_some, Bool.cond_decide, if_pos (show _ ≤ room by simp only [ilen_eq, room_eq, List.length_append, List.length_cons, List.length_nil]; omega)]
      simp only [List.append_assoc, List.singleton_append, List.cons_append, List.nil_append]; rfl
theorem refPut_no {x0 x1 x2 : Int} {x3 x4 : ByteArray} {x5 : Int} {x6 : List ByteArray} {x7 : List Int} {x8 x9 x10 x11 : Int} {x12 : List Int} (h3 : x3.size ≤ 140737488351232) (h4 : x4.size ≤ 140737488351232) (hl : x6.length ≤ 1000000000000000) (hv : x7.length ≤ 1000000000000000) (ht : Txt x6) (h : chkC x0 x1 x2 x3 x4 x5 x6 x7 x8 x9 x10 x11 x12 ≠ 0) : ref24_Put x0 x1 x2 x3 x4 x5 x6 x7 x8 x9 x10 x11 x12 = some ([], chkC x0 x1 x2 x3 x4 x5 x6 x7 x8 x9 x10 x11 x12) := by
  rw [ref24_Put_eq, refCheck24_spec x0 x1 x2 x3 x4 x5 x6 x7 x8 x9 x10 x11 x12 h3 h4 hl hv ht, Option.bind_some, bne_yes h, cond_true]
end Go.Proofs.YtdbenenonfldkaaDoor.PE

