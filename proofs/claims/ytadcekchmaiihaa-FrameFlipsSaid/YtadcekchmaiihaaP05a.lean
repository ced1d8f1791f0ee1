/- Sums; numbers as four bytes; a record behind bytes; the records that bytes begin with. -/
import Derived.Test.YtadcekchmaiihaaX05
import Derived.Test.YtadcekchmaiihaaELib
import Derived.Test.YtadcekchmaiihaaP05m
namespace Go.Proofs.Ytadcekchmaiihaa.PE
set_option linter.unusedVariables false
open Go Go.RowKit Go.Proofs.Ytadcekchmaiihaa.Crc
theorem bits_xor (k : IntKind) (x y : Int) : k.wrap ↑(BitVec.ofInt k.bits x ^^^ BitVec.ofInt k.bits y).toNat = Go.bits .xor k x y := rfl
theorem bits_and (k : IntKind) (x y : Int) : k.wrap ↑(BitVec.ofInt k.bits x &&& BitVec.ofInt k.bits y).toNat = Go.bits .and k x y := rfl
theorem bits_or (k : IntKind) (x y : Int) : k.wrap ↑(BitVec.ofInt k.bits x ||| BitVec.ofInt k.bits y).toNat = Go.bits .or k x y := rfl
theorem xor_nat (k : IntKind) (j : Nat) (hj : j ≤ k.bits) (hk : ∀ n : Int, 0 ≤ n → n < 2 ^ j → k.wrap n = n) (a b : Nat) (ha : a < 2 ^ j) (hb : b < 2 ^ j) :
    bits .xor k a b = ((a ^^^ b : Nat) : Int) := by
  have hp : 2 ^ j ≤ 2 ^ k.bits := Nat.pow_le_pow_right (by decide) hj
  have ha' : a % 2 ^ k.bits = a := Nat.mod_eq_of_lt (Nat.lt_of_lt_of_le ha hp)
  have hb' : b % 2 ^ k.bits = b := Nat.mod_eq_of_lt (Nat.lt_of_lt_of_le hb hp)
  have cast : ∀ n : Nat, n < 2 ^ j → ((n : Nat) : Int) < 2 ^ j := fun n h => by exact_mod_cast h
  simp only [bits, BitVec.ofInt_natCast, BitVec.toNat_xor, BitVec.toNat_ofNat, ha', hb']
  exact hk _ (Int.natCast_nonneg _) (cast _ (Nat.xor_lt_two_pow ha hb))
theorem bx32 {a b : Nat} (ha : a < 4294967296) (hb : b < 4294967296) : Go.bits .xor .u32 (a : Int) (b : Int) = ((a ^^^ b : Nat) : Int) :=
  xor_nat .u32 32 (by decide) (fun n h0 h1 => by rw [IntKind.wrap_u32]; omega) a b ha hb
theorem bx8 {a b : Nat} (ha : a < 256) (hb : b < 256) : Go.bits .xor .u8 (a : Int) (b : Int) = ((a ^^^ b : Nat) : Int) :=
  xor_nat .u8 8 (by decide) (fun n h0 h1 => by rw [IntKind.wrap_u8]; omega) a b ha hb
theorem ba32 {a : Nat} (ha : a < 4294967296) : Go.bits .and .u32 (a : Int) 1 = ((a % 2 : Nat) : Int) := by
  have := bits_mask .u32 32 (by decide) (fun n h0 h1 => by rw [IntKind.wrap_u32]; omega) 1 (by decide) (a : Int) (by omega) (by omega)
  simpa using this
theorem half_u32 (s : Nat) : (s : Int).fdiv (2 ^ min (Int.toNat 1) IntKind.u32.bits) = ((s / 2 : Nat) : Int) := by
  rw [show ((2 : Int) ^ min (Int.toNat 1) IntKind.u32.bits) = 2 from rfl, Int.fdiv_eq_ediv_of_nonneg _ (by omega)]; omega
theorem upd_l2 (d : Nat) : ∀ (s : Nat) (b : List Int) (n i : Int), s < 4294967296 → d ≤ 8 →
    crc_Update_l2 (s : Int) b n i (8 - (d : Int)) = crc_Update_l0 ((stn d s : Nat) : Int) b n (IntKind.i64.wrap (i + 1)) := by
  induction d with
  | zero =>
    intro s b n i _ _
    rw [crc_Update_l2_eq]
    simp -implicitDefEqProofs only [Bool.cond_decide]
    rw [if_neg (by omega)]; rfl
  | succ d ih =>
    intro s b n i hs hd
    have h1 := ih (st s) b n i (st_lt hs) (by omega)
    have e : IntKind.i64.wrap (8 - ((d + 1 : Nat) : Int) + 1) = 8 - (d : Int) := by rw [wrap_i64 (by omega) (by omega)]; omega
    rw [crc_Update_l2_eq, bits_and, bits_xor, ba32 hs, e, half_u32, stn, ← h1, show (3988292384 : Int) = ((P : Nat) : Int) from rfl, bx32 (by omega) (by decide)]
    simp -implicitDefEqProofs only [Bool.cond_decide]
    rw [if_pos (by omega)]
    unfold st
    by_cases hp : s % 2 = 1
    · rw [beq_yes (by omega), cond_true, if_pos hp]
    · rw [beq_no (by omega), cond_false, if_neg hp]
theorem upd_l0 (d : Nat) : ∀ (s : Nat) (b : List Int) (i : Nat), s < 4294967296 → Bytes b → b.length = i + d → b.length ≤ 140737488351232 →
    crc_Update_l0 (s : Int) b (b.length : Int) (i : Int) = some ((M ^^^ run s (b.drop i) : Nat) : Int) := by
  induction d with
  | zero =>
    intro s b i hs hb hl _
    rw [crc_Update_l0_eq, Bool.cond_decide, if_neg (by omega), List.drop_eq_nil_of_le (by omega), bits_xor, show (bif IntKind.u32.signed then (-1 : Int) else IntKind.u32.max) = ((M : Nat) : Int) by rfl, bx32 (by decide) hs, run_nil]
  | succ d ih =>
    intro s b i hs hb hl hm
    have hlt : i < b.length := by omega
    have hx := hb _ (List.getElem_mem hlt)
    have ec : IntKind.u32.wrap b[i] = ((b[i].toNat : Nat) : Int) := by rw [wrap_u32]; omega
    have hxs : s ^^^ b[i].toNat < 4294967296 := xor_lt hs (by omega)
    rw [crc_Update_l0_eq, Bool.cond_decide, if_pos (by omega), Bool.cond_decide, if_pos (by omega), Int.toNat_natCast, List.getElem?_eq_getElem hlt, Option.bind_some, bits_xor, ec, bx32 hs (by omega)]
    have h2 := upd_l2 8 (s ^^^ b[i].toNat) b (b.length : Int) (i : Int) hxs (by omega)
    rw [show (8 : Int) - ((8 : Nat) : Int) = 0 by rfl] at h2
    rw [h2, wrap_succ (by omega), ih _ b (i + 1) (stn_lt 8 hxs) hb (by omega) hm, List.drop_eq_getElem_cons hlt, run_cons]
    rfl
theorem upd_spec {s : Nat} {b : List Int} (hs : s < 4294967296) (hb : Bytes b) (hm : b.length ≤ 140737488351232) :
    crc_Update (s : Int) b = some ((M ^^^ run (M ^^^ s) b : Nat) : Int) := by
  have := upd_l0 b.length (M ^^^ s) b 0 (xor_lt (by decide) hs) hb (by omega) hm
  rw [crc_Update_eq, bits_xor, show (bif IntKind.u32.signed then (-1 : Int) else IntKind.u32.max) = ((M : Nat) : Int) by rfl, bx32 (by decide) hs, ilen_eq]
  exact this
theorem sum_spec {b : List Int} (hb : Bytes b) (hm : b.length ≤ 140737488351232) : crc_Sum b = some ((sumv b : Nat) : Int) := by
  have := upd_spec (s := 0) (by decide) hb hm
  rw [Nat.xor_zero] at this
  rw [crc_Sum_eq, show (0 : Int) = ((0 : Nat) : Int) by rfl, this]; rfl
end Go.Proofs.Ytadcekchmaiihaa.PE
