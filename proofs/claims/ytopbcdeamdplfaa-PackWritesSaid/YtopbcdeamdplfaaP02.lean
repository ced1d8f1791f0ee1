/- Numbers and texts as bytes: the law that what is written is what the document says. -/
import Derived.Test.YtopbcdeamdplfaaNameP
import Derived.Test.YtopbcdeamdplfaaPackP
namespace Go.Proofs.Ytopbcdeamdplfaa.PE
set_option linter.unusedVariables false
open Go Go.RowKit Go.Proofs.Ytopbcdeamdplfaa.Pack
theorem xor_ones {n : Nat} (h : n < 18446744073709551616) : Go.bits .xor .u64 (n : Int) 18446744073709551615 = ((18446744073709551615 - n : Nat) : Int) := by
  show IntKind.u64.wrap (((BitVec.ofInt 64 (n : Int) ^^^ BitVec.ofInt 64 18446744073709551615).toNat : Nat) : Int) = _
  have e2 : BitVec.ofInt 64 18446744073709551615 = BitVec.allOnes 64 := by decide
  rw [e2, BitVec.xor_allOnes, BitVec.toNat_not, BitVec.ofInt_natCast, BitVec.toNat_ofNat, Nat.mod_eq_of_lt (show n < 2 ^ 64 from h)]
  exact wrap_u64 (by omega) (by omega)
theorem xor_zero {n : Nat} (h : n < 18446744073709551616) : Go.bits .xor .u64 (n : Int) 0 = (n : Int) := by
  show IntKind.u64.wrap (((BitVec.ofInt 64 (n : Int) ^^^ BitVec.ofInt 64 0).toNat : Nat) : Int) = _
  have e2 : BitVec.ofInt 64 0 = 0#64 := by decide
  rw [e2, BitVec.xor_zero, BitVec.ofInt_natCast, BitVec.toNat_ofNat, Nat.mod_eq_of_lt (show n < 2 ^ 64 from h)]
  exact wrap_u64 (by omega) (by omega)
theorem zigzag {m : Int} (h0 : -9223372036854775808 ≤ m) (h1 : m ≤ 9223372036854775807) :
    Go.bits .xor .u64 (IntKind.u64.wrap ((IntKind.u64.wrap m) * 2)) (IntKind.u64.wrap (m / 9223372036854775808)) = ((zig m : Nat) : Int) := by
  by_cases h : 0 ≤ m
  · rw [show m / 9223372036854775808 = 0 by omega, wrap_u64 (x := 0) (by omega) (by omega), wrap_u64 (x := m) h (by omega), wrap_u64 (by omega) (by omega), show m * 2 = (((2 * m).toNat : Nat) : Int) by omega, xor_zero (by omega)]
    unfold zig; rw [if_pos h]
  · rw [show m / 9223372036854775808 = -1 by omega, wrap_u64' (x := -1), wrap_u64' (x := m), wrap_u64', show (-1 : Int) % 18446744073709551616 = 18446744073709551615 from rfl, show m % 18446744073709551616 * 2 % 18446744073709551616 = (((18446744073709551616 + 2 * m).toNat : Nat) : Int) by omega, xor_ones (by omega)]
    unfold zig; rw [if_neg h]; omega
theorem int_spec {m : Int} {x0 : List Int} (h0 : -9223372036854775808 ≤ m) (h1 : m ≤ 9223372036854775807) (hl : x0.length ≤ 140737488351000) : pack_Int x0 m = some (x0 ++ enc (zig m)) := by
  rw [pack_Int_eq, bits_xor, show ((2 : Int) ^ min (Int.toNat 1) IntKind.u64.bits) = 2 from rfl, show ((2 : Int) ^ min (Int.toNat 63) IntKind.i64.bits) = 9223372036854775808 from rfl, Int.fdiv_eq_ediv_of_nonneg _ (by omega), zigzag h0 h1, uint_spec (zig_lt h0 h1) hl]
  rfl
theorem refUint_l0 : ∀ (f n : Nat) (x0 : List Int), n < 128 ^ (f + 1) → n < 18446744073709551616 → x0.length + f < 140737488351200 → ref02_Uint_l0 (n : Int) x0 = some (x0 ++ encF f n) := by
  intro f
  induction f with
  | zero =>
    intro n x0 hn hn64 hl
    have : n < 128 := by simpa using hn
    rw [ref02_Uint_l0_eq]
    simp -implicitDefEqProofs only [Bool.cond_decide]
    rw [if_neg (by omega), if_pos (show _ ≤ room by simp only [ilen_eq, List.length_cons, List.length_nil, room_eq]; omega), encF, wrap_u8, show (n : Int) % 256 = n by omega]
  | succ f ih =>
    intro n x0 hn hn64 hl
    rw [ref02_Uint_l0_eq, encF]
    simp -implicitDefEqProofs only [Bool.cond_decide]
    by_cases h : n < 128
    · rw [if_neg (by omega), if_pos (show _ ≤ room by simp only [ilen_eq, List.length_cons, List.length_nil, room_eq]; omega), if_pos h, wrap_u8, show (n : Int) % 256 = n by omega]
    · rw [if_pos (by omega), if_pos (show _ ≤ room by simp only [ilen_eq, List.length_cons, List.length_nil, room_eq]; omega), if_neg h]
      rw [Int.tmod_eq_emod_of_nonneg (by omega), Int.tdiv_eq_ediv_of_nonneg (by omega), wrap_u64 (x := 128 + (n : Int) % 128) (by omega) (by omega), wrap_u8, show (128 + (n : Int) % 128) % 256 = ((n % 128 + 128 : Nat) : Int) by omega, wrap_u64 (by omega) (by omega), show (n : Int) / 128 = ((n / 128 : Nat) : Int) by omega, ih (n / 128) _ (by rw [Nat.pow_succ] at hn; exact Nat.div_lt_of_lt_mul (by rw [Nat.mul_comm]; exact hn)) (by omega) (by simp only [List.length_append, List.length_cons, List.length_nil]; omega)]
      rw [List.append_assoc, List.singleton_append]
theorem refUint_spec {n : Nat} (hn : n < 18446744073709551616) : ref02_Uint (n : Int) = some (enc n) := by
  rw [ref02_Uint_eq]
  exact refUint_l0 9 n [] (Nat.lt_of_lt_of_le hn (by decide)) hn (by simp)
theorem refInt_spec {m : Int} (h0 : -9223372036854775808 ≤ m) (h1 : m ≤ 9223372036854775807) : ref02_Int m = some (enc (zig m)) := by
  rw [ref02_Int_eq]
  simp -implicitDefEqProofs only [Bool.cond_decide]
  unfold zig
  by_cases h : m ≥ 0
  · rw [if_pos h, if_pos h, wrap_u64 (x := m) h (by omega), wrap_u64 (by omega) (by omega), show m * 2 = (((2 * m).toNat : Nat) : Int) by omega, refUint_spec (by omega)]
    rfl
  · rw [if_neg h, if_neg h, wrap_i64 (x := m + 1) (by omega) (by omega), wrap_i64 (by omega) (by omega), wrap_u64 (x := 0 - (m + 1)) (by omega) (by omega), wrap_u64 (x := (0 - (m + 1)) * 2) (by omega) (by omega), wrap_u64 (by omega) (by omega), show (0 - (m + 1)) * 2 + 1 = (((-2 * m - 1).toNat : Nat) : Int) by omega, refUint_spec (by omega)]
    rfl
theorem refBytes_spec {s : List Int} (hs : s.length ≤ 50000) : ref02_Bytes s = some (enc s.length ++ s) := by
  rw [ref02_Bytes_eq, ilen_eq, wrap_u64 (by omega) (by omega), refUint_spec (by omega), Option.bind_some]
  have := enc_length s.length
  rw [Bool.cond_decide, if_pos (show _ ≤ room by simp only [ilen_eq, room_eq]; omega)]
theorem own_spec {b : List Int} (hb : b.length ≤ 2000) : law02_own b = some b := by
  rw [law02_own_eq, Bool.cond_decide, if_pos (show _ ≤ room by simp only [ilen_eq, room_eq]; omega)]
  rfl
theorem same_self (a : List Int) : ref02_Same a a = some true := by rw [ref02_Same_eq]; simp
theorem ba1' (v : Int) : Go.bits .and .u64 v 1 = Go.bits .and .u64 v 1 := rfl
theorem works02 : law02_works = some true := by
  have u1 := uint_spec (n := 300) (x0 := [7]) (by omega) (by simp)
  rw [show ((300 : Nat) : Int) = 300 from rfl, show [7] ++ enc 300 = [7, 172, 2] by decide +kernel] at u1
  have u2 := int_spec (m := -2) (x0 := [7, 172, 2]) (by omega) (by omega) (by simp)
  rw [show [7, 172, 2] ++ enc (zig (-2)) = [7, 172, 2, 3] by decide +kernel] at u2
  have r1 := readUint_spec (b := [172, 2, 3]) (by intro x hx; simp at hx; omega) (by simp)
  rw [show whole (rdu 0 [172, 2, 3]) = (300, [3], 0) by decide +kernel] at r1
  have r2 := readUint_spec (b := [3]) (by intro x hx; simp at hx; omega) (by simp)
  rw [show whole (rdu 0 [3]) = (3, [], 0) by decide +kernel] at r2
  have r3 : pack_ReadInt [3] = some (-2, [], 0) := by rw [pack_ReadInt_eq, r2]; decide +kernel
  have r4 := readBytes_spec (b := [2, 5]) (by intro x hx; simp at hx; omega) (by simp)
  rw [show rdb [2, 5] = ([], [], 5) by decide +kernel] at r4
  have n1 := name_spec (s := { data := #[97, 49] }) (by decide)
  rw [show nameS { data := #[97, 49] } = true by decide +kernel] at n1
  have n2 := name_spec (s := { data := #[49, 97] }) (by decide)
  rw [show nameS { data := #[49, 97] } = false by decide +kernel] at n2
  rw [law02_works_eq, u1, Option.bind_some, u2, Option.bind_some, n1, n2, r4]
  have e1 : (ilen [(7 : Int), 172, 2, 3] != 4) = false := by decide +kernel
  have e2 : decide (1 ≤ ilen [(7 : Int), 172, 2, 3]) = true := by decide +kernel
  have e3 : decide (ilen [(7 : Int), 172, 2, 3] ≤ ilen [(7 : Int), 172, 2, 3]) = true := by decide +kernel
  have e4 : (Int.toNat 1 + ((ilen [(7 : Int), 172, 2, 3]).toNat - Int.toNat 1)).ble [(7 : Int), 172, 2, 3].length = true := by decide +kernel
  rw [e1, cond_false, e2, cond_true, e3, cond_true, e4, cond_true]
  refine Eq.trans (congrArg (fun x => Option.bind x _) r1) ?_
  simp -implicitDefEqProofs only [Option.bind_some, r3]
  decide +kernel
theorem packWrites_true {b s : List Int} {n : Nat} {m : Int} {name : ByteArray} (hn : n < 18446744073709551616) (h0 : -9223372036854775808 ≤ m) (h1 : m ≤ 9223372036854775807) (hname : name.size ≤ 140737488351232) : law02_PackWrites b n m s name = some true := by
  rw [law02_PackWrites_eq, works02]
  simp -implicitDefEqProofs only [Bool.cond_decide]
  by_cases k1 : ilen b > 2000
  · rw [if_pos k1]; rfl
  rw [if_neg k1]
  by_cases k2 : ilen s > 2000
  · rw [if_pos k2]; rfl
  rw [if_neg k2]
  rw [ilen_eq] at k1 k2
  have e1 := enc_length n
  have e2 := enc_length (zig m)
  have e3 := enc_length s.length
  rw [refUint_spec hn, refInt_spec h0 h1, refBytes_spec (by omega), own_spec (by omega), Option.bind_some, if_pos (show _ ≤ room by simp only [ilen_eq, room_eq]; omega)]
  simp -implicitDefEqProofs only [Option.bind_some, List.nil_append]
  rw [if_pos (show _ ≤ room by simp only [ilen_eq, room_eq]; omega), if_pos (show _ ≤ room by simp only [ilen_eq, room_eq]; omega), if_pos (show _ ≤ room by simp only [ilen_eq, room_eq]; omega), if_pos (show _ ≤ room by simp only [ilen_eq, room_eq]; omega), if_pos (show _ ≤ room by simp only [ilen_eq, List.length_append, room_eq]; omega), uint_spec hn (by omega), int_spec h0 h1 (by omega), bytes_spec (by omega) (by omega), name_spec hname, refName_spec hname]
  simp -implicitDefEqProofs only [Option.bind_some, List.append_assoc, same_self, cond_true, beq_self_eq_true]
theorem packWrites_int {b s : List Int} {n : Int} {m : Int} {name : ByteArray} (hn : 0 ≤ n ∧ n ≤ 18446744073709551615) (hm : -9223372036854775808 ≤ m ∧ m ≤ 9223372036854775807) (hname : name.size ≤ 140737488351232) : law02_PackWrites b n m s name = some true := by
  obtain ⟨k, rfl⟩ : ∃ k : Nat, n = k := ⟨n.toNat, by omega⟩
  exact packWrites_true (by omega) hm.1 hm.2 hname
end Go.Proofs.Ytopbcdeamdplfaa.PE
