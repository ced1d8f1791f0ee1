/- The chapter's own sum: long division. -/
import Derived.Test.YtpoblfpjjlplbaaP17a
namespace Go.Proofs.Ytpoblfpjjlplbaa.PE
set_option linter.unusedVariables false
open Go Go.RowKit Go.Proofs.Ytpoblfpjjlplbaa.Crc
/-- A text's first n bits. -/
def mlist (b : List Int) (n : Nat) : List Int := (List.range n).map fun i => ((mbit b i : Nat) : Int)
theorem mlist_length (b : List Int) (n : Nat) : (mlist b n).length = n := by simp [mlist]
theorem mlist_succ (b : List Int) (n : Nat) : mlist b (n + 1) = mlist b n ++ [((mbit b n : Nat) : Int)] := by simp [mlist, List.range_succ]
theorem mlist_at (b : List Int) (n j : Nat) (h : j < n) : (mlist b n)[j]? = some ((mbit b j : Nat) : Int) := by
  simp [mlist, h]
theorem mbit_zero (b : List Int) (i : Nat) (h : 8 * b.length ≤ i) : mbit b i = 0 := by
  have : b.length ≤ i / 8 := by omega
  simp [mbit, List.getD_eq_getElem?_getD, List.getElem?_eq_none this]
theorem ba8 {a : Nat} (ha : a < 256) : Go.bits .and .u8 (a : Int) 1 = ((a % 2 : Nat) : Int) := by
  have := bits_mask .u8 8 (by decide) wraps8 1 (by decide) (a : Int) (by omega) (by omega)
  simpa using this
theorem bits_step (b : List Int) (hb : Bytes b) (j i : Nat) (hj : j < b.length) (hi : i < 8) :
    Go.bits .and .u8 (Int.fdiv b[j] (2 ^ min (Int.toNat (i : Int)) IntKind.u8.bits)) 1 = ((mbit b (8 * j + i) : Nat) : Int) := by
  have hx := hb _ (List.getElem_mem hj)
  have e : Int.fdiv b[j] (2 ^ min (Int.toNat (i : Int)) IntKind.u8.bits) = ((b[j].toNat / 2 ^ i : Nat) : Int) := by
    rw [Int.toNat_natCast, show min i IntKind.u8.bits = i by simp [IntKind.bits]; omega]
    have : b[j] = ((b[j].toNat : Nat) : Int) := by omega
    conv => lhs; rw [this]
    rw [Int.fdiv_eq_ediv_of_nonneg _ (by exact_mod_cast Nat.zero_le _), Int.natCast_ediv]; simp
  rw [e, ba8 (Nat.lt_of_le_of_lt (Nat.div_le_self _ _) (by omega)), mbit, show (8 * j + i) / 8 = j by omega, show (8 * j + i) % 8 = i by omega]
  simp [List.getD_eq_getElem?_getD, List.getElem?_eq_getElem hj]
theorem bits_l2 (d : Nat) : ∀ (b : List Int) (j i : Nat), Bytes b → j < b.length → i + d = 8 → b.length ≤ 1000000000000 →
    ref01_bits_l2 b (j : Int) (i : Int) (mlist b (8 * j + i)) = ref01_bits_l0 b ((j + 1 : Nat) : Int) (mlist b (8 * (j + 1))) := by
  induction d with
  | zero =>
    intro b j i _ hj hi hm
    rw [ref01_bits_l2_eq, Bool.cond_decide, if_neg (by omega), wrap_succ (by omega), show 8 * j + i = 8 * (j + 1) by omega]
  | succ d ih =>
    intro b j i hb hj hi hm
    rw [ref01_bits_l2_eq, Bool.cond_decide, if_pos (by omega), Bool.cond_decide, if_pos (by omega), Int.toNat_natCast, List.getElem?_eq_getElem hj, Option.bind_some, Bool.cond_decide, if_neg (by omega), bits_and,
      Bool.cond_decide, if_pos (show _ ≤ room by simp only [ilen_eq, mlist_length, List.length_cons, List.length_nil, room_eq]; omega)]
    have e := bits_step b hb j i hj (by omega)
    rw [e, ← mlist_succ, wrap_succ (by omega), show 8 * j + i + 1 = 8 * j + (i + 1) by omega, ih b j (i + 1) hb hj (by omega) hm]
theorem bits_l0 (d : Nat) : ∀ (b : List Int) (j : Nat), Bytes b → j + d = b.length → b.length ≤ 1000000000000 →
    ref01_bits_l0 b (j : Int) (mlist b (8 * j)) = some (mlist b (8 * b.length)) := by
  induction d with
  | zero => intro b j _ hj hm; rw [ref01_bits_l0_eq, ilen_eq, Bool.cond_decide, if_neg (by omega), show j = b.length by omega]
  | succ d ih =>
    intro b j hb hj hm
    have := bits_l2 8 b j 0 hb (by omega) (by omega) hm
    rw [ref01_bits_l0_eq, ilen_eq, Bool.cond_decide, if_pos (by omega)]
    rw [Nat.add_zero] at this
    exact this.trans (ih b (j + 1) hb (by omega) hm)
theorem bits_spec {b : List Int} (hb : Bytes b) (hm : b.length ≤ 1000000000000) : ref01_bits b = some (mlist b (8 * b.length)) :=
  (ref01_bits_eq b).trans (bits_l0 b.length b 0 hb (by omega) hm)
theorem sum_l0 (d : Nat) : ∀ (b : List Int) (i : Nat), i + d = 32 → b.length ≤ 1000000000000 →
    ref01_Sum_l0 (i : Int) (mlist b (8 * b.length + i)) = ref01_Sum_l2 0 (mlist b (8 * b.length + 32)) := by
  induction d with
  | zero => intro b i hi hm; rw [ref01_Sum_l0_eq, Bool.cond_decide, if_neg (by omega), show i = 32 by omega]
  | succ d ih =>
    intro b i hi hm
    have h := ih b (i + 1) (by omega) hm
    rw [← Nat.add_assoc, mlist_succ, mbit_zero b _ (by omega)] at h
    rw [ref01_Sum_l0_eq, Bool.cond_decide, if_pos (by omega), Bool.cond_decide, if_pos (show _ ≤ room by simp only [ilen_eq, mlist_length, List.length_cons, List.length_nil, room_eq]; omega), wrap_succ (by omega)]
    exact h
/-- What stands at place j when i bits are done. -/
def cell (b : List Int) (i j : Nat) : Nat := if j < i + 32 then ((brun b i).testBit (j - i)).toNat ^^^ mbit b j else mbit b j
theorem toNat_lt (c : Bool) : c.toNat < 2 := by cases c <;> decide
theorem cell_lt (b : List Int) (i j : Nat) : cell b i j < 2 := by
  unfold cell
  split
  · exact Nat.xor_lt_two_pow (n := 1) (toNat_lt _) (mbit_lt b j)
  · exact mbit_lt b j
structure SInv (b l : List Int) (i : Nat) : Prop where
  len : l.length = 8 * b.length + 32
  at_ : ∀ j : Nat, i ≤ j → j < 8 * b.length + 32 → l[j]? = some ((cell b i j : Nat) : Int)
theorem at_set {l : List Int} {i j : Nat} (v : Int) (h : i < l.length) : (l.set i v)[j]? = if j = i then some v else l[j]? := by
  rw [List.getElem?_set]
  by_cases e : i = j
  · subst e; simp [h]
  · rw [if_neg e, if_neg (fun h => e h.symm)]
theorem M_bit (j : Nat) (h : j < 32) : M.testBit j = true := by
  have : ∀ j : Fin 32, M.testBit j.val = true := by decide
  exact this ⟨j, h⟩
theorem sum_l2 (d : Nat) : ∀ (b l : List Int) (i : Nat), i + d = 32 → b.length ≤ 1000000000000 → l.length = 8 * b.length + 32 →
    (∀ j : Nat, j < 8 * b.length + 32 → l[j]? = some (if j < i then 1 - ((mbit b j : Nat) : Int) else ((mbit b j : Nat) : Int))) →
    ∃ l', SInv b l' 0 ∧ ref01_Sum_l2 (i : Int) l = ref01_Sum_l4 4374732215 0 l' := by
  induction d with
  | zero =>
    intro b l i hi hm hl hv
    refine ⟨l, ⟨hl, fun j _ hj => ?_⟩, by rw [ref01_Sum_l2_eq, Bool.cond_decide, if_neg (by omega)]⟩
    rw [hv j hj, cell, show i = 32 by omega]
    have h2 := mbit_lt b j
    by_cases h : j < 32
    · rw [if_pos h, if_pos (by omega), brun, M_bit _ (by omega)]
      generalize mbit b j = m at h2
      have : m = 0 ∨ m = 1 := by omega
      rcases this with rfl | rfl <;> decide
    · rw [if_neg h, if_neg (by omega)]
  | succ d ih =>
    intro b l i hi hm hl hv
    have h2 := mbit_lt b i
    have e : IntKind.u8.wrap (1 - ((mbit b i : Nat) : Int)) = 1 - ((mbit b i : Nat) : Int) := by rw [wrap_u8]; omega
    have hv0 := hv i (by omega)
    rw [if_neg (by omega)] at hv0
    rw [ref01_Sum_l2_eq, ilen_eq, wrap_succ (by omega), Int.toNat_natCast, hv0, Option.bind_some, Option.bind_some, e]
    simp -implicitDefEqProofs only [Bool.cond_decide]
    rw [if_pos (by omega), if_pos (by omega), if_pos (by omega), if_pos (by omega), if_pos (by omega)]
    refine ih b _ (i + 1) (by omega) hm (by rw [List.length_set]; exact hl) (fun j hj => ?_)
    rw [at_set _ (by omega), hv j hj]
    by_cases e1 : j = i
    · subst e1; rw [if_pos rfl, if_pos (by omega)]
    · rw [if_neg e1]
      by_cases e2 : j < i
      · rw [if_pos e2, if_pos (by omega)]
      · rw [if_neg e2, if_neg (by omega)]
/-- The divisor's bits, the highest first. -/
def coef (t : Nat) : Nat := 4374732215 / 2 ^ (32 - t) % 2
theorem coef_P (t : Nat) (h : t < 32) : coef (t + 1) = (P.testBit t).toNat := by
  have : ∀ t : Fin 32, coef (t.val + 1) = (P.testBit t.val).toNat := by decide
  exact this ⟨t, h⟩
theorem coef_zero : coef 0 = 1 := by decide
theorem coef_go (t : Nat) (h : t ≤ 32) : IntKind.u8.wrap (Go.bits .and .u64 (Int.fdiv 4374732215 (2 ^ min (Int.toNat (32 - (t : Int))) IntKind.u64.bits)) 1) = ((coef t : Nat) : Int) := by
  have : ∀ t : Fin 33, IntKind.u8.wrap (Go.bits .and .u64 (Int.fdiv 4374732215 (2 ^ min (Int.toNat (32 - (t.val : Int))) IntKind.u64.bits)) 1) = ((coef t.val : Nat) : Int) := by decide +kernel
  exact this ⟨t, by omega⟩
theorem sum_l6 (d : Nat) : ∀ (b l : List Int) (i t : Nat), t + d = 33 → b.length ≤ 1000000000000 → i + 32 < 8 * b.length + 32 → l.length = 8 * b.length + 32 →
    (∀ j : Nat, i ≤ j → j < 8 * b.length + 32 → l[j]? = some (if j < i + t then ((cell b i j ^^^ coef (j - i) : Nat) : Int) else ((cell b i j : Nat) : Int))) →
    ∃ l', l'.length = 8 * b.length + 32 ∧ (∀ j : Nat, i ≤ j → j < 8 * b.length + 32 → l'[j]? = some (if j < i + 33 then ((cell b i j ^^^ coef (j - i) : Nat) : Int) else ((cell b i j : Nat) : Int))) ∧
      ref01_Sum_l6 4374732215 (i : Int) (t : Int) l = ref01_Sum_l4 4374732215 ((i + 1 : Nat) : Int) l' := by
  induction d with
  | zero =>
    intro b l i t ht hm hi hl hv
    refine ⟨l, hl, ?_, ?_⟩
    · rw [show t = 33 by omega] at hv; exact hv
    · rw [ref01_Sum_l6_eq, Bool.cond_decide, if_neg (by omega), wrap_succ (by omega)]
  | succ d ih =>
    intro b l i t ht hm hi hl hv
    have e0 : IntKind.i64.wrap ((i : Int) + (t : Int)) = ((i + t : Nat) : Int) := by rw [wrap_i64 (by omega) (by omega)]; omega
    have e1 : IntKind.i64.wrap (32 - (t : Int)) = 32 - (t : Int) := wrap_i64 (by omega) (by omega)
    have c1 := cell_lt b i (i + t)
    have c2 : coef t < 2 := Nat.mod_lt _ (by decide)
    have e2 : Go.bits .xor .u8 ((cell b i (i + t) : Nat) : Int) (IntKind.u8.wrap (Go.bits .and .u64 (Int.fdiv 4374732215 (2 ^ min (Int.toNat (32 - (t : Int))) IntKind.u64.bits)) 1)) = ((cell b i (i + t) ^^^ coef t : Nat) : Int) := by
      rw [coef_go t (by omega), bx8 (by omega) (by omega)]
    have hv0 := hv (i + t) (by omega) (by omega)
    rw [if_neg (by omega)] at hv0
    rw [ref01_Sum_l6_eq, ilen_eq, e0, e1, Int.toNat_natCast, hv0, Option.bind_some, Option.bind_some, bits_and, bits_xor, e2, wrap_succ (by omega)]
    simp -implicitDefEqProofs only [Bool.cond_decide]
    rw [if_pos (by omega), if_pos (by omega), if_pos (by omega), if_neg (by omega), if_pos (by omega), if_pos (by omega)]
    refine ih b _ i (t + 1) (by omega) hm hi (by rw [List.length_set]; exact hl) (fun j hj hj2 => ?_)
    rw [at_set _ (by omega), hv j hj hj2]
    by_cases e3 : j = i + t
    · subst e3; rw [if_pos rfl, if_pos (by omega), show i + t - i = t by omega]
    · rw [if_neg e3]
      by_cases e4 : j < i + t
      · rw [if_pos e4, if_pos (by omega)]
      · rw [if_neg e4, if_neg (by omega)]
theorem bit_of (s : Nat) : (s.testBit 0).toNat = s % 2 := by rw [Nat.testBit_zero]; by_cases h : s % 2 = 1 <;> simp [h]; omega
theorem xor_toNat (a c : Bool) : (Bool.xor a c).toNat = a.toNat ^^^ c.toNat := by cases a <;> cases c <;> rfl
theorem half (s m : Nat) (h : m < 2) : (s ^^^ m) / 2 = s / 2 := by
  rw [Nat.xor_div_two, show m / 2 = 0 by omega, Nat.xor_zero]
theorem xor_mod2 (s m : Nat) : (s ^^^ m) % 2 = (s % 2) ^^^ (m % 2) := Nat.xor_mod_two_pow (n := 1)
/-- The next bit is nought: the register is shifted. -/
theorem cell_even (b : List Int) (i j : Nat) (h : cell b i i = 0) (hj : i + 1 ≤ j) : cell b (i + 1) j = cell b i j := by
  have hm := mbit_lt b i
  have hs : brun b (i + 1) = brun b i / 2 := by
    have h0 : (brun b i ^^^ mbit b i) % 2 = 0 := by
      rw [xor_mod2, Nat.mod_eq_of_lt hm]
      rw [cell, if_pos (by omega), Nat.sub_self, bit_of] at h
      exact h
    rw [brun, st, if_neg (by omega), half _ _ hm]
  have hlt := brun_lt b i
  rw [cell, cell, hs]
  by_cases h1 : j < i + 32
  · rw [if_pos h1, if_pos (by omega), show j - i = (j - (i + 1)) + 1 by omega, Nat.testBit_succ]
  · rw [if_neg h1]
    by_cases h2 : j < i + 1 + 32
    · rw [if_pos h2, show j - (i + 1) = 31 by omega, ← Nat.testBit_succ, Nat.testBit_lt_two_pow (i := 32) (x := brun b i) hlt]; simp
    · rw [if_neg h2]
/-- The next bit is one: the register is shifted, and the divisor taken away. -/
theorem cell_odd (b : List Int) (i j : Nat) (h : cell b i i = 1) (hj : i + 1 ≤ j) : cell b (i + 1) j = if j < i + 33 then cell b i j ^^^ coef (j - i) else cell b i j := by
  have hm := mbit_lt b i
  have hs : brun b (i + 1) = (brun b i / 2) ^^^ P := by
    have h0 : (brun b i ^^^ mbit b i) % 2 = 1 := by
      rw [xor_mod2, Nat.mod_eq_of_lt hm]
      rw [cell, if_pos (by omega), Nat.sub_self, bit_of] at h
      exact h
    rw [brun, st, if_pos h0, half _ _ hm]
  have hlt := brun_lt b i
  rw [cell, cell, hs]
  by_cases h1 : j < i + 32
  · rw [if_pos h1, if_pos (by omega), if_pos (by omega), show j - i = (j - (i + 1)) + 1 by omega, coef_P _ (by omega), Nat.testBit_xor, xor_toNat, ← Nat.testBit_succ]
    simp only [Nat.xor_assoc]
    rw [Nat.xor_comm (P.testBit _).toNat]
  · rw [if_neg h1]
    by_cases h2 : j < i + 33
    · rw [if_pos (by omega), if_pos h2, show j - i = 31 + 1 by omega, coef_P 31 (by decide), show j - (i + 1) = 31 by omega, Nat.testBit_xor, xor_toNat, ← Nat.testBit_succ, Nat.testBit_lt_two_pow (i := 31 + 1) (x := brun b i) hlt, Nat.xor_comm (mbit b j)]; simp
    · rw [if_neg (by omega), if_neg h2]
theorem sum_l4 (d : Nat) : ∀ (b l : List Int) (i : Nat), i + d = 8 * b.length → b.length ≤ 1000000000000 → SInv b l i →
    ∃ l', SInv b l' (8 * b.length) ∧ ref01_Sum_l4 4374732215 (i : Int) l = ref01_Sum_l8 0 0 l' := by
  induction d with
  | zero =>
    intro b l i hi hm hv
    have hlen := hv.len
    refine ⟨l, by rw [← show i = 8 * b.length by omega]; exact hv, ?_⟩
    rw [ref01_Sum_l4_eq, ilen_eq, wrap_i64 (x := (i : Int) + 32) (by omega) (by omega), Bool.cond_decide, if_neg (by omega)]
  | succ d ih =>
    intro b l i hi hm hv
    have hlen := hv.len
    have hr := hv.at_ i (Nat.le_refl _) (by omega)
    have hc := cell_lt b i i
    rw [ref01_Sum_l4_eq, ilen_eq, wrap_i64 (x := (i : Int) + 32) (by omega) (by omega), wrap_succ (by omega), Int.toNat_natCast, hr, Option.bind_some, Bool.cond_decide, if_pos (by omega), Bool.cond_decide, if_pos (by omega), Bool.cond_decide, if_pos (by omega)]
    by_cases h0 : cell b i i = 0
    · have hv' : SInv b l (i + 1) := ⟨hlen, fun j h1 h2 => by rw [hv.at_ j (by omega) h2, cell_even b i j h0 h1]⟩
      rw [beq_yes (by omega), cond_true]
      exact ih b l (i + 1) (by omega) hm hv'
    · obtain ⟨l1, hl1, hv1, e1⟩ := sum_l6 33 b l i 0 (by omega) hm (by omega) hlen (fun j h1 h2 => by rw [if_neg (by omega)]; exact hv.at_ j h1 h2)
      have hv' : SInv b l1 (i + 1) := ⟨hl1, fun j h1 h2 => by
        rw [hv1 j (by omega) h2, cell_odd b i j (by omega) h1]
        split <;> rfl⟩
      obtain ⟨l', h, e2⟩ := ih b l1 (i + 1) (by omega) hm hv'
      rw [beq_no (by omega), cond_false]
      exact ⟨l', h, e1.trans e2⟩
theorem bo32 {a b : Nat} (ha : a < 4294967296) (hb : b < 4294967296) : Go.bits .or .u32 (a : Int) (b : Int) = ((a ||| b : Nat) : Int) :=
  (bits_nat .u32 32 (by decide) (fun n h0 h1 => by rw [IntKind.wrap_u32]; omega) a b ha hb).2
theorem shl_one (t : Nat) (h : t < 32) : IntKind.u32.wrap (1 * 2 ^ min (Int.toNat (t : Int)) IntKind.u32.bits) = ((2 ^ t : Nat) : Int) := by
  have : ∀ t : Fin 32, IntKind.u32.wrap (1 * 2 ^ min (Int.toNat (t.val : Int)) IntKind.u32.bits) = ((2 ^ t.val : Nat) : Int) := by decide +kernel
  exact this ⟨t, h⟩
theorem sum_l8 (d : Nat) : ∀ (b l : List Int) (t : Nat), t + d = 32 → b.length ≤ 1000000000000 → SInv b l (8 * b.length) →
    ref01_Sum_l8 (((M ^^^ brun b (8 * b.length)) % 2 ^ t : Nat) : Int) (t : Int) l = some ((M ^^^ brun b (8 * b.length) : Nat) : Int) := by
  induction d with
  | zero =>
    intro b l t ht hm hv
    rw [ref01_Sum_l8_eq, Bool.cond_decide, if_neg (by omega), show t = 32 by omega, Nat.mod_eq_of_lt (xor_lt (by decide) (brun_lt b _))]
  | succ d ih =>
    intro b l t ht hm hv
    have hlen := hv.len
    have h := ih b l (t + 1) (by omega) hm hv
    have hr := hv.at_ (8 * b.length + t) (by omega) (by omega)
    rw [cell, if_pos (by omega), mbit_zero b _ (by omega), Nat.xor_zero, show 8 * b.length + t - 8 * b.length = t by omega] at hr
    have e0 : IntKind.i64.wrap (IntKind.i64.wrap ((l.length : Int) - 32) + (t : Int)) = ((8 * b.length + t : Nat) : Int) := by
      rw [wrap_i64 (x := (l.length : Int) - 32) (by omega) (by omega), wrap_i64 (by omega) (by omega)]; omega
    rw [ref01_Sum_l8_eq, ilen_eq, e0, Int.toNat_natCast, hr, Option.bind_some, wrap_succ (by omega), shl_one t (by omega), bits_or,
      Bool.cond_decide, if_pos (by omega), Bool.cond_decide, if_pos (by omega), Bool.cond_decide, if_pos (by omega), Bool.cond_decide, if_neg (by omega)]
    have hb : (M ^^^ brun b (8 * b.length)).testBit t = !(brun b (8 * b.length)).testBit t := by rw [Nat.testBit_xor, M_bit t (by omega), Bool.true_xor]
    have hp : (M ^^^ brun b (8 * b.length)) % 2 ^ (t + 1) = (M ^^^ brun b (8 * b.length)) % 2 ^ t + 2 ^ t * ((M ^^^ brun b (8 * b.length)).testBit t).toNat := by rw [Nat.toNat_testBit, Nat.mod_pow_succ]
    rw [hb] at hp
    have hlt : (M ^^^ brun b (8 * b.length)) % 2 ^ t < 2 ^ t := Nat.mod_lt _ (Nat.two_pow_pos t)
    have ht2 : 2 ^ t ≤ 2 ^ 31 := Nat.pow_le_pow_right (by decide) (by omega)
    cases hc : (brun b (8 * b.length)).testBit t with
    | true =>
      rw [hc] at hp
      rw [beq_no (by simp), cond_false]
      simp at hp
      rw [← hp]; exact h
    | false =>
      rw [hc] at hp
      rw [beq_yes (by simp), cond_true, bo32 (by omega) (by omega), Nat.or_comm]
      have e2 := Nat.two_pow_add_eq_or_of_lt hlt 1
      rw [Nat.mul_one] at e2
      rw [← e2]
      simp at hp
      rw [Nat.add_comm (2 ^ t), ← hp]; exact h
theorem refsum_spec {b : List Int} (hb : Bytes b) (hm : b.length ≤ 1000000000000) : ref01_Sum b = some ((sumv b : Nat) : Int) := by
  rw [ref01_Sum_eq, bits_spec hb hm, Option.bind_some]
  have e0 := sum_l0 32 b 0 (by omega) hm
  rw [Nat.add_zero] at e0
  have hl : (mlist b (8 * b.length + 32)).length = 8 * b.length + 32 := mlist_length _ _
  obtain ⟨l1, v1, e1⟩ := sum_l2 32 b _ 0 (by omega) hm hl (fun j hj => by rw [if_neg (by omega), mlist_at _ _ _ hj])
  obtain ⟨l2, v2, h⟩ := sum_l4 (8 * b.length) b l1 0 (by omega) hm v1
  have br : brun b (8 * b.length) = run M b := by rw [brun_run b hb _ (Nat.le_refl _), List.take_length]
  have e4 := sum_l8 32 b l2 0 (by omega) hm v2
  rw [Nat.pow_zero, Nat.mod_one, br] at e4
  exact e0.trans (e1.trans (h.trans e4))
end Go.Proofs.Ytpoblfpjjlplbaa.PE
