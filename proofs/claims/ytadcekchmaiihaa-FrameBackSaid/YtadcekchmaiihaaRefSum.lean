import Derived.Test.YtadcekchmaiihaaCrcOf
/- The chapter's own sum: long division. -/
namespace Go.Proofs.Ytadcekchmaiihaa.Pure
open Go Go.RowKit Go.Proofs.Ytadcekchmaiihaa.PA Go.Proofs.YtadcekchmaiihaaW.PrintWords Go.Proofs.YtadcekchmaiihaaW.PrintLast Go.Proofs.YtadcekchmaiihaaW.PrintMore Go.Proofs.Ytadcekchmaiihaa.Crc Go.Proofs.Ytadcekchmaiihaa.CrcOf
theorem upd' {k s : Nat} {b : List Int} (hs : s < 4294967296) (hb : Bytes b) (hm : b.length ≤ 140737488351232) (hk : 10 * b.length + 1 ≤ k) :
    crc_Update.f k (s : Int) b = some ((M ^^^ run (M ^^^ s) b : Nat) : Int) := by
  obtain ⟨k, rfl⟩ : ∃ m, k = m + 10 * b.length + 1 := ⟨k - (10 * b.length + 1), by omega⟩
  exact upd k s b hs hb hm
theorem sum' {k : Nat} {b : List Int} (hb : Bytes b) (hm : b.length ≤ 140737488351232) (hk : 10 * b.length + 1 ≤ k) :
    crc_Sum.f k b = some ((M ^^^ run M b : Nat) : Int) := by
  obtain ⟨k, rfl⟩ : ∃ m, k = m + 10 * b.length + 1 := ⟨k - (10 * b.length + 1), by omega⟩
  exact sum k b hb hm
theorem bytes_app {a b : List Int} (ha : Bytes a) (hb : Bytes b) : Bytes (a ++ b) := fun x hx => by
  rcases List.mem_append.mp hx with h | h
  · exact ha x h
  · exact hb x h

theorem u64w {i : Int} (h0 : 0 ≤ i) (h1 : i < 18446744073709551616) : IntKind.u64.wrap i = i := by
  simp only [IntKind.wrap, IntKind.bits, IntKind.signed]; simp; omega
theorem u64w_range (i : Int) : 0 ≤ IntKind.u64.wrap i ∧ IntKind.u64.wrap i < 18446744073709551616 := by
  simp only [IntKind.wrap, IntKind.bits, IntKind.signed]; simp; omega
theorem shr32 (y : Int) (i : Nat) (h : i < 4) : shr .u32 y (8 * (i : Int)) = y / 2 ^ (8 * i) := by
  unfold shr
  rw [show (8 * (i : Int)).toNat = 8 * i by omega, show min (8 * i) IntKind.u32.bits = 8 * i by simp [IntKind.bits]; omega]


/-- A text's first n bits. -/
def mlist (b : List Int) (n : Nat) : List Int := (List.range n).map fun i => ((mbit b i : Nat) : Int)
theorem mlist_length (b : List Int) (n : Nat) : (mlist b n).length = n := by simp [mlist]
theorem mlist_succ (b : List Int) (n : Nat) : mlist b (n + 1) = mlist b n ++ [((mbit b n : Nat) : Int)] := by simp [mlist, List.range_succ]
theorem mlist_rd (b : List Int) (n j : Nat) (h : j < n) : rd (mlist b n) (j : Int) = ((mbit b j : Nat) : Int) := by
  rw [rd_at (by rw [mlist_length]; exact h)]; simp [mlist]
theorem mbit_zero (b : List Int) (i : Nat) (h : 8 * b.length ≤ i) : mbit b i = 0 := by
  have : b.length ≤ i / 8 := by omega
  simp [mbit, List.getD_eq_getElem?_getD, List.getElem?_eq_none this]
theorem ba8 {a : Nat} (ha : a < 256) : Go.bits .and .u8 (a : Int) 1 = ((a % 2 : Nat) : Int) := by
  have := bits_mask .u8 8 (by decide) wraps_u8 1 (by decide) (a : Int) (by omega) (by omega)
  simpa using this
theorem bits_step (b : List Int) (hb : Bytes b) (j i : Nat) (hj : j < b.length) (hi : i < 8) : Go.bits .and .u8 (shr .u8 (rd b (j : Int)) (i : Int)) 1 = ((mbit b (8 * j + i) : Nat) : Int) := by
  have hx := hb _ (List.getElem_mem hj)
  have e : shr .u8 (rd b (j : Int)) (i : Int) = ((b[j].toNat / 2 ^ i : Nat) : Int) := by
    unfold shr
    rw [rd_at hj, Int.toNat_natCast, show min i IntKind.u8.bits = i by simp [IntKind.bits]; omega]
    have : b[j] = ((b[j].toNat : Nat) : Int) := by omega
    conv => lhs; rw [this]
    rw [Int.natCast_ediv]; simp
  rw [e, ba8 (Nat.lt_of_le_of_lt (Nat.div_le_self _ _) (by omega)), mbit, show (8 * j + i) / 8 = j by omega, show (8 * j + i) % 8 = i by omega]
  simp [List.getD_eq_getElem?_getD, List.getElem?_eq_getElem hj]
theorem bits_l1 (d : Nat) : ∀ (k : Nat) (b : List Int) (j i : Nat), Bytes b → j < b.length → i + d = 8 → b.length ≤ 2000 →
    funicularref01_bits.l1 (k + d + 1) b (mlist b (8 * j + i)) (j : Int) (i : Int) = funicularref01_bits.l0 k b (mlist b (8 * (j + 1))) ((j + 1 : Nat) : Int) := by
  induction d with
  | zero => intro k b j i _ hj hi hm; rw [funicularref01_bits.l1, if_neg (by omega), w64 (by omega) (by omega), show 8 * j + i = 8 * (j + 1) by omega]; rfl
  | succ d ih =>
    intro k b j i hb hj hi hm
    rw [show k + (d + 1) + 1 = (k + d + 1) + 1 by omega, funicularref01_bits.l1, if_pos (by omega), if_pos (by omega), if_pos (by omega), if_pos (by omega), if_pos (by rw [mlist_length]; omega),
      bits_step b hb j i hj (by omega), ← mlist_succ, w64 (by omega) (by omega), show ((i : Int) + 1) = ((i + 1 : Nat) : Int) by omega, show 8 * j + i + 1 = 8 * j + (i + 1) by omega, ih k b j (i + 1) hb hj (by omega) hm]
theorem bits_l0 (d : Nat) : ∀ (k : Nat) (b : List Int) (j : Nat), Bytes b → j + d = b.length → b.length ≤ 2000 →
    funicularref01_bits.l0 (k + 10 * d + 1) b (mlist b (8 * j)) (j : Int) = some (mlist b (8 * b.length)) := by
  induction d with
  | zero => intro k b j _ hj hm; rw [funicularref01_bits.l0, if_neg (by omega), show j = b.length by omega]
  | succ d ih =>
    intro k b j hb hj hm
    have := bits_l1 8 (k + 10 * d + 1) b j 0 hb (by omega) (by omega) hm
    rw [show k + 10 * (d + 1) + 1 = (k + 10 * d + 1 + 8 + 1) + 1 by omega, funicularref01_bits.l0, if_pos (by omega)]
    rw [Nat.add_zero] at this
    exact this.trans (ih k b (j + 1) hb (by omega) hm)
theorem bits_f {k : Nat} {b : List Int} (hb : Bytes b) (hm : b.length ≤ 2000) (hk : 10 * b.length + 1 ≤ k) : funicularref01_bits.f k b = some (mlist b (8 * b.length)) := by
  obtain ⟨k, rfl⟩ : ∃ m, k = m + 10 * b.length + 1 := ⟨k - (10 * b.length + 1), by omega⟩
  exact bits_l0 b.length k b 0 hb (by omega) hm
theorem sum_l0 (d : Nat) : ∀ (k : Nat) (b : List Int) (i : Nat), i + d = 32 → b.length ≤ 2000 →
    funicularref01_Sum.l0 (k + d + 1) (mlist b (8 * b.length + i)) (i : Int) = funicularref01_Sum.l1 k (mlist b (8 * b.length + 32)) 0 := by
  induction d with
  | zero => intro k b i hi hm; rw [funicularref01_Sum.l0, if_neg (by omega), show i = 32 by omega]
  | succ d ih =>
    intro k b i hi hm
    have h := ih k b (i + 1) (by omega) hm
    rw [← Nat.add_assoc, mlist_succ, mbit_zero b _ (by omega)] at h
    rw [show k + (d + 1) + 1 = (k + d + 1) + 1 by omega, funicularref01_Sum.l0, if_pos (by omega), if_pos (by rw [mlist_length]; omega), w64 (by omega) (by omega), show ((i : Int) + 1) = ((i + 1 : Nat) : Int) by omega]
    exact h

/-- What stands at place j when i bits are done. -/
def cell (b : List Int) (i j : Nat) : Nat := if j < i + 32 then ((brun b i).testBit (j - i)).toNat ^^^ mbit b j else mbit b j
theorem toNat_lt (c : Bool) : c.toNat < 2 := by cases c <;> decide
theorem cell_lt (b : List Int) (i j : Nat) : cell b i j < 2 := by
  unfold cell
  split
  · exact Nat.xor_lt_two_pow (n := 1) (toNat_lt _) (mbit_lt b j)
  · exact mbit_lt b j
structure Inv (b l : List Int) (i : Nat) : Prop where
  len : l.length = 8 * b.length + 32
  at_ : ∀ j, i ≤ j → j < 8 * b.length + 32 → rd l (j : Int) = ((cell b i j : Nat) : Int)
theorem rd_set {l : List Int} {i j : Nat} (v : Int) (h : i < l.length) : rd (l.set i v) (j : Int) = if j = i then v else rd l (j : Int) := by
  simp only [rd, Int.toNat_natCast, List.getD_eq_getElem?_getD, List.getElem?_set]
  by_cases e : i = j
  · subst e; simp [h]
  · rw [if_neg e, if_neg (fun h => e h.symm)]
theorem M_bit (j : Nat) (h : j < 32) : M.testBit j = true := by
  have : ∀ j : Fin 32, M.testBit j.val = true := by decide
  exact this ⟨j, h⟩
theorem sum_l1 (d : Nat) : ∀ (k : Nat) (b l : List Int) (i : Nat), i + d = 32 → b.length ≤ 2000 → l.length = 8 * b.length + 32 →
    (∀ j, j < 8 * b.length + 32 → rd l (j : Int) = if j < i then 1 - ((mbit b j : Nat) : Int) else ((mbit b j : Nat) : Int)) →
    ∃ l', Inv b l' 0 ∧ funicularref01_Sum.l1 (k + d + 1) l (i : Int) = funicularref01_Sum.l2 k l' 4374732215 0 := by
  induction d with
  | zero =>
    intro k b l i hi hm hl hv
    refine ⟨l, ⟨hl, fun j _ hj => ?_⟩, by rw [funicularref01_Sum.l1, if_neg (by omega)]⟩
    rw [hv j hj, cell, show i = 32 by omega]
    have h2 := mbit_lt b j
    by_cases h : j < 32
    · rw [if_pos h, if_pos (by omega), brun, M_bit _ (by omega)]
      generalize mbit b j = m at h2
      have : m = 0 ∨ m = 1 := by omega
      rcases this with rfl | rfl <;> decide
    · rw [if_neg h, if_neg (by omega)]
  | succ d ih =>
    intro k b l i hi hm hl hv
    have h2 := mbit_lt b i
    have e : (1 - rd l (i : Int)) % 256 = 1 - ((mbit b i : Nat) : Int) := by rw [hv i (by omega), if_neg (by omega)]; omega
    rw [show k + (d + 1) + 1 = (k + d + 1) + 1 by omega, funicularref01_Sum.l1, if_pos (by omega), if_pos (by omega), if_pos (by omega), w64 (by omega) (by omega), show ((i : Int) + 1) = ((i + 1 : Nat) : Int) by omega, e, Int.toNat_natCast]
    refine ih k b _ (i + 1) (by omega) hm (by rw [List.length_set]; exact hl) (fun j hj => ?_)
    rw [rd_set _ (by omega), hv j hj]
    by_cases e1 : j = i
    · subst e1; rw [if_pos rfl, if_pos (by omega)]
    · rw [if_neg e1]
      by_cases e2 : j < i
      · rw [if_pos e2, if_pos (by omega)]
      · rw [if_neg e2, if_neg (by omega)]
/-- The divisor's bits, the highest first. -/
def coef (t : Nat) : Nat := 4374732215 / 2 ^ (32 - t) % 2
theorem coef_P (t : Nat) (h : t < 32) : coef (t + 1) = (P.testBit t).toNat := by
  have : ∀ t : Fin 32, coef (t.val + 1) = (P.testBit t.val).toNat := by decide
  exact this ⟨t, h⟩
theorem coef_zero : coef 0 = 1 := by decide
theorem coef_go (t : Nat) (h : t ≤ 32) : (Go.bits .and .u64 (shr .u64 4374732215 (32 - (t : Int))) 1) % 256 = ((coef t : Nat) : Int) := by
  have : ∀ t : Fin 33, (Go.bits .and .u64 (shr .u64 4374732215 (32 - (t.val : Int))) 1) % 256 = ((coef t.val : Nat) : Int) := by decide +kernel
  exact this ⟨t, by omega⟩
theorem sum_l3 (d : Nat) : ∀ (k : Nat) (b l : List Int) (i t : Nat), t + d = 33 → b.length ≤ 2000 → i + 32 < 8 * b.length + 32 → l.length = 8 * b.length + 32 →
    (∀ j, i ≤ j → j < 8 * b.length + 32 → rd l (j : Int) = if j < i + t then ((cell b i j ^^^ coef (j - i) : Nat) : Int) else ((cell b i j : Nat) : Int)) →
    ∃ l', l'.length = 8 * b.length + 32 ∧ (∀ j, i ≤ j → j < 8 * b.length + 32 → rd l' (j : Int) = if j < i + 33 then ((cell b i j ^^^ coef (j - i) : Nat) : Int) else ((cell b i j : Nat) : Int)) ∧
      funicularref01_Sum.l3 (k + d + 1) l 4374732215 (i : Int) (t : Int) = funicularref01_Sum.l2 k l' 4374732215 ((i + 1 : Nat) : Int) := by
  induction d with
  | zero =>
    intro k b l i t ht hm hi hl hv
    refine ⟨l, hl, ?_, ?_⟩
    · rw [show t = 33 by omega] at hv; exact hv
    · rw [funicularref01_Sum.l3, if_neg (by omega), w64 (by omega) (by omega)]; rfl
  | succ d ih =>
    intro k b l i t ht hm hi hl hv
    have e0 : wrap64 ((i : Int) + (t : Int)) = ((i + t : Nat) : Int) := by rw [w64 (by omega) (by omega)]; omega
    have e1 : wrap64 (32 - (t : Int)) = 32 - (t : Int) := w64 (by omega) (by omega)
    have c1 := cell_lt b i (i + t)
    have c2 : coef t < 2 := Nat.mod_lt _ (by decide)
    have e2 : Go.bits .xor .u8 (rd l ((i + t : Nat) : Int)) ((coef t : Nat) : Int) = ((cell b i (i + t) ^^^ coef t : Nat) : Int) := by
      rw [hv (i + t) (by omega) (by omega), if_neg (by omega), bx8 (by omega) (by omega)]
    rw [show k + (d + 1) + 1 = (k + d + 1) + 1 by omega, funicularref01_Sum.l3, if_pos (by omega), e0, e1, if_pos (by omega), if_pos (by omega), if_pos (by omega), coef_go t (by omega), e2, Int.toNat_natCast,
      w64 (by omega) (by omega), show ((t : Int) + 1) = ((t + 1 : Nat) : Int) by omega]
    refine ih k b _ i (t + 1) (by omega) hm hi (by rw [List.length_set]; exact hl) (fun j hj hj2 => ?_)
    rw [rd_set _ (by omega), hv j hj hj2]
    by_cases e3 : j = i + t
    · subst e3; rw [if_pos rfl, if_pos (by omega), show i + t - i = t by omega]
    · rw [if_neg e3]
      by_cases e4 : j < i + t
      · rw [if_pos e4, if_pos (by omega)]
      · rw [if_neg e4, if_neg (by omega)]
theorem bit_of (s : Nat) : (s.testBit 0).toNat = s % 2 := by rw [Nat.testBit_zero]; by_cases h : s % 2 = 1 <;> simp [h]; omega
theorem xor_toNat (a c : Bool) : (Bool.xor a c).toNat = a.toNat ^^^ c.toNat := by cases a <;> cases c <;> rfl
theorem half (s m : Nat) (h : m < 2) : (s ^^^ m) / 2 = s / 2 := by
  rw [Nat.xor_div_two, show m / 2 = 0 by omega, Nat.xor_zero]
theorem xor_mod2 (s m : Nat) : (s ^^^ m) % 2 = (s % 2) ^^^ (m % 2) := Nat.xor_mod_two_pow (n := 1)
/-- The next bit is nought: the register is shifted. -/
theorem cell_even (b : List Int) (i j : Nat) (h : cell b i i = 0) (hj : i + 1 ≤ j) : cell b (i + 1) j = cell b i j := by
  have hm := mbit_lt b i
  have hs : brun b (i + 1) = brun b i / 2 := by
    have h0 : (brun b i ^^^ mbit b i) % 2 = 0 := by
      rw [xor_mod2, Nat.mod_eq_of_lt hm]
      rw [cell, if_pos (by omega), Nat.sub_self, bit_of] at h
      exact h
    rw [brun, st, if_neg (by omega), half _ _ hm]
  have hlt := brun_lt b i
  rw [cell, cell, hs]
  by_cases h1 : j < i + 32
  · rw [if_pos h1, if_pos (by omega), show j - i = (j - (i + 1)) + 1 by omega, Nat.testBit_succ]
  · rw [if_neg h1]
    by_cases h2 : j < i + 1 + 32
    · rw [if_pos h2, show j - (i + 1) = 31 by omega, ← Nat.testBit_succ, Nat.testBit_lt_two_pow (i := 32) (x := brun b i) hlt]; simp
    · rw [if_neg h2]
/-- The next bit is one: the register is shifted, and the divisor taken away. -/
theorem cell_odd (b : List Int) (i j : Nat) (h : cell b i i = 1) (hj : i + 1 ≤ j) : cell b (i + 1) j = if j < i + 33 then cell b i j ^^^ coef (j - i) else cell b i j := by
  have hm := mbit_lt b i
  have hs : brun b (i + 1) = (brun b i / 2) ^^^ P := by
    have h0 : (brun b i ^^^ mbit b i) % 2 = 1 := by
      rw [xor_mod2, Nat.mod_eq_of_lt hm]
      rw [cell, if_pos (by omega), Nat.sub_self, bit_of] at h
      exact h
    rw [brun, st, if_pos h0, half _ _ hm]
  have hlt := brun_lt b i
  rw [cell, cell, hs]
  by_cases h1 : j < i + 32
  · rw [if_pos h1, if_pos (by omega), if_pos (by omega), show j - i = (j - (i + 1)) + 1 by omega, coef_P _ (by omega), Nat.testBit_xor, xor_toNat, ← Nat.testBit_succ]
    simp only [Nat.xor_assoc]
    rw [Nat.xor_comm (P.testBit _).toNat]
  · rw [if_neg h1]
    by_cases h2 : j < i + 33
    · rw [if_pos (by omega), if_pos h2, show j - i = 31 + 1 by omega, coef_P 31 (by decide), show j - (i + 1) = 31 by omega, Nat.testBit_xor, xor_toNat, ← Nat.testBit_succ, Nat.testBit_lt_two_pow (i := 31 + 1) (x := brun b i) hlt, Nat.xor_comm (mbit b j)]; simp
    · rw [if_neg (by omega), if_neg h2]
theorem sum_l2 (d : Nat) : ∀ (k : Nat) (b l : List Int) (i : Nat), i + d = 8 * b.length → b.length ≤ 2000 → Inv b l i →
    ∃ l', Inv b l' (8 * b.length) ∧ funicularref01_Sum.l2 (k + 35 * d + 1) l 4374732215 (i : Int) = funicularref01_Sum.l4 k l' 0 0 ∨
      (∃ e, Inv b l' (8 * b.length) ∧ funicularref01_Sum.l2 (k + 35 * d + 1) l 4374732215 (i : Int) = funicularref01_Sum.l4 (k + e) l' 0 0) := by
  induction d with
  | zero =>
    intro k b l i hi hm hv
    have hlen := hv.len
    refine ⟨l, .inl ⟨by rw [← show i = 8 * b.length by omega]; exact hv, ?_⟩⟩
    rw [funicularref01_Sum.l2, w64 (by omega) (by omega), if_neg (by omega)]
  | succ d ih =>
    intro k b l i hi hm hv
    have hlen := hv.len
    have hr := hv.at_ i (Nat.le_refl _) (by omega)
    have hc := cell_lt b i i
    by_cases h0 : cell b i i = 0
    · have hv' : Inv b l (i + 1) := ⟨hlen, fun j h1 h2 => by rw [hv.at_ j (by omega) h2, cell_even b i j h0 h1]⟩
      obtain ⟨l', h⟩ := ih (k + 34) b l (i + 1) (by omega) hm hv'
      have e : funicularref01_Sum.l2 (k + 35 * (d + 1) + 1) l 4374732215 (i : Int) = funicularref01_Sum.l2 (k + 34 + 35 * d + 1) l 4374732215 ((i + 1 : Nat) : Int) := by
        rw [show k + 35 * (d + 1) + 1 = (k + 34 + 35 * d + 1) + 1 by omega, funicularref01_Sum.l2, w64 (i := (i : Int) + 32) (by omega) (by omega), if_pos (by omega), if_pos (by omega), if_pos (by omega), hr, if_pos (by omega), w64 (by omega) (by omega)]; rfl
      rw [e]
      rcases h with ⟨a, h⟩ | ⟨e', a, h⟩
      · exact ⟨l', .inr ⟨34, a, h⟩⟩
      · exact ⟨l', .inr ⟨34 + e', a, by rw [h]; congr 1; omega⟩⟩
    · obtain ⟨l1, hl1, hv1, e1⟩ := sum_l3 33 (k + 35 * d + 1) b l i 0 (by omega) hm (by omega) hlen (fun j h1 h2 => by rw [if_neg (by omega)]; exact hv.at_ j h1 h2)
      have hv' : Inv b l1 (i + 1) := ⟨hl1, fun j h1 h2 => by
        rw [hv1 j (by omega) h2, cell_odd b i j (by omega) h1]
        split <;> rfl⟩
      obtain ⟨l', h⟩ := ih k b l1 (i + 1) (by omega) hm hv'
      have e : funicularref01_Sum.l2 (k + 35 * (d + 1) + 1) l 4374732215 (i : Int) = funicularref01_Sum.l2 (k + 35 * d + 1) l1 4374732215 ((i + 1 : Nat) : Int) := by
        rw [show k + 35 * (d + 1) + 1 = (k + 35 * d + 1 + 33 + 1) + 1 by omega, funicularref01_Sum.l2, w64 (i := (i : Int) + 32) (by omega) (by omega), if_pos (by omega), if_pos (by omega), if_pos (by omega), hr, if_neg (by omega)]
        exact e1
      rw [e]
      exact ⟨l', h⟩
theorem bo32 {a b : Nat} (ha : a < 4294967296) (hb : b < 4294967296) : Go.bits .or .u32 (a : Int) (b : Int) = ((a ||| b : Nat) : Int) :=
  (bits_nat .u32 32 (by decide) (fun n h0 h1 => by rw [IntKind.wrap_u32]; omega) a b ha hb).2
theorem shl_one (t : Nat) (h : t < 32) : shl .u32 1 (t : Int) = ((2 ^ t : Nat) : Int) := by
  have : ∀ t : Fin 32, shl .u32 1 (t.val : Int) = ((2 ^ t.val : Nat) : Int) := by decide +kernel
  exact this ⟨t, h⟩
theorem sum_l4 (d : Nat) : ∀ (k : Nat) (b l : List Int) (t : Nat), t + d = 32 → b.length ≤ 2000 → Inv b l (8 * b.length) →
    funicularref01_Sum.l4 (k + d + 1) l (((M ^^^ brun b (8 * b.length)) % 2 ^ t : Nat) : Int) (t : Int) = some ((M ^^^ brun b (8 * b.length) : Nat) : Int) := by
  induction d with
  | zero =>
    intro k b l t ht hm hv
    rw [funicularref01_Sum.l4, if_neg (by omega), show t = 32 by omega, Nat.mod_eq_of_lt (xor_lt (by decide) (brun_lt b _))]
  | succ d ih =>
    intro k b l t ht hm hv
    have hlen := hv.len
    have h := ih k b l (t + 1) (by omega) hm hv
    have hr := hv.at_ (8 * b.length + t) (by omega) (by omega)
    rw [cell, if_pos (by omega), mbit_zero b _ (by omega), Nat.xor_zero, show 8 * b.length + t - 8 * b.length = t by omega] at hr
    have e0 : wrap64 (wrap64 ((l.length : Int) - 32) + (t : Int)) = ((8 * b.length + t : Nat) : Int) := by
      rw [w64 (i := (l.length : Int) - 32) (by omega) (by omega), w64 (by omega) (by omega)]; omega
    rw [show k + (d + 1) + 1 = (k + d + 1) + 1 by omega, funicularref01_Sum.l4, if_pos (by omega), e0, if_pos (by omega), if_pos (by omega), hr, w64 (by omega) (by omega), show ((t : Int) + 1) = ((t + 1 : Nat) : Int) by omega]
    have hb : (M ^^^ brun b (8 * b.length)).testBit t = !(brun b (8 * b.length)).testBit t := by rw [Nat.testBit_xor, M_bit t (by omega), Bool.true_xor]
    have hp : (M ^^^ brun b (8 * b.length)) % 2 ^ (t + 1) = (M ^^^ brun b (8 * b.length)) % 2 ^ t + 2 ^ t * ((M ^^^ brun b (8 * b.length)).testBit t).toNat := by rw [Nat.toNat_testBit, Nat.mod_pow_succ]
    rw [hb] at hp
    have hlt : (M ^^^ brun b (8 * b.length)) % 2 ^ t < 2 ^ t := Nat.mod_lt _ (Nat.two_pow_pos t)
    have ht2 : 2 ^ t ≤ 2 ^ 31 := Nat.pow_le_pow_right (by decide) (by omega)
    cases hc : (brun b (8 * b.length)).testBit t with
    | true =>
      rw [hc] at hp
      rw [if_neg (by simp)]
      simp at hp
      rw [← hp]; exact h
    | false =>
      rw [hc] at hp
      rw [if_pos (by simp), if_pos (by omega), shl_one t (by omega), bo32 (by omega) (by omega), Nat.or_comm]
      have e2 := Nat.two_pow_add_eq_or_of_lt hlt 1
      rw [Nat.mul_one] at e2
      rw [← e2]
      simp at hp
      rw [Nat.add_comm (2 ^ t), ← hp]; exact h
theorem refsum {k : Nat} {b : List Int} (hb : Bytes b) (hm : b.length ≤ 2000) (hk : 300 * b.length + 200 ≤ k) : funicularref01_Sum.f k b = some ((M ^^^ run M b : Nat) : Int) := by
  obtain ⟨k, rfl⟩ : ∃ m, k = (((m + 32 + 1) + 35 * (8 * b.length) + 1) + 32 + 1) + 32 + 1 := ⟨k - (280 * b.length + 100), by omega⟩
  rw [funicularref01_Sum.f, bits_f hb hm (by omega)]
  simp only [Option.bind_some]
  have e0 := sum_l0 32 (((k + 32 + 1) + 35 * (8 * b.length) + 1) + 32 + 1) b 0 (by omega) hm
  rw [Nat.add_zero] at e0
  have hl : (mlist b (8 * b.length + 32)).length = 8 * b.length + 32 := mlist_length _ _
  obtain ⟨l1, v1, e1⟩ := sum_l1 32 ((k + 32 + 1) + 35 * (8 * b.length) + 1) b _ 0 (by omega) hm hl (fun j hj => by rw [if_neg (by omega), mlist_rd _ _ _ hj])
  obtain ⟨l2, h⟩ := sum_l2 (8 * b.length) (k + 32 + 1) b l1 0 (by omega) hm v1
  have br : brun b (8 * b.length) = run M b := by rw [brun_run b hb _ (Nat.le_refl _), List.take_length]
  refine e0.trans (e1.trans ?_)
  rcases h with ⟨v2, h⟩ | ⟨e, v2, h⟩
  · have e4 := sum_l4 32 k b l2 0 (by omega) hm v2
    rw [Nat.pow_zero, Nat.mod_one, br] at e4
    exact h.trans e4
  · have e4 := sum_l4 32 (k + e) b l2 0 (by omega) hm v2
    rw [Nat.pow_zero, Nat.mod_one, br, show k + e + 32 + 1 = k + 32 + 1 + e by omega] at e4
    exact h.trans e4

end Go.Proofs.Ytadcekchmaiihaa.Pure
