import Derived.Test.YtadcekchmaiihaaPAx
import Derived.Test.YtadcekchmaiihaaCrcMath
/- What the program's own sums tell: a register that is run over the bytes. -/
namespace Go.Proofs.Ytadcekchmaiihaa.CrcOf
open Go Go.RowKit Go.Proofs.Ytadcekchmaiihaa.PA Go.Proofs.YtadcekchmaiihaaW.PrintWords Go.Proofs.YtadcekchmaiihaaW.PrintLast Go.Proofs.YtadcekchmaiihaaW.PrintMore Go.Proofs.Ytadcekchmaiihaa.Crc

theorem xor_nat (k : IntKind) (j : Nat) (hj : j ≤ k.bits) (hk : ∀ n : Int, 0 ≤ n → n < 2 ^ j → k.wrap n = n) (a b : Nat) (ha : a < 2 ^ j) (hb : b < 2 ^ j) :
    bits .xor k a b = ((a ^^^ b : Nat) : Int) := by
  have hp : 2 ^ j ≤ 2 ^ k.bits := Nat.pow_le_pow_right (by decide) hj
  have ha' : a % 2 ^ k.bits = a := Nat.mod_eq_of_lt (Nat.lt_of_lt_of_le ha hp)
  have hb' : b % 2 ^ k.bits = b := Nat.mod_eq_of_lt (Nat.lt_of_lt_of_le hb hp)
  have cast : ∀ n : Nat, n < 2 ^ j → ((n : Nat) : Int) < 2 ^ j := fun n h => by exact_mod_cast h
  simp only [bits, BitVec.ofInt_natCast, BitVec.toNat_xor, BitVec.toNat_ofNat, ha', hb']
  exact hk _ (Int.natCast_nonneg _) (cast _ (Nat.xor_lt_two_pow ha hb))
theorem bx32 {a b : Nat} (ha : a < 4294967296) (hb : b < 4294967296) : Go.bits .xor .u32 (a : Int) (b : Int) = ((a ^^^ b : Nat) : Int) :=
  xor_nat .u32 32 (by decide) (fun n h0 h1 => by rw [IntKind.wrap_u32]; omega) a b ha hb
theorem bx8 {a b : Nat} (ha : a < 256) (hb : b < 256) : Go.bits .xor .u8 (a : Int) (b : Int) = ((a ^^^ b : Nat) : Int) :=
  xor_nat .u8 8 (by decide) (fun n h0 h1 => by rw [IntKind.wrap_u8]; omega) a b ha hb
theorem ba32 {a : Nat} (ha : a < 4294967296) : Go.bits .and .u32 (a : Int) 1 = ((a % 2 : Nat) : Int) := by
  have := bits_mask .u32 32 (by decide) (fun n h0 h1 => by rw [IntKind.wrap_u32]; omega) 1 (by decide) (a : Int) (by omega) (by omega)
  simpa using this
theorem w64 {i : Int} (h0 : -9223372036854775808 ≤ i) (h1 : i ≤ 9223372036854775807) : wrap64 i = i := by unfold wrap64; omega
theorem rd_at {b : List Int} {i : Nat} (h : i < b.length) : rd b (i : Int) = b[i] := by
  simp [rd, List.getD_eq_getElem?_getD, List.getElem?_eq_getElem h]

theorem upd_l1 (d : Nat) : ∀ (k s : Nat) (b : List Int) (n i : Int), s < 4294967296 → d ≤ 8 →
    crc_Update.l1 (k + d + 1) (s : Int) b n i (8 - (d : Int)) = crc_Update.l0 k ((stn d s : Nat) : Int) b n (wrap64 (i + 1)) := by
  induction d with
  | zero => intro k s b n i _ _; rw [crc_Update.l1, if_neg (by omega)]; rfl
  | succ d ih =>
    intro k s b n i hs hd
    have h1 := ih k (st s) b n i (st_lt hs) (by omega)
    have e : wrap64 (8 - ((d + 1 : Nat) : Int) + 1) = 8 - (d : Int) := by rw [w64 (by omega) (by omega)]; omega
    rw [show k + (d + 1) + 1 = (k + d + 1) + 1 by omega, crc_Update.l1, if_pos (by omega), ba32 hs, e]
    rw [stn, ← h1]
    have eh : (s : Int) / 2 = ((s / 2 : Nat) : Int) := by omega
    by_cases hp : s % 2 = 1
    · rw [if_pos (by omega), eh, show (3988292384 : Int) = ((P : Nat) : Int) by rfl, bx32 (by omega) (by decide)]
      unfold st
      rw [if_pos hp]
    · rw [if_neg (by omega), eh]
      unfold st
      rw [if_neg hp]
theorem upd_l0 (d : Nat) : ∀ (k s : Nat) (b : List Int) (i : Nat), s < 4294967296 → Bytes b → b.length = i + d → b.length ≤ 140737488351232 →
    crc_Update.l0 (k + 10 * d + 1) (s : Int) b (b.length : Int) (i : Int) = some ((M ^^^ run s (b.drop i) : Nat) : Int) := by
  induction d with
  | zero =>
    intro k s b i hs hb hl _
    rw [crc_Update.l0, if_neg (by omega), List.drop_eq_nil_of_le (by omega), show (4294967295 : Int) = ((M : Nat) : Int) by rfl, bx32 (by decide) hs, run_nil]
  | succ d ih =>
    intro k s b i hs hb hl hm
    have hlt : i < b.length := by omega
    have hx := hb _ (List.getElem_mem hlt)
    have ec : rd b (i : Int) % 4294967296 = ((b[i].toNat : Nat) : Int) := by rw [rd_at hlt]; omega
    have hxs : s ^^^ b[i].toNat < 4294967296 := xor_lt hs (by omega)
    rw [show k + 10 * (d + 1) + 1 = (k + 10 * d + 1 + 8 + 1) + 1 by omega, crc_Update.l0, if_pos (by omega), if_pos (by omega), if_pos (by omega), ec, bx32 hs (by omega)]
    have h2 := upd_l1 8 (k + 10 * d + 1) (s ^^^ b[i].toNat) b (b.length : Int) (i : Int) hxs (by omega)
    rw [show (8 : Int) - ((8 : Nat) : Int) = 0 by rfl] at h2
    rw [h2, w64 (by omega) (by omega), show ((i : Int) + 1) = ((i + 1 : Nat) : Int) by omega, ih k _ b (i + 1) (stn_lt 8 hxs) hb (by omega) hm, List.drop_eq_getElem_cons hlt, run_cons]
    rfl
theorem upd (k s : Nat) (b : List Int) (hs : s < 4294967296) (hb : Bytes b) (hm : b.length ≤ 140737488351232) :
    crc_Update.f (k + 10 * b.length + 1) (s : Int) b = some ((M ^^^ run (M ^^^ s) b : Nat) : Int) := by
  have := upd_l0 b.length k (M ^^^ s) b 0 (xor_lt (by decide) hs) hb (by omega) hm
  rw [crc_Update.f, show (4294967295 : Int) = ((M : Nat) : Int) by rfl, bx32 (by decide) hs]
  exact this
theorem sum (k : Nat) (b : List Int) (hb : Bytes b) (hm : b.length ≤ 140737488351232) :
    crc_Sum.f (k + 10 * b.length + 1) b = some ((M ^^^ run M b : Nat) : Int) := by
  have := upd k 0 b (by decide) hb hm
  rw [Nat.xor_zero] at this
  rw [crc_Sum.f, show (0 : Int) = ((0 : Nat) : Int) by rfl, this]; rfl
theorem bytes_of {b : List Int} (h : ∀ x ∈ b, (Lit.int .u8 x).wf = true) : Bytes b := fun x hx => by
  have := h x hx
  simp [Lit.wf, IntKind.min, IntKind.max, IntKind.signed, IntKind.bits] at this
  omega
end Go.Proofs.Ytadcekchmaiihaa.CrcOf
