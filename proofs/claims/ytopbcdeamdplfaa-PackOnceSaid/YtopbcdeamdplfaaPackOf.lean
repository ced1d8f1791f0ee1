import Derived.Test.YtopbcdeamdplfaaPAx
import Derived.Test.YtopbcdeamdplfaaPackMath
/- What the program's own numbers as bytes tell: what the mathematics says. -/
namespace Go.Proofs.Ytopbcdeamdplfaa.PackOf
open Go Go.RowKit Go.Proofs.Ytopbcdeamdplfaa.PA Go.Proofs.YtopbcdeamdplfaaW.PrintWords Go.Proofs.YtopbcdeamdplfaaW.PrintLast Go.Proofs.YtopbcdeamdplfaaW.PrintMore Go.Proofs.Ytopbcdeamdplfaa.Pack

theorem w64 {i : Int} (h0 : -9223372036854775808 ≤ i) (h1 : i ≤ 9223372036854775807) : wrap64 i = i := by unfold wrap64; omega
theorem u64w {i : Int} (h0 : 0 ≤ i) (h1 : i < 18446744073709551616) : IntKind.u64.wrap i = i := by
  simp only [IntKind.wrap, IntKind.bits, IntKind.signed]; simp; omega
theorem u64m (i : Int) : IntKind.u64.wrap i = i % 18446744073709551616 := by
  simp only [IntKind.wrap, IntKind.bits, IntKind.signed]; simp
theorem rd_at {b : List Int} {i : Nat} (h : i < b.length) : rd b (i : Int) = b[i] := by
  simp [rd, List.getD_eq_getElem?_getD, List.getElem?_eq_getElem h]
theorem wraps_u64 (n : Int) (h₀ : 0 ≤ n) (h₁ : n < 2 ^ 64) : IntKind.u64.wrap n = n := u64w h₀ (by omega)
theorem bo8 {m : Nat} (h : m < 256) : Go.bits .or .u8 (m : Int) 128 = ((m % 128 + 128 : Nat) : Int) := by
  have := (bits_nat .u8 8 (by decide) wraps_u8 m 128 h (by decide)).2
  have e : ∀ m : Fin 256, m.val ||| 128 = m.val % 128 + 128 := by decide +kernel
  rw [e ⟨m, h⟩] at this
  exact this
theorem ba127 {x : Int} (h0 : 0 ≤ x) (h1 : x < 18446744073709551616) : Go.bits .and .u64 x 127 = x % 128 := by
  have := bits_mask .u64 64 (by decide) wraps_u64 7 (by decide) x h0 (by omega)
  simpa using this
theorem ba1 {x : Int} (h0 : 0 ≤ x) (h1 : x < 18446744073709551616) : Go.bits .and .u64 x 1 = x % 2 := by
  have := bits_mask .u64 64 (by decide) wraps_u64 1 (by decide) x h0 (by omega)
  simpa using this
theorem orsh {acc m i : Nat} (hi : i ≤ 9) (ha : acc < 2 ^ (7 * i)) (hm : m * 2 ^ (7 * i) < 18446744073709551616) :
    Go.bits .or .u64 (acc : Int) (shl .u64 (m : Int) (7 * (i : Int))) = ((acc + m * 2 ^ (7 * i) : Nat) : Int) := by
  have e : shl .u64 (m : Int) (7 * (i : Int)) = ((m * 2 ^ (7 * i) : Nat) : Int) := by
    unfold shl
    rw [show (7 * (i : Int)).toNat = 7 * i by omega, show min (7 * i) IntKind.u64.bits = 7 * i by simp [IntKind.bits]; omega]
    have e2 : ((m : Int) * 2 ^ (7 * i)) = ((m * 2 ^ (7 * i) : Nat) : Int) := by rw [Int.natCast_mul, Int.natCast_pow]; rfl
    rw [e2]
    exact u64w (by omega) (by omega)
  have h2 : 2 ^ (7 * i) ≤ 2 ^ 63 := Nat.pow_le_pow_right (by decide) (by omega)
  rw [e, (bits_nat .u64 64 (by decide) wraps_u64 acc (m * 2 ^ (7 * i)) (by omega) (by omega)).2]
  congr 1
  rw [Nat.or_comm, Nat.mul_comm, ← Nat.two_pow_add_eq_or_of_lt ha m]
  omega

/-! the program's -/
theorem uint_l0 (f : Nat) : ∀ (k n : Nat) (x0 : List Int), n < 128 ^ (f + 1) → x0.length + f < 140737488355328 → pack_Uint.l0 (k + f + 1) x0 (n : Int) = some (x0 ++ encF f n) := by
  induction f with
  | zero =>
    intro k n x0 hn hl
    have : n < 128 := by simpa using hn
    rw [pack_Uint.l0, if_neg (by omega), if_pos (by omega), encF, show (n : Int) % 256 = n by omega]
  | succ f ih =>
    intro k n x0 hn hl
    rw [show k + (f + 1) + 1 = (k + f + 1) + 1 by omega, pack_Uint.l0, encF]
    by_cases h : n < 128
    · rw [if_neg (by omega), if_pos (by omega), if_pos h, show (n : Int) % 256 = n by omega]
    · rw [if_pos (by omega), if_pos (by omega), if_neg h]
      have e : Go.bits .or .u8 ((n : Int) % 256) 128 = ((n % 128 + 128 : Nat) : Int) := by
        rw [show (n : Int) % 256 = ((n % 256 : Nat) : Int) by omega, bo8 (Nat.mod_lt _ (by decide)), show n % 256 % 128 = n % 128 by omega]
      rw [e, show (n : Int) / 128 = ((n / 128 : Nat) : Int) by omega, ih k (n / 128) _ (by rw [Nat.pow_succ] at hn; exact Nat.div_lt_of_lt_mul (by rw [Nat.mul_comm]; exact hn)) (by simp only [List.length_append, List.length_cons, List.length_nil]; omega)]
      rw [List.append_assoc, List.singleton_append]
theorem uint {k n : Nat} {x0 : List Int} (hn : n < 18446744073709551616) (hl : x0.length ≤ 140737488355300) (hk : 10 ≤ k) : pack_Uint.f k x0 (n : Int) = some (x0 ++ enc n) := by
  obtain ⟨k, rfl⟩ : ∃ m, k = m + 9 + 1 := ⟨k - 10, by omega⟩
  exact uint_l0 9 k n x0 (Nat.lt_of_lt_of_le hn (by decide)) (by omega)
/-- What is told of a reading: its number on top of what was read ahead. -/
def told (acc i : Nat) (r : Nat × List Int × Int) : Int × List Int × Int := if r.2.2 = 0 then (((acc + 2 ^ (7 * i) * r.1 : Nat) : Int), r.2.1, 0) else (0, [], r.2.2)
theorem told_2 (acc i : Nat) : told acc i (0, [], 2) = (0, [], 2) := by unfold told; rw [if_neg (by decide)]
theorem told_5 (acc i : Nat) : told acc i (0, [], 5) = (0, [], 5) := by unfold told; rw [if_neg (by decide)]
theorem told_ok (acc i v : Nat) (r : List Int) : told acc i (v, r, 0) = (((acc + 2 ^ (7 * i) * v : Nat) : Int), r, 0) := by unfold told; rw [if_pos rfl]
theorem acc_step (acc m X v : Nat) : acc + m * X + X * 2 ^ 7 * v = acc + X * (m + 128 * v) := by rw [Nat.mul_add, Nat.mul_comm m X, Nat.mul_assoc X (2 ^ 7) v, Nat.add_assoc]
theorem read_l0 (mm : Nat) (_hm10 : mm ≤ 10) (d : Nat) : ∀ (k acc i : Nat) (b : List Int), Bytes b → b.length ≤ 140737488355328 → mm ≤ b.length → (mm = 10 ∨ mm = b.length) → i ≤ 9 → i + d = mm → acc < 2 ^ (7 * i) →
    pack_ReadUint.l0 (k + 2 * d + 1) b (acc : Int) (mm : Int) (i : Int) = some (told acc i (rdu i (b.drop i))) := by
  induction d with
  | zero =>
    intro k acc i b hb hm hml hmo hi hd ha
    rw [pack_ReadUint.l0, if_neg (by omega), List.drop_eq_nil_of_le (by omega), rdu, told_5]
  | succ d ih =>
    intro k acc i b hb hm hml hmo hi hd ha
    have hlt : i < b.length := by omega
    have f1 : (i : Int) < (mm : Int) := by omega
    have f2 : (0 : Int) ≤ (i : Int) := by omega
    have f3 : (i : Int) < (b.length : Int) := by omega
    have hc := hb _ (List.getElem_mem hlt)
    have hcw : IntKind.u64.wrap (rd b (i : Int)) = b[i] := by rw [rd_at hlt]; exact u64w hc.1 (by omega)
    have h7 : wrap64 (7 * (i : Int)) = 7 * (i : Int) := w64 (by omega) (by omega)
    have h1 : wrap64 ((i : Int) + 1) = ((i + 1 : Nat) : Int) := by rw [w64 (by omega) (by omega)]; omega
    have hand : Go.bits .and .u64 b[i] 127 = ((b[i].toNat % 128 : Nat) : Int) := by rw [ba127 hc.1 (by omega)]; omega
    rw [List.drop_eq_getElem_cons hlt, show k + 2 * (d + 1) + 1 = (k + 2 * d + 1 + 1) + 1 by omega, pack_ReadUint.l0, if_pos f1, if_pos f2, if_pos f3, hcw]
    have step : ∀ t : Bool, t = decide (i = 9 ∧ 1 < b[i]) → pack_ReadUint.j1 (k + 2 * d + 1 + 1) b (acc : Int) (i : Int) b[i] (mm : Int) (i : Int) t = some (told acc i (rdu i (b[i] :: b.drop (i + 1)))) := by
      intro t ht
      rw [pack_ReadUint.j1, rdu]
      by_cases g : i = 9 ∧ 1 < b[i]
      · rw [if_pos (by rw [ht]; exact decide_eq_true g), if_pos g, told_2]
      · rw [if_neg (by rw [ht]; simpa using g), if_neg g, h7, if_pos (by omega), h1, hand]
        have hsh : b[i].toNat % 128 * 2 ^ (7 * i) < 18446744073709551616 := by
          by_cases h9 : i = 9
          · subst h9
            have : b[9].toNat ≤ 1 := by
              have : ¬ 1 < b[9] := fun h => g ⟨rfl, h⟩
              omega
            omega
          · have : 2 ^ (7 * i) ≤ 2 ^ 56 := Nat.pow_le_pow_right (by decide) (by omega)
            have h127 : b[i].toNat % 128 ≤ 127 := by omega
            have := Nat.mul_le_mul h127 this
            omega
        rw [orsh hi ha hsh]
        by_cases h128 : b[i] < 128
        · rw [if_pos h128, if_pos h128]
          have hval : acc + b[i].toNat % 128 * 2 ^ (7 * i) = acc + 2 ^ (7 * i) * b[i].toNat := by rw [Nat.mod_eq_of_lt (by omega), Nat.mul_comm]
          by_cases hz : b[i] = 0
          · rw [if_pos hz]
            by_cases hp : 0 < i
            · rw [if_pos (by omega), if_pos ⟨hz, hp⟩, told_2]
            · rw [if_neg (show ¬ ((i : Int) > 0) by omega), if_pos (show (0 : Int) ≤ ((i + 1 : Nat) : Int) by omega), if_pos (show ((i + 1 : Nat) : Int) ≤ (b.length : Int) by omega), if_neg (show ¬ (b[i] = 0 ∧ 0 < i) from fun h => hp h.2), hval, told_ok, Int.toNat_natCast]
          · rw [if_neg hz, if_pos (show (0 : Int) ≤ ((i + 1 : Nat) : Int) by omega), if_pos (show ((i + 1 : Nat) : Int) ≤ (b.length : Int) by omega), if_neg (show ¬ (b[i] = 0 ∧ 0 < i) from fun h => hz h.1), hval, told_ok, Int.toNat_natCast]
        · rw [if_neg h128, if_neg h128]
          have hi9 : i ≠ 9 := fun h => g ⟨h, by omega⟩
          have hacc : acc + b[i].toNat % 128 * 2 ^ (7 * i) < 2 ^ (7 * (i + 1)) := by
            have h127 : b[i].toNat % 128 ≤ 127 := by omega
            have h2 := Nat.mul_le_mul_right (2 ^ (7 * i)) h127
            rw [show 7 * (i + 1) = 7 * i + 7 by omega, Nat.pow_add]
            omega
          have hr := ih k (acc + b[i].toNat % 128 * 2 ^ (7 * i)) (i + 1) b hb hm hml hmo (by omega) (by omega) hacc
          rw [hr]
          refine congrArg some ?_
          unfold told
          by_cases he : (rdu (i + 1) (b.drop (i + 1))).2.2 = 0
          · rw [if_pos he, if_pos he, if_pos rfl]
            rw [show 7 * (i + 1) = 7 * i + 7 by omega, Nat.pow_add, acc_step]
          · rw [if_neg he, if_neg he, if_neg he]
    by_cases g9 : i = 9
    · rw [if_pos (by omega)]
      exact step _ (by simp [g9])
    · rw [if_neg (by omega)]
      exact step _ (by simp [g9])
/-- The number as a whole one of the other kind, the bytes, the error. -/
def whole (r : Nat × List Int × Int) : Int × List Int × Int := ((r.1 : Int), r.2.1, r.2.2)
theorem readUint {k : Nat} {b : List Int} (hb : Bytes b) (hm : b.length ≤ 140737488355328) (hk : 21 ≤ k) : pack_ReadUint.f k b = some (whole (rdu 0 b)) := by
  obtain ⟨k, rfl⟩ : ∃ m, k = m + 2 * (min b.length 10) + 1 := ⟨k - (2 * (min b.length 10) + 1), by omega⟩
  have := read_l0 (min b.length 10) (by omega) (min b.length 10) k 0 0 b hb hm (by omega) (by omega) (by omega) (by omega) (by decide)
  have e : mn (b.length : Int) 10 = ((min b.length 10 : Nat) : Int) := by unfold mn; split <;> omega
  rw [pack_ReadUint.f, e]
  refine this.trans (congrArg some ?_)
  unfold told whole
  by_cases he : (rdu 0 (b.drop 0)).2.2 = 0
  · rw [if_pos he]
    rw [List.drop_zero] at he ⊢
    rw [he]
    simp
  · rw [if_neg he]
    rw [List.drop_zero] at he ⊢
    obtain ⟨h1, h2⟩ := rdu_err 0 b he
    rw [h1, h2]; rfl
theorem xor_ones {n : Nat} (h : n < 18446744073709551616) : Go.bits .xor .u64 (n : Int) 18446744073709551615 = ((18446744073709551615 - n : Nat) : Int) := by
  show IntKind.u64.wrap (((BitVec.ofInt 64 (n : Int) ^^^ BitVec.ofInt 64 18446744073709551615).toNat : Nat) : Int) = _
  have e2 : BitVec.ofInt 64 18446744073709551615 = BitVec.allOnes 64 := by decide
  rw [e2, BitVec.xor_allOnes, BitVec.toNat_not, BitVec.ofInt_natCast, BitVec.toNat_ofNat, Nat.mod_eq_of_lt (show n < 2 ^ 64 from h)]
  exact u64w (by omega) (by omega)
theorem xor_zero {n : Nat} (h : n < 18446744073709551616) : Go.bits .xor .u64 (n : Int) 0 = (n : Int) := by
  show IntKind.u64.wrap (((BitVec.ofInt 64 (n : Int) ^^^ BitVec.ofInt 64 0).toNat : Nat) : Int) = _
  have e2 : BitVec.ofInt 64 0 = 0#64 := by decide
  rw [e2, BitVec.xor_zero, BitVec.ofInt_natCast, BitVec.toNat_ofNat, Nat.mod_eq_of_lt (show n < 2 ^ 64 from h)]
  exact u64w (by omega) (by omega)
theorem zigzag {m : Int} (h0 : -9223372036854775808 ≤ m) (h1 : m ≤ 9223372036854775807) :
    Go.bits .xor .u64 (IntKind.u64.wrap ((IntKind.u64.wrap m) * 2)) (IntKind.u64.wrap (m / 9223372036854775808)) = ((zig m : Nat) : Int) := by
  by_cases h : 0 ≤ m
  · rw [show m / 9223372036854775808 = 0 by omega, u64w (i := 0) (by omega) (by omega), u64w (i := m) h (by omega), u64w (by omega) (by omega), show m * 2 = (((2 * m).toNat : Nat) : Int) by omega, xor_zero (by omega)]
    unfold zig; rw [if_pos h]
  · rw [show m / 9223372036854775808 = -1 by omega, u64m (-1), u64m m, u64m, show (-1 : Int) % 18446744073709551616 = 18446744073709551615 from rfl, show m % 18446744073709551616 * 2 % 18446744073709551616 = (((18446744073709551616 + 2 * m).toNat : Nat) : Int) by omega, xor_ones (by omega)]
    unfold zig; rw [if_neg h]; omega
theorem int {k : Nat} {m : Int} {x0 : List Int} (h0 : -9223372036854775808 ≤ m) (h1 : m ≤ 9223372036854775807) (hl : x0.length ≤ 140737488355300) (hk : 10 ≤ k) : pack_Int.f k x0 m = some (x0 ++ enc (zig m)) := by
  rw [pack_Int.f, zigzag h0 h1, uint (zig_lt h0 h1) hl hk]; rfl
theorem i64x (x : Int) : Go.bits .xor .i64 x (-1) = IntKind.i64.wrap ((18446744073709551615 : Int) - x % 18446744073709551616) := by
  show IntKind.i64.wrap (((BitVec.ofInt 64 x ^^^ BitVec.ofInt 64 (-1)).toNat : Nat) : Int) = _
  have e2 : BitVec.ofInt 64 (-1) = BitVec.allOnes 64 := by decide
  rw [e2, BitVec.xor_allOnes, BitVec.toNat_not, BitVec.toNat_ofInt]
  refine congrArg _ ?_
  have h0 : (0 : Int) ≤ x % 18446744073709551616 := Int.emod_nonneg _ (by decide)
  have h1 : x % 18446744073709551616 < 18446744073709551616 := Int.emod_lt_of_pos _ (by decide)
  have e : (((2 ^ 64 : Nat) : Int)) = 18446744073709551616 := rfl
  rw [e]
  omega
theorem i64x0 (x : Int) : Go.bits .xor .i64 x 0 = IntKind.i64.wrap (x % 18446744073709551616) := by
  show IntKind.i64.wrap (((BitVec.ofInt 64 x ^^^ BitVec.ofInt 64 0).toNat : Nat) : Int) = _
  have e2 : BitVec.ofInt 64 0 = 0#64 := by decide
  rw [e2, BitVec.xor_zero, BitVec.toNat_ofInt]
  refine congrArg _ ?_
  have h0 : (0 : Int) ≤ x % 18446744073709551616 := Int.emod_nonneg _ (by decide)
  have e : (((2 ^ 64 : Nat) : Int)) = 18446744073709551616 := rfl
  rw [e]
  omega
theorem unzig {v : Nat} (h : v < 18446744073709551616) : Go.bits .xor .i64 (wrap64 ((v : Int) / 2)) (wrap64 (-(wrap64 (Go.bits .and .u64 (v : Int) 1)))) = zag v := by
  rw [ba1 (by omega) (by omega), w64 (i := (v : Int) % 2) (by omega) (by omega), w64 (i := -((v : Int) % 2)) (by omega) (by omega), w64 (by omega) (by omega)]
  unfold zag
  by_cases hp : v % 2 = 0
  · rw [if_pos hp, show -((v : Int) % 2) = 0 by omega, i64x0, IntKind.wrap_i64]; omega
  · rw [if_neg hp, show -((v : Int) % 2) = -1 by omega, i64x, IntKind.wrap_i64]; omega
theorem readInt {k : Nat} {b : List Int} (hb : Bytes b) (hm : b.length ≤ 140737488355328) (hk : 21 ≤ k) : pack_ReadInt.f k b = some (zag (rdu 0 b).1, (rdu 0 b).2.1, (rdu 0 b).2.2) := by
  rw [pack_ReadInt.f, readUint hb hm hk, Option.bind_some, whole]
  have := rdu_lt 0 b hb (by decide)
  rw [unzig this]
theorem bytesP {k : Nat} {x0 l1 : List Int} (hl : x0.length ≤ 140737488300000) (hl1 : l1.length ≤ 50000) (hk : 10 ≤ k) : pack_Bytes.f k x0 l1 = some (x0 ++ enc l1.length ++ l1) := by
  rw [pack_Bytes.f, u64w (by omega) (by omega), uint (by omega) (by omega) hk, Option.bind_some]
  have := enc_length l1.length
  rw [if_pos (by simp only [List.length_append]; omega)]
/-- Bytes that bytes begin with. -/
def rdb (b : List Int) : List Int × List Int × Int :=
  if (rdu 0 b).2.2 = 0 then (if (rdu 0 b).2.1.length < (rdu 0 b).1 then ([], [], 5) else ((rdu 0 b).2.1.take (rdu 0 b).1, (rdu 0 b).2.1.drop (rdu 0 b).1, 0)) else ([], [], (rdu 0 b).2.2)
theorem rdu_len (i : Nat) (b : List Int) : (rdu i b).2.1.length ≤ b.length := by
  induction b generalizing i with
  | nil => simp [rdu]
  | cons c r ih =>
    have := ih (i + 1)
    rw [rdu]
    split
    · simp
    · split
      · split <;> simp
      · split
        · simp; omega
        · simp
theorem rdu_rest {b : List Int} (hb : Bytes b) (i : Nat) : Bytes (rdu i b).2.1 := by
  induction b generalizing i with
  | nil => exact Bytes.nil
  | cons c r ih =>
    have hr : Bytes r := fun x hx => hb x (by simp [hx])
    rw [rdu]
    split
    · exact Bytes.nil
    · split
      · split
        · exact Bytes.nil
        · exact hr
      · split
        · exact ih hr (i + 1)
        · exact Bytes.nil
theorem readBytes {k : Nat} {b : List Int} (hb : Bytes b) (hm : b.length ≤ 140737488355328) (hk : 21 ≤ k) : pack_ReadBytes.f k b = some (rdb b) := by
  rw [pack_ReadBytes.f, readUint hb hm hk, Option.bind_some, whole, rdb]
  have hl := rdu_len 0 b
  by_cases he : (rdu 0 b).2.2 = 0
  · rw [if_pos he, if_pos he]
    dsimp only
    rw [u64w (by omega) (by omega)]
    by_cases hv : (rdu 0 b).2.1.length < (rdu 0 b).1
    · rw [if_pos (by omega), if_pos hv]
    · rw [if_neg (by omega), if_neg hv, if_pos (by omega), if_pos (by omega)]; rfl
  · rw [if_neg he, if_neg he]
end Go.Proofs.Ytopbcdeamdplfaa.PackOf
