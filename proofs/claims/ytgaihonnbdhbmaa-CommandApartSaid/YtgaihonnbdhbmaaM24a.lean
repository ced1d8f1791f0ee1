/- What the program's numbers as bytes, and names, come to. Texts as bytes behind their number. Names: what the program and the document say of a text. Numbers and texts as bytes. Numbers and texts as bytes: what the chapter says. Jobs: which may be; where one stands. Variables: whether they may be; as bytes, and read again. Variables as bytes, and read again. -/
import Derived.Test.YtgaihonnbdhbmaaX24
import Derived.Test.YtgaihonnbdhbmaaELib
import Derived.Test.YtgaihonnbdhbmaaPackMath
namespace Go.Proofs.Ytgaihonnbdhbmaa.PE
set_option linter.unusedVariables false
open Go Go.RowKit Go.Proofs.Ytgaihonnbdhbmaa.Pack
theorem wraps8 (n : Int) (h₀ : 0 ≤ n) (h₁ : n < 2 ^ 8) : IntKind.u8.wrap n = n := by rw [wrap_u8]; omega
theorem wraps64 (n : Int) (h₀ : 0 ≤ n) (h₁ : n < 2 ^ 64) : IntKind.u64.wrap n = n := wrap_u64 h₀ (by omega)
theorem bits_or (k : IntKind) (x y : Int) : k.wrap ↑(BitVec.ofInt k.bits x ||| BitVec.ofInt k.bits y).toNat = Go.bits .or k x y := rfl
theorem bits_and (k : IntKind) (x y : Int) : k.wrap ↑(BitVec.ofInt k.bits x &&& BitVec.ofInt k.bits y).toNat = Go.bits .and k x y := rfl
theorem bits_xor (k : IntKind) (x y : Int) : k.wrap ↑(BitVec.ofInt k.bits x ^^^ BitVec.ofInt k.bits y).toNat = Go.bits .xor k x y := rfl
theorem bo8 {m : Nat} (h : m < 256) : Go.bits .or .u8 (m : Int) 128 = ((m % 128 + 128 : Nat) : Int) := by
  have := (bits_nat .u8 8 (by decide) wraps8 m 128 h (by decide)).2
  have e : ∀ m : Fin 256, m.val ||| 128 = m.val % 128 + 128 := by decide +kernel
  rw [e ⟨m, h⟩] at this
  exact this
theorem ba127 {x : Int} (h0 : 0 ≤ x) (h1 : x < 18446744073709551616) : Go.bits .and .u64 x 127 = x % 128 := by
  have := bits_mask .u64 64 (by decide) wraps64 7 (by decide) x h0 (by omega)
  simpa using this
theorem ba1 {x : Int} (h0 : 0 ≤ x) (h1 : x < 18446744073709551616) : Go.bits .and .u64 x 1 = x % 2 := by
  have := bits_mask .u64 64 (by decide) wraps64 1 (by decide) x h0 (by omega)
  simpa using this
theorem shlu {m i : Nat} (hi : i ≤ 9) (hm : m * 2 ^ (7 * i) < 18446744073709551616) : IntKind.u64.wrap ((m : Int) * 2 ^ min (7 * (i : Int)).toNat IntKind.u64.bits) = ((m * 2 ^ (7 * i) : Nat) : Int) := by
  rw [show (7 * (i : Int)).toNat = 7 * i by omega, show min (7 * i) IntKind.u64.bits = 7 * i by simp [IntKind.bits]; omega]
  have e2 : ((m : Int) * 2 ^ (7 * i)) = ((m * 2 ^ (7 * i) : Nat) : Int) := by rw [Int.natCast_mul, Int.natCast_pow]; rfl
  rw [e2]
  exact wrap_u64 (by omega) (by omega)
theorem orsh {acc m i : Nat} (hi : i ≤ 9) (ha : acc < 2 ^ (7 * i)) (hm : m * 2 ^ (7 * i) < 18446744073709551616) :
    Go.bits .or .u64 (acc : Int) ((m * 2 ^ (7 * i) : Nat) : Int) = ((acc + m * 2 ^ (7 * i) : Nat) : Int) := by
  have h2 : 2 ^ (7 * i) ≤ 2 ^ 63 := Nat.pow_le_pow_right (by decide) (by omega)
  rw [(bits_nat .u64 64 (by decide) wraps64 acc (m * 2 ^ (7 * i)) (by omega) (by omega)).2]
  congr 1
  rw [Nat.or_comm, Nat.mul_comm, ← Nat.two_pow_add_eq_or_of_lt ha m]
  omega
theorem uint_l0 : ∀ (f n : Nat) (x0 : List Int), n < 128 ^ (f + 1) → x0.length + f < 140737488351200 → pack_Uint_l0 (n : Int) x0 = some (x0 ++ encF f n) := by
  intro f
  induction f with
  | zero =>
    intro n x0 hn hl
    have : n < 128 := by simpa using hn
    rw [pack_Uint_l0_eq]
    simp -implicitDefEqProofs only [Bool.cond_decide]
    rw [if_neg (by omega), if_pos (show _ ≤ room by simp only [ilen_eq, List.length_cons, List.length_nil, room_eq]; omega), encF, wrap_u8, show (n : Int) % 256 = n by omega]
  | succ f ih =>
    intro n x0 hn hl
    rw [pack_Uint_l0_eq, encF]
    simp -implicitDefEqProofs only [Bool.cond_decide]
    by_cases h : n < 128
    · rw [if_neg (by omega), if_pos (show _ ≤ room by simp only [ilen_eq, List.length_cons, List.length_nil, room_eq]; omega), if_pos h, wrap_u8, show (n : Int) % 256 = n by omega]
    · rw [if_pos (by omega), if_pos (show _ ≤ room by simp only [ilen_eq, List.length_cons, List.length_nil, room_eq]; omega), if_neg h]
      have e : Go.bits .or .u8 ((n : Int) % 256) 128 = ((n % 128 + 128 : Nat) : Int) := by
        rw [show (n : Int) % 256 = ((n % 256 : Nat) : Int) by omega, bo8 (Nat.mod_lt _ (by decide)), show n % 256 % 128 = n % 128 by omega]
      rw [bits_or, wrap_u8, e, show ((2 : Int) ^ min (Int.toNat 7) IntKind.u64.bits) = 128 from rfl, Int.fdiv_eq_ediv_of_nonneg _ (by omega), show (n : Int) / 128 = ((n / 128 : Nat) : Int) by omega, ih (n / 128) _ (by rw [Nat.pow_succ] at hn; exact Nat.div_lt_of_lt_mul (by rw [Nat.mul_comm]; exact hn)) (by simp only [List.length_append, List.length_cons, List.length_nil]; omega)]
      rw [List.append_assoc, List.singleton_append]
theorem uint_spec {n : Nat} {x0 : List Int} (hn : n < 18446744073709551616) (hl : x0.length ≤ 140737488351000) : pack_Uint x0 (n : Int) = some (x0 ++ enc n) := by
  rw [pack_Uint_eq]
  exact uint_l0 9 n x0 (Nat.lt_of_lt_of_le hn (by decide)) (by omega)
/-- What is told of a reading: its number on top of what was read ahead. -/
def told (acc i : Nat) (r : Nat × List Int × Int) : Int × List Int × Int := if r.2.2 = 0 then (((acc + 2 ^ (7 * i) * r.1 : Nat) : Int), r.2.1, 0) else (0, [], r.2.2)
theorem told_2 (acc i : Nat) : told acc i (0, [], 2) = (0, [], 2) := by unfold told; rw [if_neg (by decide)]
theorem told_5 (acc i : Nat) : told acc i (0, [], 5) = (0, [], 5) := by unfold told; rw [if_neg (by decide)]
theorem told_ok (acc i v : Nat) (r : List Int) : told acc i (v, r, 0) = (((acc + 2 ^ (7 * i) * v : Nat) : Int), r, 0) := by unfold told; rw [if_pos rfl]
theorem acc_step (acc m X v : Nat) : acc + m * X + X * 2 ^ 7 * v = acc + X * (m + 128 * v) := by rw [Nat.mul_add, Nat.mul_comm m X, Nat.mul_assoc X (2 ^ 7) v, Nat.add_assoc]
theorem read_l0 (mm : Nat) (_hm10 : mm ≤ 10) : ∀ (d acc i : Nat) (b : List Int), Bytes b → b.length ≤ 140737488355328 → mm ≤ b.length → (mm = 10 ∨ mm = b.length) → i ≤ 9 → i + d = mm → acc < 2 ^ (7 * i) →
    pack_ReadUint_l0 b (acc : Int) (mm : Int) (i : Int) = some (told acc i (rdu i (b.drop i))) := by
  intro d
  induction d with
  | zero =>
    intro acc i b hb hm hml hmo hi hd ha
    rw [pack_ReadUint_l0_eq]
    simp -implicitDefEqProofs only [Bool.cond_decide]
    rw [if_neg (by omega), List.drop_eq_nil_of_le (by omega), rdu, told_5]
  | succ d ih =>
    intro acc i b hb hm hml hmo hi hd ha
    have hlt : i < b.length := by omega
    have f1 : (i : Int) < (mm : Int) := by omega
    have f2 : (0 : Int) ≤ (i : Int) := by omega
    have hc := hb _ (List.getElem_mem hlt)
    have hcw : IntKind.u64.wrap b[i] = b[i] := wrap_u64 hc.1 (by omega)
    have h7 : IntKind.i64.wrap (7 * (i : Int)) = 7 * (i : Int) := wrap_i64 (by omega) (by omega)
    have h1 : IntKind.i64.wrap ((i : Int) + 1) = ((i + 1 : Nat) : Int) := wrap_succ (by omega)
    have hand : Go.bits .and .u64 b[i] 127 = ((b[i].toNat % 128 : Nat) : Int) := by rw [ba127 hc.1 (by omega)]; omega
    have g1 : decide ((i : Int) < mm) = true := decide_eq_true f1
    have g2 : decide ((0 : Int) ≤ i) = true := decide_eq_true f2
    rw [List.drop_eq_getElem_cons hlt, pack_ReadUint_l0_eq, g1, cond_true, g2, cond_true, Int.toNat_natCast, List.getElem?_eq_getElem hlt, Option.bind_some]
    simp -implicitDefEqProofs only [hcw, h7, h1, ilen_eq, bits_and, bits_or, hand, Int.toNat_natCast, List.take_length]
    -- one round, once it is known whether the tenth byte is too large
    have step : ¬ (i = 9 ∧ 1 < b[i]) → (bif decide (7 * (i : Int) < 0) then none else bif decide (b[i] < 128) then bif b[i] == 0 then bif decide ((i : Int) > 0) then some ((0 : Int), ([] : List Int), (2 : Int))
              else bif decide (0 ≤ ((i + 1 : Nat) : Int)) then bif decide (((i + 1 : Nat) : Int) ≤ b.length) then bif decide ((b.length : Int) ≤ b.length)
                then some (Go.bits .or .u64 acc (IntKind.u64.wrap (((b[i].toNat % 128 : Nat) : Int) * 2 ^ min (7 * (i : Int)).toNat IntKind.u64.bits)), b.drop (i + 1), 0) else none else none else none
            else bif decide (0 ≤ ((i + 1 : Nat) : Int)) then bif decide (((i + 1 : Nat) : Int) ≤ b.length) then bif decide ((b.length : Int) ≤ b.length)
                then some (Go.bits .or .u64 acc (IntKind.u64.wrap (((b[i].toNat % 128 : Nat) : Int) * 2 ^ min (7 * (i : Int)).toNat IntKind.u64.bits)), b.drop (i + 1), 0) else none else none else none
          else pack_ReadUint_l0 b (Go.bits .or .u64 acc (IntKind.u64.wrap (((b[i].toNat % 128 : Nat) : Int) * 2 ^ min (7 * (i : Int)).toNat IntKind.u64.bits))) mm ((i + 1 : Nat) : Int)) = some (told acc i (rdu i (b[i] :: b.drop (i + 1)))) := by
      intro g
      rw [rdu, if_neg g]
      have hsh : b[i].toNat % 128 * 2 ^ (7 * i) < 18446744073709551616 := by
        by_cases h9 : i = 9
        · subst h9
          have : b[9].toNat ≤ 1 := by
            have : ¬ 1 < b[9] := fun h => g ⟨rfl, h⟩
            omega
          omega
        · have : 2 ^ (7 * i) ≤ 2 ^ 56 := Nat.pow_le_pow_right (by decide) (by omega)
          have h127 : b[i].toNat % 128 ≤ 127 := by omega
          have := Nat.mul_le_mul h127 this
          omega
      simp -implicitDefEqProofs only [Bool.cond_decide]
      rw [if_neg (by omega), shlu hi hsh, orsh hi ha hsh]
      by_cases h128 : b[i] < 128
      · rw [if_pos h128, if_pos h128]
        have hval : acc + b[i].toNat % 128 * 2 ^ (7 * i) = acc + 2 ^ (7 * i) * b[i].toNat := by rw [Nat.mod_eq_of_lt (by omega), Nat.mul_comm]
        by_cases hz : b[i] = 0
        · rw [beq_yes hz, cond_true]
          by_cases hp : 0 < i
          · rw [if_pos (by omega), if_pos ⟨hz, hp⟩, told_2]
          · rw [if_neg (show ¬ ((i : Int) > 0) by omega), if_pos (show (0 : Int) ≤ ((i + 1 : Nat) : Int) by omega), if_pos (show ((i + 1 : Nat) : Int) ≤ (b.length : Int) by omega), if_pos (Int.le_refl _), if_neg (show ¬ (b[i] = 0 ∧ 0 < i) from fun h => hp h.2), hval, told_ok]
        · rw [beq_no hz, cond_false, if_pos (show (0 : Int) ≤ ((i + 1 : Nat) : Int) by omega), if_pos (show ((i + 1 : Nat) : Int) ≤ (b.length : Int) by omega), if_pos (Int.le_refl _), if_neg (show ¬ (b[i] = 0 ∧ 0 < i) from fun h => hz h.1), hval, told_ok]
      · rw [if_neg h128, if_neg h128]
        have hi9 : i ≠ 9 := fun h => g ⟨h, by omega⟩
        have hacc : acc + b[i].toNat % 128 * 2 ^ (7 * i) < 2 ^ (7 * (i + 1)) := by
          have h127 : b[i].toNat % 128 ≤ 127 := by omega
          have h2 := Nat.mul_le_mul_right (2 ^ (7 * i)) h127
          rw [show 7 * (i + 1) = 7 * i + 7 by omega, Nat.pow_add]
          omega
        rw [ih (acc + b[i].toNat % 128 * 2 ^ (7 * i)) (i + 1) b hb hm hml hmo (by omega) (by omega) hacc]
        refine congrArg some ?_
        unfold told
        by_cases he : (rdu (i + 1) (b.drop (i + 1))).2.2 = 0
        · rw [if_pos he, if_pos he, if_pos rfl]
          rw [show 7 * (i + 1) = 7 * i + 7 by omega, Nat.pow_add, acc_step]
        · rw [if_neg he, if_neg he, if_neg he]
    by_cases g9 : i = 9
    · rw [beq_yes (show (i : Int) = 9 by omega), cond_true]
      by_cases g8 : 1 < b[i]
      · rw [decide_eq_true (show b[i] > 1 from g8), cond_true, rdu, if_pos ⟨g9, g8⟩, told_2]
      · rw [decide_eq_false (show ¬ b[i] > 1 from g8), cond_false]
        exact step fun h => g8 h.2
    · rw [beq_no (show ¬ (i : Int) = 9 by omega), cond_false]
      exact step fun h => g9 h.1
/-- The number as a rdwhole one of the other kind, the bytes, the error. -/
def rdwhole (r : Nat × List Int × Int) : Int × List Int × Int := ((r.1 : Int), r.2.1, r.2.2)
theorem readUint_spec {b : List Int} (hb : Bytes b) (hm : b.length ≤ 140737488355328) : pack_ReadUint b = some (rdwhole (rdu 0 b)) := by
  have := read_l0 (min b.length 10) (by omega) (min b.length 10) 0 0 b hb hm (by omega) (by omega) (by omega) (by omega) (by decide)
  have e : (if (10 : Int) < ilen b then 10 else ilen b) = ((min b.length 10 : Nat) : Int) := by rw [ilen_eq]; split <;> omega
  rw [pack_ReadUint_eq, e]
  refine this.trans (congrArg some ?_)
  unfold told rdwhole
  by_cases he : (rdu 0 (b.drop 0)).2.2 = 0
  · rw [if_pos he]
    rw [List.drop_zero] at he ⊢
    rw [he]
    simp
  · rw [if_neg he]
    rw [List.drop_zero] at he ⊢
    obtain ⟨h1, h2⟩ := rdu_err 0 b he
    rw [h1, h2]; rfl
/-- Bytes that bytes begin with. -/
def rdb (b : List Int) : List Int × List Int × Int :=
  if (rdu 0 b).2.2 = 0 then (if (rdu 0 b).2.1.length < (rdu 0 b).1 then ([], [], 5) else ((rdu 0 b).2.1.take (rdu 0 b).1, (rdu 0 b).2.1.drop (rdu 0 b).1, 0)) else ([], [], (rdu 0 b).2.2)
theorem rdu_len (i : Nat) (b : List Int) : (rdu i b).2.1.length ≤ b.length := by
  induction b generalizing i with
  | nil => simp [rdu]
  | cons c r ih =>
    have := ih (i + 1)
    rw [rdu]
    split
    · simp
    · split
      · split <;> simp
      · split
        · simp; omega
        · simp
theorem rdu_rest {b : List Int} (hb : Bytes b) (i : Nat) : Bytes (rdu i b).2.1 := by
  induction b generalizing i with
  | nil => exact Bytes.nil
  | cons c r ih =>
    have hr : Bytes r := fun x hx => hb x (by simp [hx])
    rw [rdu]
    split
    · exact Bytes.nil
    · split
      · split
        · exact Bytes.nil
        · exact hr
      · split
        · exact ih hr (i + 1)
        · exact Bytes.nil
end Go.Proofs.Ytgaihonnbdhbmaa.PE
namespace Go.Proofs.Ytgaihonnbdhbmaa.PE
open Go Go.RowKit Go.Proofs.Ytgaihonnbdhbmaa.Pack
theorem bytes_spec {x0 l1 : List Int} (hl : x0.length ≤ 140737488300000) (hl1 : l1.length ≤ 50000) : pack_Bytes x0 l1 = some (x0 ++ enc l1.length ++ l1) := by
  rw [pack_Bytes_eq, ilen_eq, wrap_u64 (by omega) (by omega), uint_spec (by omega) (by omega), Option.bind_some]
  have := enc_length l1.length
  rw [Bool.cond_decide, if_pos (show _ ≤ room by simp only [ilen_eq, List.length_append, room_eq]; omega)]
theorem readBytes_spec {b : List Int} (hb : Bytes b) (hm : b.length ≤ 140737488351232) : pack_ReadBytes b = some (rdb b) := by
  rw [pack_ReadBytes_eq, readUint_spec hb (by omega), Option.bind_some, rdwhole, rdb]
  have hl := rdu_len 0 b
  by_cases he : (rdu 0 b).2.2 = 0
  · rw [if_pos he, bne_no he, cond_false]
    dsimp only
    simp -implicitDefEqProofs only [ilen_eq, Bool.cond_decide, Int.toNat_natCast, List.take_length]
    rw [wrap_u64 (by omega) (by omega)]
    by_cases hv : (rdu 0 b).2.1.length < (rdu 0 b).1
    · rw [if_pos (by omega), if_pos hv]
    · rw [if_neg (by omega), if_neg hv, if_pos (by omega), if_pos (by omega), if_pos (by omega), if_pos (by omega), if_pos (by omega), if_pos (by omega)]
      rfl
  · rw [if_neg he, bne_yes he, cond_true]
end Go.Proofs.Ytgaihonnbdhbmaa.PE
namespace Go.Proofs.Ytgaihonnbdhbmaa.PE
def nmc (c : Int) : Bool := (decide (48 ≤ c) && decide (c ≤ 57)) || (decide (97 ≤ c) && decide (c ≤ 122))
def nameL : List Int → Bool
  | [] => false
  | c :: r => decide (97 ≤ c) && (c :: r).all nmc && decide ((c :: r).length ≤ 32)
def nameS (s : ByteArray) : Bool := nameL (bytesList s)
theorem bytesList_len (s : ByteArray) : (bytesList s).length = s.size := by unfold bytesList; rw [List.length_map]; rfl
theorem bytesList_at (s : ByteArray) (i : Nat) : (bytesList s)[i]? = (s.data[i]?).map fun b => (b.toNat : Int) := by unfold bytesList; rw [List.getElem?_map, Array.getElem?_toList]
theorem name_l0 {s : ByteArray} (hs : s.size ≤ 140737488351232) : ∀ (r : List Int) (i : Nat), (bytesList s).drop i = r → 0 < i → pack_Name_l0 s (bytesList s).length i (bytesList s) = some (r.all nmc && (decide (1 ≤ s.size) && decide (s.size ≤ 32))) := by
  have hlen := bytesList_len s
  intro r
  induction r with
  | nil =>
    intro i h hi
    have h1 := at_nil h
    rw [pack_Name_l0_eq, isize_eq]
    simp -implicitDefEqProofs only [Bool.cond_decide]
    rw [if_neg (by omega)]
    by_cases h2 : 1 ≤ s.size
    · rw [if_pos (by omega)]
      have : decide ((s.size : Int) ≤ 32) = decide (s.size ≤ 32) := by apply decide_eq_decide.2; omega
      rw [this]
      simp [h2]
    · rw [if_neg (by omega)]; simp [h2]
  | cons c r ih =>
    intro i h hi
    obtain ⟨h1, h2, h3⟩ := at_drop h
    rw [pack_Name_l0_eq, ilen_eq]
    simp -implicitDefEqProofs only [Bool.cond_decide, Int.toNat_natCast, h2, Option.bind_some]
    rw [if_pos (by omega), if_pos (by omega), if_pos (by omega), wrap_succ (by omega), ih (i + 1) h3 (by omega), beq_no (show ¬ (i : Int) = 0 by omega), List.all_cons]
    by_cases k1 : c ≥ 97
    · rw [if_pos k1]
      by_cases k2 : c ≤ 122
      · rw [decide_eq_true k2, Bool.not_true, cond_false, show nmc c = true by simp [nmc, show 97 ≤ c from k1, k2], Bool.true_and]
      · rw [decide_eq_false k2, Bool.not_false, cond_true, cond_false, if_neg (by omega), if_pos (by omega), show nmc c = false by simp [nmc, k2]; omega]
        rfl
    · rw [if_neg k1, cond_false]
      by_cases k2 : c < 48
      · rw [if_pos k2, show nmc c = false by simp [nmc]; omega]
        rfl
      · rw [if_neg k2]
        by_cases k3 : c > 57
        · rw [if_pos k3, show nmc c = false by simp [nmc]; omega]
          rfl
        · rw [if_neg k3, show nmc c = true by simp [nmc]; omega, Bool.true_and]
theorem name_spec {s : ByteArray} (hs : s.size ≤ 140737488351232) : pack_Name s = some (nameS s) := by
  have hlen := bytesList_len s
  rw [pack_Name_eq, ilen_eq, nameS]
  cases hl : bytesList s with
  | nil =>
    rw [hl] at hlen
    rw [pack_Name_l0_eq, isize_eq]
    simp -implicitDefEqProofs only [Bool.cond_decide]
    rw [if_neg (by simp), if_neg (by simp at hlen; omega)]
    rfl
  | cons c r =>
    have hd : (bytesList s).drop 0 = c :: r := hl
    obtain ⟨h1, h2, h3⟩ := at_drop hd
    have key := name_l0 hs r 1 h3 (by omega)
    rw [← hl, pack_Name_l0_eq, ilen_eq]
    simp -implicitDefEqProofs only [Bool.cond_decide]
    rw [if_pos (by omega), if_pos (by omega), if_pos (by omega), show Int.toNat 0 = 0 from rfl, h2, Option.bind_some, wrap_i64 (by omega) (by omega), beq_yes rfl]
    rw [show (0 : Int) + 1 = ((1 : Nat) : Int) by omega, key]
    have e2 : decide ((c :: r).length ≤ 32) = decide (s.size ≤ 32) := by rw [← hlen, hl]
    rw [hl, nameL, e2, List.all_cons, decide_eq_true (show 1 ≤ s.size by omega), Bool.true_and]
    by_cases k1 : c ≥ 97
    · rw [if_pos k1, decide_eq_true (show 97 ≤ c from k1), Bool.true_and]
      by_cases k2 : c ≤ 122
      · rw [decide_eq_true k2, Bool.not_true, cond_false, show nmc c = true by simp [nmc, show 97 ≤ c from k1, k2], Bool.true_and]
      · rw [decide_eq_false k2, Bool.not_false, cond_true, cond_true, show nmc c = false by simp [nmc, k2]; omega]
        rfl
    · rw [if_neg k1, cond_true, decide_eq_false (show ¬ 97 ≤ c from k1)]
      rfl
theorem refName_l0 {s : ByteArray} (hs : s.size ≤ 140737488351232) : ∀ (r : List Int) (i : Nat), (bytesList s).drop i = r → ref02_Name_l0 s i = some (r.all nmc) := by
  have hlen := bytesList_len s
  intro r
  induction r with
  | nil =>
    intro i h
    have h1 := at_nil h
    rw [ref02_Name_l0_eq, isize_eq]
    simp -implicitDefEqProofs only [Bool.cond_decide]
    rw [if_neg (by omega)]
    rfl
  | cons c r ih =>
    intro i h
    obtain ⟨h1, h2, h3⟩ := at_drop h
    rw [bytesList_at] at h2
    obtain ⟨v, hv, rfl⟩ := Option.map_eq_some_iff.1 h2
    rw [ref02_Name_l0_eq, isize_eq]
    simp -implicitDefEqProofs only [Bool.cond_decide, Int.toNat_natCast, hv, Option.bind_some, if_pos (show (i : Int) < s.size by omega), if_pos (show (0 : Int) ≤ i by omega)]
    rw [wrap_succ (by omega), ih (i + 1) h3, List.all_cons]
    generalize (v.toNat : Int) = c
    by_cases k1 : c ≥ 48
    · rw [if_pos k1]
      by_cases k2 : c ≥ 97
      · rw [if_pos k2, decide_eq_false (show ¬ c ≤ 57 by omega), Bool.not_false, cond_true]
        by_cases k3 : c ≤ 122
        · rw [decide_eq_true k3, Bool.not_true, cond_false, show nmc c = true by simp [nmc]; omega, Bool.true_and]
        · rw [decide_eq_false k3, Bool.not_false, cond_true, show nmc c = false by simp [nmc]; omega, Bool.false_and]
      · rw [if_neg k2]
        by_cases k3 : c ≤ 57
        · rw [decide_eq_true k3, Bool.not_true, cond_false, show nmc c = true by simp [nmc]; omega, Bool.true_and]
        · rw [decide_eq_false k3, Bool.not_false, cond_true, show nmc c = false by simp [nmc]; omega, Bool.false_and]
    · rw [if_neg k1, if_neg (show ¬ c ≥ 97 by omega), show nmc c = false by simp [nmc]; omega, Bool.false_and]
theorem refName_spec {s : ByteArray} (hs : s.size ≤ 140737488351232) : ref02_Name s = some (nameS s) := by
  have hlen := bytesList_len s
  rw [ref02_Name_eq, isize_eq, nameS]
  simp -implicitDefEqProofs only [Bool.cond_decide]
  cases hl : bytesList s with
  | nil =>
    rw [hl] at hlen
    rw [beq_yes (show (s.size : Int) = 0 by simp at hlen; omega)]
    rfl
  | cons c r =>
    have hd : (bytesList s).drop 0 = c :: r := hl
    obtain ⟨h1, h2, h3⟩ := at_drop hd
    have key := refName_l0 hs (bytesList s) 0 rfl
    rw [Int.natCast_zero] at key
    rw [bytesList_at] at h2
    obtain ⟨v, hv, rfl⟩ := Option.map_eq_some_iff.1 h2
    rw [beq_no (show ¬ (s.size : Int) = 0 by omega), cond_false, show Int.toNat 0 = 0 from rfl, hv, Option.bind_some, key, hl, nameL]
    have e2 : decide ((((v.toNat : Int)) :: r).length ≤ 32) = decide (s.size ≤ 32) := by rw [← hlen, hl]
    rw [e2]
    by_cases k1 : (s.size : Int) > 32
    · rw [if_pos k1, decide_eq_false (show ¬ s.size ≤ 32 by omega), Bool.and_false]
    · rw [if_neg k1, decide_eq_true (show s.size ≤ 32 by omega), Bool.and_true]
      by_cases k2 : (v.toNat : Int) < 97
      · rw [if_pos k2, decide_eq_false (show ¬ 97 ≤ (v.toNat : Int) by omega), Bool.false_and]
      · rw [if_neg k2, decide_eq_true (show 97 ≤ (v.toNat : Int) by omega), Bool.true_and]
end Go.Proofs.Ytgaihonnbdhbmaa.PE
namespace Go.Proofs.Ytgaihonnbdhbmaa.PE
open Go Go.RowKit Go.Proofs.Ytgaihonnbdhbmaa.Pack
theorem xor_ones {n : Nat} (h : n < 18446744073709551616) : Go.bits .xor .u64 (n : Int) 18446744073709551615 = ((18446744073709551615 - n : Nat) : Int) := by
  show IntKind.u64.wrap (((BitVec.ofInt 64 (n : Int) ^^^ BitVec.ofInt 64 18446744073709551615).toNat : Nat) : Int) = _
  have e2 : BitVec.ofInt 64 18446744073709551615 = BitVec.allOnes 64 := by decide
  rw [e2, BitVec.xor_allOnes, BitVec.toNat_not, BitVec.ofInt_natCast, BitVec.toNat_ofNat, Nat.mod_eq_of_lt (show n < 2 ^ 64 from h)]
  exact wrap_u64 (by omega) (by omega)
theorem xor_zero {n : Nat} (h : n < 18446744073709551616) : Go.bits .xor .u64 (n : Int) 0 = (n : Int) := by
  show IntKind.u64.wrap (((BitVec.ofInt 64 (n : Int) ^^^ BitVec.ofInt 64 0).toNat : Nat) : Int) = _
  have e2 : BitVec.ofInt 64 0 = 0#64 := by decide
  rw [e2, BitVec.xor_zero, BitVec.ofInt_natCast, BitVec.toNat_ofNat, Nat.mod_eq_of_lt (show n < 2 ^ 64 from h)]
  exact wrap_u64 (by omega) (by omega)
theorem zigzag {m : Int} (h0 : -9223372036854775808 ≤ m) (h1 : m ≤ 9223372036854775807) :
    Go.bits .xor .u64 (IntKind.u64.wrap ((IntKind.u64.wrap m) * 2)) (IntKind.u64.wrap (m / 9223372036854775808)) = ((zig m : Nat) : Int) := by
  by_cases h : 0 ≤ m
  · rw [show m / 9223372036854775808 = 0 by omega, wrap_u64 (x := 0) (by omega) (by omega), wrap_u64 (x := m) h (by omega), wrap_u64 (by omega) (by omega), show m * 2 = (((2 * m).toNat : Nat) : Int) by omega, xor_zero (by omega)]
    unfold zig; rw [if_pos h]
  · rw [show m / 9223372036854775808 = -1 by omega, wrap_u64' (x := -1), wrap_u64' (x := m), wrap_u64', show (-1 : Int) % 18446744073709551616 = 18446744073709551615 from rfl, show m % 18446744073709551616 * 2 % 18446744073709551616 = (((18446744073709551616 + 2 * m).toNat : Nat) : Int) by omega, xor_ones (by omega)]
    unfold zig; rw [if_neg h]; omega
theorem int_spec {m : Int} {x0 : List Int} (h0 : -9223372036854775808 ≤ m) (h1 : m ≤ 9223372036854775807) (hl : x0.length ≤ 140737488351000) : pack_Int x0 m = some (x0 ++ enc (zig m)) := by
  rw [pack_Int_eq, bits_xor, show ((2 : Int) ^ min (Int.toNat 1) IntKind.u64.bits) = 2 from rfl, show ((2 : Int) ^ min (Int.toNat 63) IntKind.i64.bits) = 9223372036854775808 from rfl, Int.fdiv_eq_ediv_of_nonneg _ (by omega), zigzag h0 h1, uint_spec (zig_lt h0 h1) hl]
  rfl
/-- Bytes behind their number. -/
def encB (s : List Int) : List Int := enc s.length ++ s
theorem encB_len (s : List Int) : (encB s).length ≤ s.length + 10 := by
  have := enc_length s.length
  simp only [encB, List.length_append]; omega
theorem bytesL {x0 s : List Int} (hl : x0.length ≤ 1000000000000) (hs : s.length ≤ 100000) : pack_Bytes x0 s = some (x0 ++ encB s) := by
  rw [pack_Bytes_eq, ilen_eq, wrap_u64 (by omega) (by omega), uint_spec (by omega) (by omega), Option.bind_some]
  have := enc_length s.length
  rw [Bool.cond_decide, if_pos (show _ ≤ room by simp only [ilen_eq, List.length_append, room_eq]; omega), List.append_assoc]
  rfl
theorem xorz {n : Nat} (h : n < 9223372036854775808) : Go.bits .xor .i64 (n : Int) 0 = (n : Int) := by
  show IntKind.i64.wrap (((BitVec.ofInt 64 (n : Int) ^^^ BitVec.ofInt 64 0).toNat : Nat) : Int) = _
  have e2 : BitVec.ofInt 64 0 = 0#64 := by decide
  rw [e2, BitVec.xor_zero, BitVec.ofInt_natCast, BitVec.toNat_ofNat, Nat.mod_eq_of_lt (show n < 2 ^ 64 by omega)]
  exact wrap_i64 (by omega) (by omega)
theorem xorm {n : Nat} (h : n < 9223372036854775808) : Go.bits .xor .i64 (n : Int) (-1) = -(n : Int) - 1 := by
  show IntKind.i64.wrap (((BitVec.ofInt 64 (n : Int) ^^^ BitVec.ofInt 64 (-1)).toNat : Nat) : Int) = _
  have e2 : BitVec.ofInt 64 (-1) = BitVec.allOnes 64 := by decide
  rw [e2, BitVec.xor_allOnes, BitVec.toNat_not, BitVec.ofInt_natCast, BitVec.toNat_ofNat, Nat.mod_eq_of_lt (show n < 2 ^ 64 by omega)]
  rw [IntKind.wrap_i64]
  omega
theorem unzig {v : Nat} (h : v < 18446744073709551616) :
    Go.bits .xor .i64 (IntKind.i64.wrap ((v : Int).fdiv (2 ^ min (Int.toNat 1) IntKind.u64.bits))) (IntKind.i64.wrap (0 - IntKind.i64.wrap (Go.bits .and .u64 (v : Int) 1))) = zag v := by
  rw [show ((2 : Int) ^ min (Int.toNat 1) IntKind.u64.bits) = 2 from rfl, Int.fdiv_eq_ediv_of_nonneg _ (by omega), ba1 (by omega) (by omega), wrap_i64 (x := (v : Int) / 2) (by omega) (by omega), wrap_i64 (x := (v : Int) % 2) (by omega) (by omega), wrap_i64 (by omega) (by omega), show (v : Int) / 2 = ((v / 2 : Nat) : Int) by omega]
  unfold zag
  by_cases he : v % 2 = 0
  · rw [if_pos he, show (0 : Int) - (v : Int) % 2 = 0 by omega, xorz (by omega)]
  · rw [if_neg he, show (0 : Int) - (v : Int) % 2 = -1 by omega, xorm (by omega)]
theorem readInt_spec {b : List Int} (hb : Bytes b) (hm : b.length ≤ 140737488355328) : pack_ReadInt b = some (zag (rdu 0 b).1, (rdu 0 b).2.1, (rdu 0 b).2.2) := by
  have h64 := rdu_lt 0 b hb (by omega)
  rw [pack_ReadInt_eq, readUint_spec hb hm, Option.bind_some]
  show some (IntKind.i64.wrap ↑(BitVec.ofInt IntKind.i64.bits (IntKind.i64.wrap (((rdu 0 b).1 : Int).fdiv (2 ^ min (Int.toNat 1) IntKind.u64.bits))) ^^^ BitVec.ofInt IntKind.i64.bits (IntKind.i64.wrap (0 - IntKind.i64.wrap (IntKind.u64.wrap ↑(BitVec.ofInt IntKind.u64.bits ((rdu 0 b).1 : Int) &&& BitVec.ofInt IntKind.u64.bits 1).toNat)))).toNat, (rdu 0 b).2.1, (rdu 0 b).2.2) = _
  rw [bits_and, bits_xor, unzig (by omega)]
end Go.Proofs.Ytgaihonnbdhbmaa.PE
namespace Go.Proofs.Ytgaihonnbdhbmaa.PE
open Go Go.RowKit Go.Proofs.Ytgaihonnbdhbmaa.Pack
theorem refUint_l0 : ∀ (f n : Nat) (x0 : List Int), n < 128 ^ (f + 1) → n < 18446744073709551616 → x0.length + f < 140737488351200 → ref02_Uint_l0 (n : Int) x0 = some (x0 ++ encF f n) := by
  intro f
  induction f with
  | zero =>
    intro n x0 hn hn64 hl
    have : n < 128 := by simpa using hn
    rw [ref02_Uint_l0_eq]
    simp -implicitDefEqProofs only [Bool.cond_decide]
    rw [if_neg (by omega), if_pos (show _ ≤ room by simp only [ilen_eq, List.length_cons, List.length_nil, room_eq]; omega), encF, wrap_u8, show (n : Int) % 256 = n by omega]
  | succ f ih =>
    intro n x0 hn hn64 hl
    rw [ref02_Uint_l0_eq, encF]
    simp -implicitDefEqProofs only [Bool.cond_decide]
    by_cases h : n < 128
    · rw [if_neg (by omega), if_pos (show _ ≤ room by simp only [ilen_eq, List.length_cons, List.length_nil, room_eq]; omega), if_pos h, wrap_u8, show (n : Int) % 256 = n by omega]
    · rw [if_pos (by omega), if_pos (show _ ≤ room by simp only [ilen_eq, List.length_cons, List.length_nil, room_eq]; omega), if_neg h]
      rw [Int.tmod_eq_emod_of_nonneg (by omega), Int.tdiv_eq_ediv_of_nonneg (by omega), wrap_u64 (x := 128 + (n : Int) % 128) (by omega) (by omega), wrap_u8, show (128 + (n : Int) % 128) % 256 = ((n % 128 + 128 : Nat) : Int) by omega, wrap_u64 (by omega) (by omega), show (n : Int) / 128 = ((n / 128 : Nat) : Int) by omega, ih (n / 128) _ (by rw [Nat.pow_succ] at hn; exact Nat.div_lt_of_lt_mul (by rw [Nat.mul_comm]; exact hn)) (by omega) (by simp only [List.length_append, List.length_cons, List.length_nil]; omega)]
      rw [List.append_assoc, List.singleton_append]
theorem refUint_spec {n : Nat} (hn : n < 18446744073709551616) : ref02_Uint (n : Int) = some (enc n) := by
  rw [ref02_Uint_eq]
  exact refUint_l0 9 n [] (Nat.lt_of_lt_of_le hn (by decide)) hn (by simp)
theorem refBytesL {s : List Int} (hs : s.length ≤ 100000) : ref02_Bytes s = some (encB s) := by
  rw [ref02_Bytes_eq, ilen_eq, wrap_u64 (by omega) (by omega), refUint_spec (by omega), Option.bind_some]
  have := enc_length s.length
  rw [Bool.cond_decide, if_pos (show _ ≤ room by simp only [ilen_eq, room_eq]; omega)]
  rfl
theorem refInt_spec {m : Int} (h0 : -9223372036854775808 ≤ m) (h1 : m ≤ 9223372036854775807) : ref02_Int m = some (enc (zig m)) := by
  rw [ref02_Int_eq]
  simp -implicitDefEqProofs only [Bool.cond_decide]
  unfold zig
  by_cases h : m ≥ 0
  · rw [if_pos h, if_pos h, wrap_u64 (x := m) h (by omega), wrap_u64 (by omega) (by omega), show m * 2 = (((2 * m).toNat : Nat) : Int) by omega, refUint_spec (by omega)]
    rfl
  · rw [if_neg h, if_neg h, wrap_i64 (x := m + 1) (by omega) (by omega), wrap_i64 (by omega) (by omega), wrap_u64 (x := 0 - (m + 1)) (by omega) (by omega), wrap_u64 (x := (0 - (m + 1)) * 2) (by omega) (by omega), wrap_u64 (by omega) (by omega), show (0 - (m + 1)) * 2 + 1 = (((-2 * m - 1).toNat : Nat) : Int) by omega, refUint_spec (by omega)]
    rfl
end Go.Proofs.Ytgaihonnbdhbmaa.PE
namespace Go.Proofs.Ytgaihonnbdhbmaa.PE
abbrev J : Type := Int × Int × Int × ByteArray × Int × ByteArray × Int
def emp : ByteArray := ⟨#[]⟩
def E0 (s : ByteArray) : Bool := s.toList == (⟨#[]⟩ : ByteArray).toList
def inR (a b c : Int) : Bool := decide (b ≤ a) && decide (a ≤ c)
/-- May a job be? -/
def okJ (j : J) : Bool := inR j.1 1 1099511627776 && (inR j.2.1 1 1099511627776 && (inR j.2.2.1 1 1099511627776 && (inR j.2.2.2.2.1 0 9 && (inR j.2.2.2.2.2.2 0 1099511627776 && (nameS j.2.2.2.1 &&
  bif E0 j.2.2.2.2.2.1 then j.2.2.2.2.2.2 == 0 else bif nameS j.2.2.2.2.2.1 then decide (j.2.2.2.2.1 > 0) else false)))))
/-- Texts of a size that may be. -/
def TxJ (j : J) : Prop := j.2.2.2.1.size ≤ 140737488351232 ∧ j.2.2.2.2.2.1.size ≤ 140737488351232
theorem in_spec (a b c : Int) : ref19_in a b c = some (inR a b c) := by
  rw [ref19_in_eq, inR]
  by_cases h : a ≥ b
  · rw [decide_eq_true h, cond_true]; rfl
  · rw [decide_eq_false h, cond_false]; rfl
theorem ga (a x : Bool) : (bif !a then some false else some x) = some (a && x) := by cases a <;> rfl
theorem gc (a x : Bool) : (bif !a then false else x) = (a && x) := by cases a <;> rfl
theorem gb {α : Type} (c : Bool) (a b : α) : (bif c then some a else some b) = some (bif c then a else b) := by cases c <;> rfl
theorem job_spec {j : J} (h : TxJ j) : ref19_Job j.1 j.2.1 j.2.2.1 j.2.2.2.1 j.2.2.2.2.1 j.2.2.2.2.2.1 j.2.2.2.2.2.2 = some (okJ j) := by
  rw [ref19_Job_eq]
  simp -implicitDefEqProofs only [in_spec, Option.bind_some, refName_spec h.1, refName_spec h.2, gb, gc]
  rfl
/-- Jobs that may be, each behind the ones ahead of it. -/
def rising : Int → List J → Bool
  | _, [] => true
  | last, j :: r => okJ j && (decide (last < j.1) && rising j.1 r)
theorem okJ_range {j : J} (h : okJ j = true) : 1 ≤ j.1 ∧ j.1 ≤ 1099511627776 ∧ 0 ≤ j.2.2.2.2.1 ∧ j.2.2.2.2.1 ≤ 9 ∧ 0 ≤ j.2.2.2.2.2.2 ∧ j.2.2.2.2.2.2 ≤ 1099511627776 := by
  simp only [okJ, inR, Bool.and_eq_true, decide_eq_true_eq] at h
  exact ⟨h.1.1, h.1.2, h.2.2.2.1.1, h.2.2.2.1.2, h.2.2.2.2.1.1, h.2.2.2.2.1.2⟩
theorem refCheck_l0 {l : List J} (hl : l.length ≤ 1000000) (ht : ∀ j ∈ l, TxJ j) : ∀ (r : List J) (i : Nat) (last : Int), l.drop i = r → (i = 0 → last = 0) → (∀ k, i = k + 1 → ∃ j, l[k]? = some j ∧ j.1 = last) → ref19_Check_l0 l i = some (bif rising last r then 0 else 1) := by
  intro r
  induction r with
  | nil =>
    intro i last h _ _
    have h1 := at_nil h
    rw [ref19_Check_l0_eq, ilen_eq]
    simp -implicitDefEqProofs only [Bool.cond_decide]
    rw [if_neg (by omega)]
    rfl
  | cons x r ih =>
    intro i last h h0 hp
    obtain ⟨h1, h2, h3⟩ := at_drop h
    rw [ref19_Check_l0_eq, ilen_eq]
    simp -implicitDefEqProofs only [Bool.cond_decide, Int.toNat_natCast, h2, Option.bind_some, job_spec (ht x (List.mem_of_getElem? h2))]
    rw [if_pos (by omega), if_pos (by omega), wrap_succ (by omega), rising]
    cases hx : okJ x with
    | false => rfl
    | true =>
      have hr := okJ_range hx
      rw [Bool.not_true, cond_false, Bool.true_and]
      cases i with
      | zero =>
        rw [if_neg (by omega), ih 1 x.1 h3 (by omega) (fun k hk => ⟨x, by rw [show k = 0 by omega]; exact h2, rfl⟩), h0 rfl, decide_eq_true (show 0 < x.1 by omega), Bool.true_and]
      | succ k =>
        obtain ⟨j, hj1, hj2⟩ := hp k rfl
        rw [if_pos (by omega), wrap_i64 (by omega) (by omega), if_pos (by omega), show (((k + 1 : Nat) : Int) - 1).toNat = k by omega, hj1, Option.bind_some, if_pos (by omega)]
        by_cases hc : j.1 ≥ x.1
        · rw [if_pos hc, decide_eq_false (by omega)]; rfl
        · rw [if_neg hc, ih (k + 2) x.1 h3 (by omega) (fun m hm => ⟨x, by rw [show m = k + 1 by omega]; exact h2, rfl⟩), decide_eq_true (by omega), Bool.true_and]
theorem refCheck_spec {l : List J} (hl : l.length ≤ 1000000) (ht : ∀ j ∈ l, TxJ j) : ref19_Check l = some (bif rising 0 l then 0 else 1) := by
  have := refCheck_l0 hl ht l 0 0 rfl (fun _ => rfl) (fun k h => by omega)
  rw [ref19_Check_eq]
  exact this
theorem check_l0 {l : List J} (hl : l.length ≤ 1000000) (ht : ∀ j ∈ l, TxJ j) : ∀ (r : List J) (i : Nat) (last : Int), l.drop i = r → 0 ≤ last → jobs_Check_l0 last l l.length i = some (bif rising last r then 0 else 1) := by
  intro r
  induction r with
  | nil =>
    intro i last h _
    have h1 := at_nil h
    rw [jobs_Check_l0_eq]
    simp -implicitDefEqProofs only [Bool.cond_decide]
    rw [if_neg (by omega)]
    rfl
  | cons x r ih =>
    intro i last h h0
    obtain ⟨h1, h2, h3⟩ := at_drop h
    have htx := ht x (List.mem_of_getElem? h2)
    rw [jobs_Check_l0_eq]
    simp -implicitDefEqProofs only [Bool.cond_decide, Int.toNat_natCast, h2, Option.bind_some, name_spec htx.1, name_spec htx.2]
    rw [if_pos (by omega), if_pos (by omega), wrap_succ (by omega), rising]
    by_cases k1 : x.1 ≤ last
    · rw [if_pos k1, decide_eq_false (show ¬ last < x.1 by omega), Bool.false_and, Bool.and_false]; rfl
    rw [if_neg k1, ih (i + 1) x.1 h3 (by omega), decide_eq_true (show last < x.1 by omega), Bool.true_and]
    have e1 : (x.2.2.2.2.2.1.toList == (⟨#[]⟩ : ByteArray).toList) = E0 x.2.2.2.2.2.1 := rfl
    rw [e1, okJ, inR, inR, inR, inR, inR]
    generalize rising x.1 r = R
    generalize nameS x.2.2.2.1 = n1
    generalize nameS x.2.2.2.2.2.1 = n2
    generalize E0 x.2.2.2.2.2.1 = e0
    by_cases k2 : x.1 > 1099511627776
    · rw [if_pos k2, decide_eq_false (show ¬ x.1 ≤ 1099511627776 by omega)]; simp
    rw [if_neg k2, decide_eq_true (show 1 ≤ x.1 by omega), decide_eq_true (show x.1 ≤ 1099511627776 by omega)]
    by_cases k3 : x.2.1 < 1
    · rw [if_pos k3, decide_eq_false (show ¬ 1 ≤ x.2.1 by omega)]; simp
    rw [if_neg k3, decide_eq_true (show 1 ≤ x.2.1 by omega)]
    by_cases k4 : x.2.1 > 1099511627776
    · rw [if_pos k4, decide_eq_false (show ¬ x.2.1 ≤ 1099511627776 by omega)]; simp
    rw [if_neg k4, decide_eq_true (show x.2.1 ≤ 1099511627776 by omega)]
    by_cases k5 : x.2.2.1 < 1
    · rw [if_pos k5, decide_eq_false (show ¬ 1 ≤ x.2.2.1 by omega)]; simp
    rw [if_neg k5, decide_eq_true (show 1 ≤ x.2.2.1 by omega)]
    by_cases k6 : x.2.2.1 > 1099511627776
    · rw [if_pos k6, decide_eq_false (show ¬ x.2.2.1 ≤ 1099511627776 by omega)]; simp
    rw [if_neg k6, decide_eq_true (show x.2.2.1 ≤ 1099511627776 by omega)]
    cases n1 with
    | false => simp
    | true =>
    rw [Bool.not_true, cond_false]
    by_cases k7 : x.2.2.2.2.1 < 0
    · rw [if_pos k7, decide_eq_false (show ¬ 0 ≤ x.2.2.2.2.1 by omega)]
      cases e0 <;> cases n2 <;> simp
    rw [if_neg k7, decide_eq_true (show 0 ≤ x.2.2.2.2.1 by omega)]
    by_cases k8 : x.2.2.2.2.1 > 9
    · rw [if_pos k8, decide_eq_false (show ¬ x.2.2.2.2.1 ≤ 9 by omega)]
      cases e0 <;> cases n2 <;> simp
    rw [if_neg k8, decide_eq_true (show x.2.2.2.2.1 ≤ 9 by omega)]
    by_cases k9 : x.2.2.2.2.2.2 < 0
    · rw [if_pos k9, decide_eq_false (show ¬ 0 ≤ x.2.2.2.2.2.2 by omega)]
      cases e0 <;> cases n2 <;> simp
    rw [if_neg k9, decide_eq_true (show 0 ≤ x.2.2.2.2.2.2 by omega)]
    by_cases k10 : x.2.2.2.2.2.2 > 1099511627776
    · rw [if_pos k10, decide_eq_false (show ¬ x.2.2.2.2.2.2 ≤ 1099511627776 by omega)]
      cases e0 <;> cases n2 <;> simp
    rw [if_neg k10, decide_eq_true (show x.2.2.2.2.2.2 ≤ 1099511627776 by omega)]
    by_cases k11 : x.2.2.2.2.2.2 = 0 <;> by_cases k12 : x.2.2.2.2.1 = 0
    · rw [bne_no k11, beq_yes k11, beq_yes k12, decide_eq_false (show ¬ x.2.2.2.2.1 > 0 by omega)]
      cases e0 <;> cases n2 <;> cases R <;> rfl
    · rw [bne_no k11, beq_yes k11, beq_no k12, decide_eq_true (show x.2.2.2.2.1 > 0 by omega)]
      cases e0 <;> cases n2 <;> cases R <;> rfl
    · rw [bne_yes k11, beq_no k11, beq_yes k12, decide_eq_false (show ¬ x.2.2.2.2.1 > 0 by omega)]
      cases e0 <;> cases n2 <;> cases R <;> rfl
    · rw [bne_yes k11, beq_no k11, beq_no k12, decide_eq_true (show x.2.2.2.2.1 > 0 by omega)]
      cases e0 <;> cases n2 <;> cases R <;> rfl
theorem check_spec {l : List J} (hl : l.length ≤ 1000000) (ht : ∀ j ∈ l, TxJ j) : jobs_Check l = some (bif rising 0 l then 0 else 1) := by
  rw [jobs_Check_eq, ilen_eq]
  exact check_l0 hl ht l 0 0 rfl (Int.le_refl _)
end Go.Proofs.Ytgaihonnbdhbmaa.PE
namespace Go.Proofs.Ytgaihonnbdhbmaa.PE
open Go Go.RowKit Go.Proofs.Ytgaihonnbdhbmaa.Pack
def yesB : ByteArray := ⟨#[121, 101, 115]⟩
def noB : ByteArray := ⟨#[110, 111]⟩
def ahead : Option ByteArray → ByteArray → Bool
  | none, _ => true
  | some q, s => Op.bytesLess q.toList s.toList
def goodV : Option ByteArray → List ByteArray → Bool
  | _, [] => true
  | p, s :: r => nameS s && (!(s.toList == yesB.toList) && (!(s.toList == noB.toList) && (ahead p s && goodV (some s) r)))
/-- What is wrong with variables. -/
def chkV (ns : List ByteArray) (vs : List Int) : Int := if ns.length ≠ vs.length then 1 else if ns.length > 64 then 6 else if goodV none ns = true then 0 else 1
def Txt (ns : List ByteArray) : Prop := ∀ s ∈ ns, s.size ≤ 140737488351232
theorem vcheck_l1 {ns : List ByteArray} {vs : List Int} (hl : ns.length ≤ 1000) (ht : Txt ns) : ∀ (r : List ByteArray) (i : Nat) (p : Option ByteArray), ns.drop i = r → (i = 0 → p = none) → (∀ k, i = k + 1 → ∃ q, ns[k]? = some q ∧ p = some q) →
    vars_Check_l1 ns (ns.length : Int) (i : Int) ns vs = some (if goodV p r = true then 0 else 1) := by
  intro r
  induction r with
  | nil =>
    intro i p hd _ _
    have := at_nil hd
    rw [vars_Check_l1_eq, Bool.cond_decide, if_neg (by omega), goodV, if_pos rfl]
  | cons s r ih =>
    intro i p hd hp0 hp1
    obtain ⟨h1, h2, h3⟩ := at_drop hd
    have ihs := ih (i + 1) (some s) h3 (fun h => by omega) (fun k hk => ⟨s, by rw [show k = i by omega]; exact h2, rfl⟩)
    rw [vars_Check_l1_eq, Bool.cond_decide, if_pos (by omega), Bool.cond_decide, if_pos (by omega), Int.toNat_natCast, h2, Option.bind_some, name_spec (ht s (List.mem_of_getElem? h2)), Option.bind_some, wrap_succ (by omega), ihs, goodV,
      show (⟨#[121, 101, 115]⟩ : ByteArray) = yesB from rfl, show (⟨#[110, 111]⟩ : ByteArray) = noB from rfl]
    cases nameS s with
    | false => rfl
    | true =>
      cases (s.toList == yesB.toList) with
      | true => rfl
      | false =>
        cases (s.toList == noB.toList) with
        | true => rfl
        | false =>
          rw [Bool.not_true, cond_false, cond_false, cond_false, Bool.cond_decide]
          cases i with
          | zero =>
            rw [hp0 rfl, if_neg (by omega)]
            simp only [ahead, Bool.not_false, Bool.true_and]
          | succ k =>
            obtain ⟨q, hq, rfl⟩ := hp1 k rfl
            rw [if_pos (by omega), wrap_i64 (x := ((k + 1 : Nat) : Int) - 1) (by omega) (by omega), show ((k + 1 : Nat) : Int) - 1 = (k : Int) by omega, Bool.cond_decide, if_pos (by omega), Int.toNat_natCast, hq, Option.bind_some, ahead]
            cases Op.bytesLess q.toList s.toList <;> simp
theorem vcheck_spec {ns : List ByteArray} (vs : List Int) (hl : ns.length ≤ 9223372036854775806) (hv : vs.length ≤ 9223372036854775806) (ht : Txt ns) : vars_Check ns vs = some (chkV ns vs) := by
  rw [vars_Check_eq, ilen_eq, ilen_eq, chkV]
  by_cases h1 : ns.length = vs.length
  · rw [bne_no (by omega), cond_false, if_neg (fun h => h h1), Bool.cond_decide]
    by_cases h2 : ns.length > 64
    · rw [if_pos (by omega), if_pos h2]
    · rw [if_neg (by omega), if_neg h2]
      exact vcheck_l1 (by omega) ht ns 0 none rfl (fun _ => rfl) (fun k hk => by omega)
  · rw [bne_yes (by omega), cond_true, if_pos h1]
theorem chkV_ok {ns : List ByteArray} {vs : List Int} (h : chkV ns vs = 0) : ns.length = vs.length ∧ ns.length ≤ 64 ∧ goodV none ns = true := by
  unfold chkV at h
  split at h
  · cases h
  · rename_i h1
    split at h
    · cases h
    · rename_i h2
      split at h
      · rename_i h3
        exact ⟨by omega, by omega, h3⟩
      · cases h
theorem goodV_name {ns : List ByteArray} : ∀ {p : Option ByteArray}, goodV p ns = true → ∀ s ∈ ns, nameS s = true := by
  induction ns with
  | nil => intro p _ s hs; cases hs
  | cons x ns ih =>
    intro p h s hs
    simp only [goodV, Bool.and_eq_true] at h
    rcases List.mem_cons.mp hs with rfl | hs
    · exact h.1
    · exact ih h.2.2.2.2 s hs
end Go.Proofs.Ytgaihonnbdhbmaa.PE
namespace Go.Proofs.Ytgaihonnbdhbmaa.PE
open Go Go.RowKit Go.Proofs.Ytgaihonnbdhbmaa.Pack
theorem bytesList_bytes (s : ByteArray) : Bytes (bytesList s) := by
  intro x hx
  unfold bytesList at hx
  obtain ⟨c, _, rfl⟩ := List.mem_map.mp hx
  have := c.toNat_lt
  omega
theorem strOf_list (s : ByteArray) : strOf (bytesList s) = s := by
  cases s with
  | mk d =>
    cases d with
    | mk l =>
      unfold strOf bytesList
      congr 1
      show ((l.map fun b => (b.toNat : Int)).map fun n => UInt8.ofNat n.toNat).toArray = ⟨l⟩
      rw [List.map_map]
      have : (l.map ((fun n : Int => UInt8.ofNat n.toNat) ∘ fun b : UInt8 => (b.toNat : Int))) = l := by
        conv => rhs; rw [← List.map_id l]
        apply List.map_congr_left
        intro x _
        simp
      rw [this]
theorem list_strOf {t : List Int} (ht : Bytes t) : bytesList (strOf t) = t := by
  unfold strOf bytesList
  show ((t.map fun n => UInt8.ofNat n.toNat).map fun b => (b.toNat : Int)) = t
  rw [List.map_map]
  conv => rhs; rw [← List.map_id t]
  apply List.map_congr_left
  intro x hx
  have := ht x hx
  simp only [Function.comp, id, UInt8.toNat_ofNat']
  omega
theorem strOf_size (t : List Int) : (strOf t).size = t.length := by
  unfold strOf
  show ((t.map fun n => UInt8.ofNat n.toNat).toArray).size = t.length
  simp
theorem nameS_len {s : ByteArray} (h : nameS s = true) : (bytesList s).length ≤ 32 := by
  unfold nameS at h
  cases hb : bytesList s with
  | nil => simp
  | cons c r =>
    rw [hb] at h
    simp only [nameL, Bool.and_eq_true, decide_eq_true_eq] at h
    exact h.2
theorem nameS_size {s : ByteArray} (h : nameS s = true) : s.size ≤ 32 := by
  have := nameS_len h
  rw [bytesList_len] at this
  exact this
def encPairs : List ByteArray → List Int → List Int
  | s :: ns, v :: vs => encB (bytesList s) ++ (enc (zig v) ++ encPairs ns vs)
  | _, _ => []
def encV (ns : List ByteArray) (vs : List Int) : List Int := enc ns.length ++ encPairs ns vs
def I64 (vs : List Int) : Prop := ∀ v ∈ vs, -9223372036854775808 ≤ v ∧ v ≤ 9223372036854775807
def Names (ns : List ByteArray) : Prop := ∀ s ∈ ns, nameS s = true
theorem encPairs_len {ns : List ByteArray} (vs : List Int) (h : Names ns) : (encPairs ns vs).length ≤ 60 * ns.length := by
  induction ns generalizing vs with
  | nil => simp [encPairs]
  | cons s ns ih =>
    cases vs with
    | nil => simp [encPairs]
    | cons v vs =>
      have h1 := encB_len (bytesList s)
      have h2 := nameS_len (h s (by simp))
      have h3 := enc_length (zig v)
      have h4 := ih vs fun x hx => h x (by simp [hx])
      simp only [encPairs, List.length_append, List.length_cons]; omega
theorem encPairs_bytes {ns : List ByteArray} {vs : List Int} (h : Names ns) (hv : I64 vs) : Bytes (encPairs ns vs) := by
  induction ns generalizing vs with
  | nil => exact Bytes.nil
  | cons s ns ih =>
    cases vs with
    | nil => exact Bytes.nil
    | cons v vs =>
      have h2 := nameS_len (h s (by simp))
      have hz := zig_lt (hv v (by simp)).1 (hv v (by simp)).2
      exact ((enc_bytes (n := (bytesList s).length) (by omega)).app (bytesList_bytes s)).app ((enc_bytes hz).app (ih (fun x hx => h x (by simp [hx])) fun x hx => hv x (by simp [hx])))
theorem vput_l0 {ns : List ByteArray} {vs : List Int} (hl : ns.length ≤ 1000) (hlv : ns.length = vs.length) (hn : Names ns) (hv : I64 vs) : ∀ (r : List ByteArray) (q : List Int) (i : Nat) (acc : List Int), ns.drop i = r → vs.drop i = q → acc.length + 60 * r.length ≤ 1000000000000 →
    vars_Put_l0 ns (ns.length : Int) (i : Int) ns vs acc = some (acc ++ encPairs r q) := by
  intro r
  induction r with
  | nil =>
    intro q i acc hd hq _
    have := at_nil hd
    rw [vars_Put_l0_eq, Bool.cond_decide, if_neg (by omega), encPairs, List.append_nil]
    intro s ns v vs h; cases h
  | cons s r ih =>
    intro q i acc hd hq hb
    obtain ⟨h1, h2, h3⟩ := at_drop hd
    have hiv : i < vs.length := by omega
    rw [List.drop_eq_getElem_cons hiv] at hq
    subst hq
    have hs := nameS_len (hn s (List.mem_of_getElem? h2))
    have hvi := hv vs[i] (List.getElem_mem hiv)
    have l1 := encB_len (bytesList s)
    have l2 := enc_length (zig vs[i])
    rw [List.length_cons] at hb
    rw [vars_Put_l0_eq, Bool.cond_decide, if_pos (by omega), Bool.cond_decide, if_pos (by omega), Int.toNat_natCast, h2, Option.bind_some, bytesL (by omega) (by omega), Option.bind_some, Bool.cond_decide, if_pos (by omega), List.getElem?_eq_getElem hiv, Option.bind_some,
      int_spec hvi.1 hvi.2 (by rw [List.length_append]; omega), Option.bind_some, wrap_succ (by omega), ih _ (i + 1) _ h3 rfl (by simp only [List.length_append]; omega), encPairs]
    simp only [List.append_assoc]
theorem vput_spec {x0 : List Int} {ns : List ByteArray} {vs : List Int} (hl : ns.length ≤ 1000) (hlv : ns.length = vs.length) (hn : Names ns) (hv : I64 vs) (hx : x0.length ≤ 100000000000) : vars_Put x0 ns vs = some (x0 ++ encV ns vs) := by
  have := enc_length ns.length
  rw [vars_Put_eq, ilen_eq, wrap_u64 (by omega) (by omega), uint_spec (by omega) (by omega), Option.bind_some, encV, ← List.append_assoc]
  exact vput_l0 hl hlv hn hv ns vs 0 _ rfl rfl (by rw [List.length_append]; omega)
theorem readB_back {r t : List Int} (hr : Bytes r) (hl : r.length ≤ 140737488200000) (ht : Bytes t) (htl : t.length ≤ 100000) : pack_ReadBytes (encB t ++ r) = some (t, r, 0) := by
  have e1 := enc_length t.length
  have hb : Bytes (encB t ++ r) := ((enc_bytes (n := t.length) (by omega)).app ht).app hr
  rw [readBytes_spec hb (by simp only [encB, List.length_append]; omega)]
  unfold rdb
  rw [encB, List.append_assoc, rdu_enc (by omega)]
  show some (if (0 : Int) = 0 then if (t ++ r).length < t.length then _ else ((t ++ r).take t.length, (t ++ r).drop t.length, (0 : Int)) else _) = _
  rw [if_pos rfl, if_neg (by rw [List.length_append]; omega), List.take_left, List.drop_left]
theorem readB_tot {b : List Int} (hb : Bytes b) (hl : b.length ≤ 140737488351232) :
    ∃ t r e, pack_ReadBytes b = some (t, r, e) ∧ Bytes r ∧ r.length ≤ b.length ∧ Bytes t ∧ t.length ≤ b.length ∧ (e = 0 → b = encB t ++ r) := by
  rw [readBytes_spec hb (by omega)]
  have hlen := rdu_len 0 b
  have hrb := rdu_rest hb 0
  unfold rdb
  by_cases hc : (rdu 0 b).2.2 = 0
  · have h1 := rdu_enc_once hb hc
    rw [if_pos hc]
    by_cases hv : (rdu 0 b).2.1.length < (rdu 0 b).1
    · rw [if_pos hv]
      exact ⟨[], [], 5, rfl, Bytes.nil, by simp, Bytes.nil, by simp, fun h => by cases h⟩
    · rw [if_neg hv]
      refine ⟨_, _, _, rfl, hrb.drop _, by rw [List.length_drop]; omega, hrb.take _, by rw [List.length_take]; omega, fun _ => ?_⟩
      rw [encB, List.length_take, show min (rdu 0 b).1 (rdu 0 b).2.1.length = (rdu 0 b).1 by omega, List.append_assoc, List.take_append_drop, h1]
  · rw [if_neg hc]
    exact ⟨[], [], _, rfl, Bytes.nil, by simp, Bytes.nil, by simp, fun h => absurd h hc⟩
theorem readI_back {r : List Int} {v : Int} (hr : Bytes r) (hl : r.length ≤ 140737488351000) (hv : -9223372036854775808 ≤ v ∧ v ≤ 9223372036854775807) : pack_ReadInt (enc (zig v) ++ r) = some (v, r, 0) := by
  have hz := zig_lt hv.1 hv.2
  have := enc_length (zig v)
  rw [readInt_spec ((enc_bytes hz).app hr) (by rw [List.length_append]; omega), rdu_enc hz, zag_zig]
theorem readI_tot {b : List Int} (hb : Bytes b) (hl : b.length ≤ 140737488351232) :
    ∃ v r e, pack_ReadInt b = some (v, r, e) ∧ Bytes r ∧ r.length ≤ b.length ∧ (-9223372036854775808 ≤ v ∧ v ≤ 9223372036854775807) ∧ (e = 0 → b = enc (zig v) ++ r) := by
  rw [readInt_spec hb (by omega)]
  refine ⟨_, _, _, rfl, rdu_rest hb 0, rdu_len 0 b, zag_range (rdu_lt 0 b hb (by omega)), fun h => ?_⟩
  rw [zig_zag, rdu_enc_once hb h]
theorem vread_back_l0 (n : Nat) (hn : n ≤ 64) (y : List Int) (hy : Bytes y) (hyl : y.length ≤ 140737400000000) (ns0 : List ByteArray) (vs0 : List Int) (hk : chkV ns0 vs0 = 0) (ht : Txt ns0) :
    ∀ (ns : List ByteArray) (vs : List Int) (i : Nat) (an : List ByteArray) (av : List Int), i + ns.length = n → ns.length = vs.length → an.length = i → av.length = i → an ++ ns = ns0 → av ++ vs = vs0 → Names ns → I64 vs →
      vars_Read_l0 (encPairs ns vs ++ y) (n : Int) (i : Int) an av = some (ns0, vs0, y, 0) := by
  intro ns
  induction ns with
  | nil =>
    intro vs i an av hi hl ha hb e1 e2 _ _
    have : vs = [] := List.length_eq_zero_iff.mp (by simpa using hl.symm)
    subst this
    rw [List.append_nil] at e1 e2
    subst e1; subst e2
    obtain ⟨g1, g2, _⟩ := chkV_ok hk
    rw [vars_Read_l0_eq, Bool.cond_decide, if_neg (by simp at hi; omega), vcheck_spec av (by omega) (by omega) ht, Option.bind_some, hk, bne_no rfl, cond_false, encPairs, List.nil_append]
    intro s ns v vs h; cases h
  | cons s ns ih =>
    intro vs i an av hi hl ha hb e1 e2 hnm hv
    cases vs with
    | nil => simp at hl
    | cons v vs =>
      have hs := nameS_len (hnm s (by simp))
      have hvr := hv v (by simp)
      have hn2 : Names ns := fun x hx => hnm x (by simp [hx])
      have hv2 : I64 vs := fun x hx => hv x (by simp [hx])
      have w1 : Bytes (encPairs ns vs ++ y) := (encPairs_bytes hn2 hv2).app hy
      have l1 := encPairs_len vs hn2
      have l2 := enc_length (zig v)
      rw [List.length_cons] at hi hl
      have hz := zig_lt hvr.1 hvr.2
      rw [vars_Read_l0_eq, Bool.cond_decide, if_pos (by omega), encPairs, List.append_assoc, List.append_assoc, readB_back ((enc_bytes hz).app w1) (by simp only [List.length_append]; omega) (bytesList_bytes s) (by omega), Option.bind_some]
      dsimp only
      rw [bne_no rfl, cond_false, readI_back w1 (by simp only [List.length_append]; omega) hvr, Option.bind_some]
      dsimp only
      rw [bne_no rfl, cond_false, strOf_list, Bool.cond_decide, if_pos (show _ ≤ room by simp only [ilen_eq, List.length_cons, List.length_nil, room_eq]; omega), Bool.cond_decide, if_pos (show _ ≤ room by simp only [ilen_eq, List.length_cons, List.length_nil, room_eq]; omega),
        wrap_u64 (x := (i : Int) + 1) (by omega) (by omega), show (i : Int) + 1 = ((i + 1 : Nat) : Int) by omega,
        ih vs (i + 1) _ _ (by omega) (by simpa using hl) (by simp; omega) (by simp; omega) (by rw [List.append_assoc]; exact e1) (by rw [List.append_assoc]; exact e2) hn2 hv2]
theorem vread_back {ns : List ByteArray} {vs : List Int} {y : List Int} (hk : chkV ns vs = 0) (hv : I64 vs) (hy : Bytes y) (hyl : y.length ≤ 140737300000000) : vars_Read (encV ns vs ++ y) = some (ns, vs, y, 0) := by
  obtain ⟨g1, g2, g3⟩ := chkV_ok hk
  have hn : Names ns := goodV_name g3
  have ht : Txt ns := fun s hs => by have := nameS_size (hn s hs); omega
  have w1 : Bytes (encPairs ns vs ++ y) := (encPairs_bytes hn hv).app hy
  have l1 := encPairs_len vs hn
  have l2 := enc_length ns.length
  rw [vars_Read_eq, encV, List.append_assoc, readUint_spec ((enc_bytes (by omega)).app w1) (by simp only [List.length_append]; omega), rdu_enc (by omega), Option.bind_some]
  show (bif (0 : Int) != 0 then _ else bif decide ((ns.length : Int) > 64) then _ else vars_Read_l0 (encPairs ns vs ++ y) (ns.length : Int) 0 [] []) = _
  rw [bne_no rfl, cond_false, Bool.cond_decide, if_neg (by omega)]
  exact vread_back_l0 ns.length g2 y hy (by omega) ns vs hk ht ns vs 0 [] [] (by omega) g1 rfl rfl rfl rfl hn hv
theorem vread_tot_l0 (n : Nat) (hn : n ≤ 64) : ∀ (d i : Nat) (b : List Int) (an : List ByteArray) (av : List Int), i + d = n → an.length = i → av.length = i → Bytes b → b.length ≤ 140737488351232 → Txt an → I64 av →
    ∃ ns vs r e, vars_Read_l0 b (n : Int) (i : Int) an av = some (ns, vs, r, e) ∧ Bytes r ∧ r.length ≤ b.length ∧ Txt ns ∧ I64 vs ∧ (e = 0 → chkV ns vs = 0 ∧ ns.length = n ∧ ∃ ns' vs', ns = an ++ ns' ∧ vs = av ++ vs' ∧ ns'.length = vs'.length ∧ b = encPairs ns' vs' ++ r) := by
  intro d
  induction d with
  | zero =>
    intro i b an av hi ha hav hb hl ht hv
    rw [vars_Read_l0_eq, Bool.cond_decide, if_neg (by omega), vcheck_spec av (by omega) (by omega) ht, Option.bind_some]
    by_cases hk : chkV an av = 0
    · rw [bne_no hk, cond_false]
      refine ⟨an, av, b, 0, rfl, hb, by omega, ht, hv, fun _ => ⟨hk, by omega, [], [], (List.append_nil _).symm, (List.append_nil _).symm, rfl, ?_⟩⟩
      rw [encPairs, List.nil_append]
      intro s ns v vs h; cases h
    · rw [bne_yes hk, cond_true]
      exact ⟨[], [], [], _, rfl, Bytes.nil, by simp, fun x hx => (by cases hx), fun x hx => (by cases hx), fun h => absurd h hk⟩
  | succ d ih =>
    intro i b an av hi ha hav hb hl ht hv
    rw [vars_Read_l0_eq, Bool.cond_decide, if_pos (by omega)]
    obtain ⟨t, r1, e1, h1, h2, h3, h4, h5, h6⟩ := readB_tot hb hl
    rw [h1, Option.bind_some]
    dsimp only
    by_cases he1 : e1 = 0
    · rw [bne_no he1, cond_false]
      obtain ⟨v, r2, e2, k1, k2, k3, k4, k5⟩ := readI_tot h2 (by omega)
      rw [k1, Option.bind_some]
      dsimp only
      by_cases he2 : e2 = 0
      · rw [bne_no he2, cond_false, Bool.cond_decide, if_pos (show _ ≤ room by simp only [ilen_eq, List.length_cons, List.length_nil, room_eq]; omega), Bool.cond_decide, if_pos (show _ ≤ room by simp only [ilen_eq, List.length_cons, List.length_nil, room_eq]; omega),
          wrap_u64 (x := (i : Int) + 1) (by omega) (by omega), show (i : Int) + 1 = ((i + 1 : Nat) : Int) by omega]
        obtain ⟨ns, vs, r, e, m1, m2, m3, m4, m5, m6⟩ := ih (i + 1) r2 (an ++ [strOf t]) (av ++ [v]) (by omega) (by simp; omega) (by simp; omega) k2 (by omega) (fun x hx => by
          rcases List.mem_append.mp hx with hx | hx
          · exact ht x hx
          · rw [List.mem_singleton] at hx; subst hx; rw [strOf_size]; omega) (fun x hx => by
          rcases List.mem_append.mp hx with hx | hx
          · exact hv x hx
          · rw [List.mem_singleton] at hx; subst hx; exact k4)
        refine ⟨ns, vs, r, e, m1, m2, by omega, m4, m5, fun h => ?_⟩
        obtain ⟨q1, q2, ns', vs', q3, q4, q5, q6⟩ := m6 h
        refine ⟨q1, q2, strOf t :: ns', v :: vs', by rw [q3, List.append_assoc]; rfl, by rw [q4, List.append_assoc]; rfl, by simp [q5], ?_⟩
        rw [encPairs, list_strOf h4, h6 he1, k5 he2, q6]
        simp only [List.append_assoc]
      · rw [bne_yes he2, cond_true]
        exact ⟨[], [], [], _, rfl, Bytes.nil, by simp, fun x hx => (by cases hx), fun x hx => (by cases hx), fun h => absurd h he2⟩
    · rw [bne_yes he1, cond_true]
      exact ⟨[], [], [], _, rfl, Bytes.nil, by simp, fun x hx => (by cases hx), fun x hx => (by cases hx), fun h => absurd h he1⟩
theorem vread_tot {b : List Int} (hb : Bytes b) (hl : b.length ≤ 140737488351232) :
    ∃ ns vs r e, vars_Read b = some (ns, vs, r, e) ∧ Bytes r ∧ r.length ≤ b.length ∧ Txt ns ∧ I64 vs ∧ (e = 0 → chkV ns vs = 0 ∧ b = encV ns vs ++ r) := by
  rw [vars_Read_eq, readUint_spec hb (by omega), Option.bind_some]
  have hlen := rdu_len 0 b
  have hrb := rdu_rest hb 0
  by_cases hc : (rdu 0 b).2.2 = 0
  · have h1 := rdu_enc_once hb hc
    have q : (rdwhole (rdu 0 b)).2.2 = 0 := hc
    rw [bne_no q, cond_false]
    show ∃ ns vs r e, (bif decide (((rdu 0 b).1 : Int) > 64) then some ([], [], [], 6) else vars_Read_l0 (rdu 0 b).2.1 ((rdu 0 b).1 : Int) 0 [] []) = _ ∧ _
    rw [Bool.cond_decide]
    by_cases hv : ((rdu 0 b).1 : Int) > 64
    · rw [if_pos hv]
      exact ⟨[], [], [], 6, rfl, Bytes.nil, by simp, fun x hx => (by cases hx), fun x hx => (by cases hx), fun h => by cases h⟩
    · rw [if_neg hv]
      obtain ⟨ns, vs, r, e, m1, m2, m3, m4, m5, m6⟩ := vread_tot_l0 (rdu 0 b).1 (by omega) (rdu 0 b).1 0 (rdu 0 b).2.1 [] [] (by omega) rfl rfl hrb (by omega) (fun x hx => by cases hx) (fun x hx => by cases hx)
      refine ⟨ns, vs, r, e, m1, m2, by omega, m4, m5, fun h => ?_⟩
      obtain ⟨q1, q2, ns', vs', q3, q4, q5, q6⟩ := m6 h
      rw [List.nil_append] at q3 q4
      subst q3; subst q4
      exact ⟨q1, by rw [encV, q2, List.append_assoc, ← q6, h1]⟩
  · have q : ¬ (rdwhole (rdu 0 b)).2.2 = 0 := hc
    rw [bne_yes q, cond_true]
    exact ⟨[], [], [], (rdu 0 b).2.2, rfl, Bytes.nil, by simp, fun x hx => (by cases hx), fun x hx => (by cases hx), fun h => absurd h hc⟩
end Go.Proofs.Ytgaihonnbdhbmaa.PE
