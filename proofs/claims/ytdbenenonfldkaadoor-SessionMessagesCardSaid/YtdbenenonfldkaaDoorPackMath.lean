import Derived.Laws.BitsLemmas
import Derived.RowKit
import Derived.Laws.BytesArg
/- The mathematics of numbers as bytes: seven bits a byte, the lowest first. -/
namespace Go.Proofs.YtdbenenonfldkaaDoor.Pack
set_option linter.unusedVariables false
open Go

def Bytes (b : List Int) : Prop := ∀ x ∈ b, 0 ≤ x ∧ x < 256
theorem Bytes.app {a b : List Int} (ha : Bytes a) (hb : Bytes b) : Bytes (a ++ b) := fun x hx => by
  rcases List.mem_append.mp hx with h | h
  · exact ha x h
  · exact hb x h
theorem Bytes.drop {a : List Int} (ha : Bytes a) (n : Nat) : Bytes (a.drop n) := fun x hx => ha x (List.mem_of_mem_drop hx)
theorem Bytes.take {a : List Int} (ha : Bytes a) (n : Nat) : Bytes (a.take n) := fun x hx => ha x (List.mem_of_mem_take hx)
theorem Bytes.nil : Bytes [] := fun x hx => by cases hx
theorem Bytes.cons {c : Int} {a : List Int} (h0 : 0 ≤ c) (h1 : c < 256) (ha : Bytes a) : Bytes (c :: a) := fun x hx => by
  rcases List.mem_cons.mp hx with h | h
  · subst h; exact ⟨h0, h1⟩
  · exact ha x h
theorem bytes_of {b : List Int} (h : ∀ x ∈ b, (Lit.int .u8 x).wf = true) : Bytes b := fun x hx => by
  have := h x hx
  simp [Lit.wf, IntKind.min, IntKind.max, IntKind.signed, IntKind.bits] at this
  omega
/-- Texts of bytes are the same just where their lists are. -/
theorem toList_loop (s : ByteArray) (d i : Nat) (r : List UInt8) (h : s.size - i = d) : ByteArray.toList.loop s i r = r.reverse ++ s.data.toList.drop i := by
  induction d generalizing i r with
  | zero =>
    have hs : s.size ≤ s.data.toList.length := by rw [Array.length_toList]; exact Nat.le_refl _
    have hs2 : s.data.toList.length = s.size := by rw [Array.length_toList]; rfl
    rw [ByteArray.toList.loop, if_neg (by omega), List.drop_eq_nil_of_le (by omega), List.append_nil]
  | succ d ih =>
    have hs2 : s.data.toList.length = s.size := by rw [Array.length_toList]; rfl
    have hlt : i < s.data.toList.length := by omega
    rw [ByteArray.toList.loop, if_pos (by omega), ih (i + 1) _ (by omega), List.drop_eq_getElem_cons hlt, List.reverse_cons, List.append_assoc]
    congr 1
    rw [List.singleton_append]
    congr 1
    have hd : i < s.data.size := by rw [← Array.length_toList]; exact hlt
    show s.data[i]! = _
    rw [getElem!_pos s.data i hd, Array.getElem_toList]
theorem toList_data (s : ByteArray) : s.toList = s.data.toList := by
  rw [ByteArray.toList, toList_loop s (s.size - 0) 0 [] rfl]; rfl
theorem str_inj {a b : List Int} (ha : Bytes a) (hb : Bytes b) (h : (strOfNums a).toList = (strOfNums b).toList) : a = b := by
  have h' : (strOfNums a).data.toList = (strOfNums b).data.toList := by rw [← toList_data, ← toList_data]; exact h
  rw [strOfNums_data, strOfNums_data] at h'
  have key : ∀ {l : List Int}, Bytes l → (l.map fun n => UInt8.ofNat n.toNat).map (fun c => (c.toNat : Int)) = l := by
    intro l hl
    rw [List.map_map]
    conv => rhs; rw [← List.map_id l]
    apply List.map_congr_left
    intro x hx
    have := hl x hx
    simp only [Function.comp, id, UInt8.toNat_ofNat']
    omega
  rw [← key ha, ← key hb, h']

/-- A number's bytes. -/
def encF : Nat → Nat → List Int
  | 0, n => [(n : Int)]
  | f + 1, n => if n < 128 then [(n : Int)] else ((n % 128 + 128 : Nat) : Int) :: encF f (n / 128)
def enc (n : Nat) : List Int := encF 9 n
theorem encF_ne (f n : Nat) : encF f n ≠ [] := by cases f <;> simp [encF]; split <;> simp
theorem encF_length (f n : Nat) : (encF f n).length ≤ f + 1 := by
  induction f generalizing n with
  | zero => simp [encF]
  | succ f ih => rw [encF]; split <;> simp; exact ih _
theorem enc_length (n : Nat) : (enc n).length ≤ 10 := encF_length 9 n
theorem enc_pos (n : Nat) : 0 < (enc n).length := List.length_pos_iff.mpr (encF_ne 9 n)
theorem encF_bytes (f n : Nat) (h : n < 128 ^ (f + 1)) : Bytes (encF f n) := by
  induction f generalizing n with
  | zero => rw [encF]; exact Bytes.cons (by omega) (by simp at h; omega) Bytes.nil
  | succ f ih =>
    rw [encF]
    split
    · exact Bytes.cons (by omega) (by omega) Bytes.nil
    · refine Bytes.cons (by omega) (by omega) (ih _ ?_)
      rw [Nat.pow_succ] at h
      exact Nat.div_lt_of_lt_mul (by rw [Nat.mul_comm]; exact h)
theorem enc_bytes {n : Nat} (h : n < 18446744073709551616) : Bytes (enc n) := encF_bytes 9 n (Nat.lt_of_lt_of_le h (by decide))

/-- What bytes begin with: the number, what is behind, and what is wrong. -/
def rdu (i : Nat) : List Int → Nat × List Int × Int
  | [] => (0, [], 5)
  | c :: r => if i = 9 ∧ 1 < c then (0, [], 2) else if c < 128 then (if c = 0 ∧ 0 < i then (0, [], 2) else (c.toNat, r, 0)) else
      if (rdu (i + 1) r).2.2 = 0 then (c.toNat % 128 + 128 * (rdu (i + 1) r).1, (rdu (i + 1) r).2.1, 0) else (0, [], (rdu (i + 1) r).2.2)
theorem rdu_err (i : Nat) (b : List Int) (h : (rdu i b).2.2 ≠ 0) : (rdu i b).1 = 0 ∧ (rdu i b).2.1 = [] := by
  cases b with
  | nil => exact ⟨rfl, rfl⟩
  | cons c r =>
    rw [rdu] at h ⊢
    split
    · exact ⟨rfl, rfl⟩
    · rename_i h1
      rw [if_neg h1] at h
      split
      · rename_i h2
        rw [if_pos h2] at h
        split
        · exact ⟨rfl, rfl⟩
        · rename_i h3; rw [if_neg h3] at h; exact absurd rfl h
      · rename_i h2
        rw [if_neg h2] at h
        split
        · rename_i h3; rw [if_pos h3] at h; exact absurd rfl h
        · exact ⟨rfl, rfl⟩
theorem rdu_codes (i : Nat) (b : List Int) : (rdu i b).2.2 = 0 ∨ (rdu i b).2.2 = 2 ∨ (rdu i b).2.2 = 5 := by
  induction b generalizing i with
  | nil => exact .inr (.inr rfl)
  | cons c r ih =>
    rw [rdu]
    split
    · exact .inr (.inl rfl)
    · split
      · split
        · exact .inr (.inl rfl)
        · exact .inl rfl
      · split
        · exact .inl rfl
        · exact ih (i + 1)
theorem rdu_pos (i : Nat) (b : List Int) (hb : Bytes b) (h0 : 0 < i) (h : (rdu i b).2.2 = 0) : 0 < (rdu i b).1 := by
  induction b generalizing i with
  | nil => simp [rdu] at h
  | cons c r ih =>
    have hc := hb c (by simp)
    rw [rdu] at h ⊢
    split
    · rename_i h1; rw [if_pos h1] at h; simp at h
    · rename_i h1
      rw [if_neg h1] at h
      split
      · rename_i h2
        rw [if_pos h2] at h
        split
        · rename_i h3; rw [if_pos h3] at h; simp at h
        · show 0 < c.toNat; omega
      · rename_i h2
        rw [if_neg h2] at h
        split
        · rename_i h3
          have := ih (i + 1) (fun x hx => hb x (by simp [hx])) (by omega) h3
          show 0 < c.toNat % 128 + 128 * (rdu (i + 1) r).1
          omega
        · rename_i h3; rw [if_neg h3] at h; exact absurd h h3
/-- How large a number may be that is read from place i on. -/
theorem rdu_lt (i : Nat) (b : List Int) (hb : Bytes b) (hi : i ≤ 9) : (rdu i b).1 < 2 ^ (64 - 7 * i) := by
  induction b generalizing i with
  | nil => simp [rdu]; exact Nat.two_pow_pos _
  | cons c r ih =>
    have hc := hb c (by simp)
    have hp : 0 < 2 ^ (64 - 7 * i) := Nat.two_pow_pos _
    rw [rdu]
    split
    · exact hp
    · rename_i h1
      split
      · rename_i h2
        split
        · exact hp
        · show c.toNat < _
          by_cases h9 : i = 9
          · subst h9; omega
          · have : 2 ^ 7 ≤ 2 ^ (64 - 7 * i) := Nat.pow_le_pow_right (by decide) (by omega)
            omega
      · rename_i h2
        split
        · show c.toNat % 128 + 128 * (rdu (i + 1) r).1 < _
          have h9 : i ≠ 9 := fun h => h1 ⟨h, by omega⟩
          have := ih (i + 1) (fun x hx => hb x (by simp [hx])) (by omega)
          rw [show 64 - 7 * i = (64 - 7 * (i + 1)) + 7 by omega, Nat.pow_add]
          omega
        · exact hp
/-- What is read was written just so. -/
theorem rdu_once (f i : Nat) (b : List Int) (hb : Bytes b) (hf : i + f = 9) (h : (rdu i b).2.2 = 0) : encF f (rdu i b).1 ++ (rdu i b).2.1 = b := by
  induction b generalizing i f with
  | nil => simp [rdu] at h
  | cons c r ih =>
    have hc := hb c (by simp)
    rw [rdu] at h ⊢
    split
    · rename_i h1; rw [if_pos h1] at h; simp at h
    · rename_i h1
      rw [if_neg h1] at h
      split
      · rename_i h2
        rw [if_pos h2] at h
        split
        · rename_i h3; rw [if_pos h3] at h; simp at h
        · have e : (c.toNat : Int) = c := by omega
          cases f with
          | zero => show ((c.toNat : Int)) :: r = _; rw [e]
          | succ f => show encF (f + 1) c.toNat ++ r = _; rw [encF, if_pos (by omega), e]; rfl
      · rename_i h2
        rw [if_neg h2] at h
        split
        · rename_i h3
          have hr : Bytes r := fun x hx => hb x (by simp [hx])
          cases f with
          | zero => exact absurd ⟨by omega, by omega⟩ h1
          | succ f =>
            have e := ih f (i + 1) hr (by omega) h3
            have hp := rdu_pos (i + 1) r hr (by omega) h3
            show encF (f + 1) (c.toNat % 128 + 128 * (rdu (i + 1) r).1) ++ (rdu (i + 1) r).2.1 = c :: r
            rw [encF, if_neg (by omega), show (c.toNat % 128 + 128 * (rdu (i + 1) r).1) % 128 = c.toNat % 128 by omega, show (c.toNat % 128 + 128 * (rdu (i + 1) r).1) / 128 = (rdu (i + 1) r).1 by omega]
            rw [List.cons_append, e]
            congr 1
            omega
        · rename_i h3; rw [if_neg h3] at h; exact absurd h h3
theorem rdu_enc_once {b : List Int} (hb : Bytes b) (h : (rdu 0 b).2.2 = 0) : enc (rdu 0 b).1 ++ (rdu 0 b).2.1 = b := rdu_once 9 0 b hb rfl h
/-- What is written is read again. -/
theorem rdu_back (f i n : Nat) (t : List Int) (hf : i + f = 9) (hn : n < 2 ^ (64 - 7 * i)) (h0 : i = 0 ∨ 0 < n) : rdu i (encF f n ++ t) = (n, t, 0) := by
  induction f generalizing i n with
  | zero =>
    have : i = 9 := by omega
    subst this
    have hn' : n < 2 := by simpa using hn
    rw [encF]
    show rdu 9 ((n : Int) :: t) = _
    rw [rdu, if_neg (by omega), if_pos (by omega), if_neg (by omega)]; simp
  | succ f ih =>
    rw [encF]
    split
    · show rdu i ((n : Int) :: t) = _
      rw [rdu, if_neg (by omega), if_pos (by omega), if_neg (by omega)]; simp
    · rename_i h1
      have e := ih (i + 1) (n / 128) (by omega) (by
        rw [show 64 - 7 * i = (64 - 7 * (i + 1)) + 7 by omega, Nat.pow_add] at hn
        omega) (by omega)
      rw [List.cons_append, rdu, if_neg (by omega), if_neg (by omega), e]
      simp only [if_true]
      rw [show ((n % 128 + 128 : Nat) : Int).toNat = n % 128 + 128 from rfl, show (n % 128 + 128) % 128 + 128 * (n / 128) = n by omega]
theorem rdu_enc {n : Nat} (h : n < 18446744073709551616) (t : List Int) : rdu 0 (enc n ++ t) = (n, t, 0) := rdu_back 9 0 n t rfl h (.inl rfl)
/-- Cut short it is told to be. -/
theorem rdu_cut (f i n k : Nat) (hf : i + f = 9) (hk : k < (encF f n).length) : rdu i ((encF f n).take k) = (0, [], 5) := by
  induction f generalizing i n k with
  | zero =>
    have : k = 0 := by simpa [encF] using hk
    subst this; rfl
  | succ f ih =>
    rw [encF] at hk ⊢
    split
    · rename_i h1
      rw [if_pos h1] at hk
      have : k = 0 := by simpa using hk
      subst this; rfl
    · rename_i h1
      rw [if_neg h1] at hk
      cases k with
      | zero => rfl
      | succ k =>
        have e := ih (i + 1) (n / 128) k (by omega) (by simpa using hk)
        rw [List.take_succ_cons, rdu, if_neg (by omega), if_neg (by omega), e]; simp

/-- How many bytes stand ahead of the last one. -/
def lead : List Int → Nat
  | [] => 0
  | c :: r => if 127 < c then lead r + 1 else 0
def num : List Int → Nat
  | [] => 0
  | c :: r => c.toNat % 128 + 128 * num r
theorem lead_le (b : List Int) : lead b ≤ b.length := by
  induction b with
  | nil => simp [lead]
  | cons c r ih => rw [lead]; split <;> simp; omega
theorem lead_at (b : List Int) (j : Nat) (h : j < lead b) (hj : j < b.length) : 127 < b[j] := by
  induction b generalizing j with
  | nil => simp at hj
  | cons c r ih =>
    rw [lead] at h
    split at h
    · rename_i h1
      cases j with
      | zero => exact h1
      | succ j => exact ih j (by omega) (by simpa using hj)
    · omega
theorem lead_end (b : List Int) (h : lead b < b.length) : b[lead b] ≤ 127 := by
  induction b with
  | nil => simp at h
  | cons c r ih =>
    have hl : lead (c :: r) = if 127 < c then lead r + 1 else 0 := rfl
    by_cases h1 : 127 < c
    · rw [if_pos h1] at hl
      have := ih (by rw [hl] at h; simpa using h)
      simpa [hl] using this
    · rw [if_neg h1] at hl
      simp [hl]; omega
/-- The same, place by place. -/
theorem rdu_spec (i : Nat) (b : List Int) (hb : Bytes b) (hi : i ≤ 9) :
    rdu i b = if 10 ≤ i + lead b then (0, [], 2) else if h : lead b < b.length then (if i + lead b = 9 ∧ 1 < b[lead b] then (0, [], 2) else if 0 < i + lead b ∧ b[lead b] = 0 then (0, [], 2) else (num (b.take (lead b + 1)), b.drop (lead b + 1), 0)) else (0, [], 5) := by
  induction b generalizing i with
  | nil => rw [rdu, if_neg (by simp [lead]; omega), dif_neg (by simp [lead])]
  | cons c r ih =>
    have hc := hb c (by simp)
    have hr : Bytes r := fun x hx => hb x (by simp [hx])
    have hl : lead (c :: r) = if 127 < c then lead r + 1 else 0 := rfl
    by_cases h1 : 127 < c
    · rw [if_pos h1] at hl
      rw [rdu, if_neg (show ¬ c < 128 by omega)]
      by_cases h9 : i = 9
      · rw [if_pos ⟨h9, by omega⟩, if_pos (by omega)]
      · have e := ih (i + 1) hr (by omega)
        rw [if_neg (fun h => h9 h.1)]
        by_cases h2 : 10 ≤ i + 1 + lead r
        · rw [if_pos h2] at e
          rw [e]
          show (if (2 : Int) = 0 then _ else (0, [], 2)) = _
          rw [if_neg (by decide), if_pos (by omega)]
        · rw [if_neg h2] at e
          by_cases h3 : lead r < r.length
          · have hg : ∀ (hh : lead (c :: r) < (c :: r).length), (c :: r)[lead (c :: r)] = r[lead r] := by
              intro hh; simp [hl]
            rw [dif_pos h3] at e
            rw [if_neg (show ¬ 10 ≤ i + lead (c :: r) by omega), dif_pos (show lead (c :: r) < (c :: r).length by rw [hl]; simpa using h3), hg]
            by_cases h4 : i + 1 + lead r = 9 ∧ 1 < r[lead r]
            · rw [if_pos h4] at e
              rw [e, if_pos (show i + lead (c :: r) = 9 ∧ 1 < r[lead r] from ⟨by omega, h4.2⟩)]
              show (if (2 : Int) = 0 then _ else (0, [], 2)) = _
              rw [if_neg (by decide)]
            · rw [if_neg h4] at e
              rw [if_neg (show ¬ (i + lead (c :: r) = 9 ∧ 1 < r[lead r]) from fun h => h4 ⟨by omega, h.2⟩)]
              by_cases h5 : 0 < i + 1 + lead r ∧ r[lead r] = 0
              · rw [if_pos h5] at e
                rw [e, if_pos (show 0 < i + lead (c :: r) ∧ r[lead r] = 0 from ⟨by omega, h5.2⟩)]
                show (if (2 : Int) = 0 then _ else (0, [], 2)) = _
                rw [if_neg (by decide)]
              · rw [if_neg h5] at e
                rw [e, if_neg (show ¬ (0 < i + lead (c :: r) ∧ r[lead r] = 0) from fun h => h5 ⟨by omega, h.2⟩), hl, List.take_succ_cons, List.drop_succ_cons, num]
                show (if (0 : Int) = 0 then _ else _) = _
                rw [if_pos rfl]
          · rw [dif_neg h3] at e
            rw [e, if_neg (show ¬ 10 ≤ i + lead (c :: r) by omega), dif_neg (show ¬ lead (c :: r) < (c :: r).length by rw [hl]; simpa using h3)]
            show (if (5 : Int) = 0 then _ else (0, [], 5)) = _
            rw [if_neg (by decide)]
    · rw [if_neg h1] at hl
      have hg : ∀ (hh : lead (c :: r) < (c :: r).length), (c :: r)[lead (c :: r)] = c := by intro hh; simp [hl]
      rw [rdu, if_neg (show ¬ 10 ≤ i + lead (c :: r) by omega), dif_pos (by rw [hl]; simp), hg, hl]
      simp only [Nat.add_zero]
      by_cases h2 : i = 9 ∧ 1 < c
      · rw [if_pos h2, if_pos h2]
      · rw [if_neg h2, if_neg h2, if_pos (by omega)]
        by_cases h3 : c = 0 ∧ 0 < i
        · rw [if_pos h3, if_pos ⟨h3.2, h3.1⟩]
        · rw [if_neg h3, if_neg (fun h => h3 ⟨h.2, h.1⟩)]
          simp [num]; omega
theorem num_lt (b : List Int) : num b < 128 ^ b.length := by
  induction b with
  | nil => simp [num]
  | cons c r ih => rw [num, List.length_cons, Nat.pow_succ]; omega

/-- Numbers that may be below 0, in turn. -/
def zig (n : Int) : Nat := if 0 ≤ n then (2 * n).toNat else (-2 * n - 1).toNat
def zag (n : Nat) : Int := if n % 2 = 0 then ((n / 2 : Nat) : Int) else -((n / 2 : Nat) : Int) - 1
theorem zag_zig (n : Int) : zag (zig n) = n := by unfold zag zig; split <;> split <;> omega
theorem zig_zag (n : Nat) : zig (zag n) = n := by unfold zag zig; split <;> split <;> omega
theorem zig_lt {n : Int} (h0 : -9223372036854775808 ≤ n) (h1 : n ≤ 9223372036854775807) : zig n < 18446744073709551616 := by unfold zig; split <;> omega
theorem zag_range {n : Nat} (h : n < 18446744073709551616) : -9223372036854775808 ≤ zag n ∧ zag n ≤ 9223372036854775807 := by unfold zag; split <;> omega
end Go.Proofs.YtdbenenonfldkaaDoor.Pack
