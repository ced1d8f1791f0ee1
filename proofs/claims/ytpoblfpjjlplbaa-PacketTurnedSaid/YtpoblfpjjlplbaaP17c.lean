/- Messages and packets as bytes. -/
import Derived.Test.YtpoblfpjjlplbaaP17b
namespace Go.Proofs.Ytpoblfpjjlplbaa.PE
set_option linter.unusedVariables false
open Go Go.RowKit Go.Proofs.Ytpoblfpjjlplbaa.Pack
theorem refUint_l0 : ∀ (f n : Nat) (x0 : List Int), n < 128 ^ (f + 1) → n < 18446744073709551616 → x0.length + f < 140737488351200 → ref02_Uint_l0 (n : Int) x0 = some (x0 ++ encF f n) := by
  intro f
  induction f with
  | zero =>
    intro n x0 hn hn64 hl
    have : n < 128 := by simpa using hn
    rw [ref02_Uint_l0_eq]
    simp -implicitDefEqProofs only [Bool.cond_decide]
    rw [if_neg (by omega), if_pos (show _ ≤ room by simp only [ilen_eq, List.length_cons, List.length_nil, room_eq]; omega), encF, wrap_u8, show (n : Int) % 256 = n by omega]
  | succ f ih =>
    intro n x0 hn hn64 hl
    rw [ref02_Uint_l0_eq, encF]
    simp -implicitDefEqProofs only [Bool.cond_decide]
    by_cases h : n < 128
    · rw [if_neg (by omega), if_pos (show _ ≤ room by simp only [ilen_eq, List.length_cons, List.length_nil, room_eq]; omega), if_pos h, wrap_u8, show (n : Int) % 256 = n by omega]
    · rw [if_pos (by omega), if_pos (show _ ≤ room by simp only [ilen_eq, List.length_cons, List.length_nil, room_eq]; omega), if_neg h]
      rw [Int.tmod_eq_emod_of_nonneg (by omega), Int.tdiv_eq_ediv_of_nonneg (by omega), wrap_u64 (x := 128 + (n : Int) % 128) (by omega) (by omega), wrap_u8, show (128 + (n : Int) % 128) % 256 = ((n % 128 + 128 : Nat) : Int) by omega, wrap_u64 (by omega) (by omega), show (n : Int) / 128 = ((n / 128 : Nat) : Int) by omega, ih (n / 128) _ (by rw [Nat.pow_succ] at hn; exact Nat.div_lt_of_lt_mul (by rw [Nat.mul_comm]; exact hn)) (by omega) (by simp only [List.length_append, List.length_cons, List.length_nil]; omega)]
      rw [List.append_assoc, List.singleton_append]
theorem refUint_spec {n : Nat} (hn : n < 18446744073709551616) : ref02_Uint (n : Int) = some (enc n) := by
  rw [ref02_Uint_eq]
  exact refUint_l0 9 n [] (Nat.lt_of_lt_of_le hn (by decide)) hn (by simp)
/-- Bytes behind their number. -/
def encB (s : List Int) : List Int := enc s.length ++ s
theorem encB_len (s : List Int) : (encB s).length ≤ s.length + 10 := by
  have := enc_length s.length
  simp only [encB, List.length_append]; omega
theorem refBytes17 {s : List Int} (hs : s.length ≤ 100000) : ref02_Bytes s = some (encB s) := by
  rw [ref02_Bytes_eq, ilen_eq, wrap_u64 (by omega) (by omega), refUint_spec (by omega), Option.bind_some]
  have := enc_length s.length
  rw [Bool.cond_decide, if_pos (show _ ≤ room by simp only [ilen_eq, room_eq]; omega)]
  rfl
theorem bytes17 {x0 s : List Int} (hl : x0.length ≤ 1000000000000) (hs : s.length ≤ 100000) : pack_Bytes x0 s = some (x0 ++ encB s) := by
  rw [pack_Bytes_eq, ilen_eq, wrap_u64 (by omega) (by omega), uint_spec (by omega) (by omega), Option.bind_some]
  have := enc_length s.length
  rw [Bool.cond_decide, if_pos (show _ ≤ room by simp only [ilen_eq, List.length_append, room_eq]; omega), List.append_assoc]
  rfl
/-- Numbers, one behind the other. -/
def encs : List Int → List Int
  | [] => []
  | n :: l => enc n.toNat ++ encs l
theorem encs_len (l : List Int) : (encs l).length ≤ 10 * l.length := by
  induction l with
  | nil => simp [encs]
  | cons n l ih =>
    have := enc_length n.toNat
    simp only [encs, List.length_append, List.length_cons]; omega
def Small (l : List Int) : Prop := ∀ n ∈ l, 0 ≤ n ∧ n < 9223372036854775808
theorem nums_l0 : ∀ (r : List Int) (i : Nat) (l x0 : List Int), l.drop i = r → Small l → l.length ≤ 1000000 → x0.length + 10 * r.length ≤ 1000000000000 →
    packet_numbers_l0 l (l.length : Int) (i : Int) x0 = some (x0 ++ encs r) := by
  intro r
  induction r with
  | nil =>
    intro i l x0 h _ _ _
    have := at_nil h
    rw [packet_numbers_l0_eq, Bool.cond_decide, if_neg (by omega), encs, List.append_nil]
  | cons n r ih =>
    intro i l x0 h hs hl hx
    obtain ⟨h1, h2, h3⟩ := at_drop h
    have hn := hs n (List.mem_of_getElem? h2)
    have hen := enc_length n.toNat
    rw [List.length_cons] at hx
    rw [packet_numbers_l0_eq, Bool.cond_decide, if_pos (by omega), Bool.cond_decide, if_pos (by omega), Int.toNat_natCast, h2, Option.bind_some, wrap_u64 (by omega) (by omega), show n = ((n.toNat : Nat) : Int) by omega, uint_spec (by omega) (by omega), Option.bind_some, wrap_succ (by omega),
      ih (i + 1) l _ h3 hs hl (by rw [List.length_append]; omega), List.append_assoc]
    rfl
theorem nums_spec {x0 l : List Int} (hs : Small l) (hl : l.length ≤ 1000) (hx : x0.length ≤ 100000000000) : packet_numbers x0 l = some (x0 ++ encs l) := by
  rw [packet_numbers_eq, ilen_eq]
  exact nums_l0 l 0 l x0 rfl hs (by omega) (by omega)
theorem refnums_l0 : ∀ (r : List Int) (i : Nat) (l x0 : List Int), l.drop i = r → Small l → l.length ≤ 1000000 → x0.length + 10 * r.length ≤ 1000000000000 →
    ref17_nums_l0 l (i : Int) x0 = some (x0 ++ encs r) := by
  intro r
  induction r with
  | nil =>
    intro i l x0 h _ _ _
    have := at_nil h
    rw [ref17_nums_l0_eq, ilen_eq, Bool.cond_decide, if_neg (by omega), encs, List.append_nil]
  | cons n r ih =>
    intro i l x0 h hs hl hx
    obtain ⟨h1, h2, h3⟩ := at_drop h
    have hn := hs n (List.mem_of_getElem? h2)
    have hen := enc_length n.toNat
    rw [List.length_cons] at hx
    rw [ref17_nums_l0_eq, ilen_eq, Bool.cond_decide, if_pos (by omega), Bool.cond_decide, if_pos (by omega), Int.toNat_natCast, h2, Option.bind_some, wrap_u64 (by omega) (by omega), show n = ((n.toNat : Nat) : Int) by omega, refUint_spec (by omega), Option.bind_some, wrap_succ (by omega),
      Bool.cond_decide, if_pos (show _ ≤ room by simp only [ilen_eq, room_eq]; omega), ih (i + 1) l _ h3 hs hl (by rw [List.length_append]; omega), List.append_assoc]
    rfl
theorem refnums_spec {l : List Int} (hs : Small l) (hl : l.length ≤ 1000) : ref17_nums l = some (encs l) := by
  rw [ref17_nums_eq]
  exact refnums_l0 l 0 l [] rfl hs (by omega) (by simp; omega)
/-! the checks -/
abbrev Ent : Type := Int × List Int
abbrev Mg : Type := Int × Int × Int × Int × Int × Int × Int × Int × Bool × List (Int × List Int) × List Int
def inR (a b c : Int) : Bool := decide (b ≤ a) && decide (a ≤ c)
theorem refin_spec (a b c : Int) : ref17_in a b c = some (inR a b c) := by
  rw [ref17_in_eq, Bool.cond_decide, inR]
  by_cases h : a ≥ b
  · rw [if_pos h, decide_eq_true (show b ≤ a from h), Bool.true_and]
  · rw [if_neg h, decide_eq_false (show ¬ b ≤ a from h), Bool.false_and]
theorem node_spec (a : Int) : packet_node a = some (inR a 1 7) := by
  rw [packet_node_eq, Bool.cond_decide, inR]
  by_cases h : a ≥ 1
  · rw [if_pos h, decide_eq_true (show 1 ≤ a from h), Bool.true_and]
  · rw [if_neg h, decide_eq_false (show ¬ 1 ≤ a from h), Bool.false_and]
def entOk (e : Ent) : Bool := inR e.1 1 1099511627776 && decide (e.2.length ≤ 65536)
theorem entry_spec (e : Ent) : packet_entry e.1 e.2 = some (entOk e) := by
  rw [packet_entry_eq, ilen_eq, Bool.cond_decide, entOk, inR]
  by_cases h : e.1 ≥ 1
  · rw [if_pos h, decide_eq_true (show 1 ≤ e.1 from h), Bool.true_and, Bool.cond_decide]
    by_cases h2 : e.1 ≤ 1099511627776
    · rw [if_pos h2, decide_eq_true h2, Bool.true_and]
      exact congrArg some (decide_eq_decide.mpr (by omega))
    · rw [if_neg h2, decide_eq_false h2, Bool.false_and]
  · rw [if_neg h, decide_eq_false (show ¬ 1 ≤ e.1 from h), Bool.false_and, Bool.false_and]
theorem idx_l0 : ∀ (r : List Ent) (i : Nat) (l : List Ent), l.drop i = r → l.length ≤ 9223372036854775806 → ∃ v, packet_IndexFunc_l0 l (l.length : Int) (i : Int) = some v ∧ (decide (v ≥ 0)) = !(r.all entOk) := by
  intro r
  induction r with
  | nil =>
    intro i l h _
    have := at_nil h
    exact ⟨-1, by rw [packet_IndexFunc_l0_eq, Bool.cond_decide, if_neg (by omega)], rfl⟩
  | cons e r ih =>
    intro i l h hl
    obtain ⟨h1, h2, h3⟩ := at_drop h
    rw [packet_IndexFunc_l0_eq, Bool.cond_decide, if_pos (by omega), Bool.cond_decide, if_pos (by omega), Int.toNat_natCast, h2, Option.bind_some, entry_spec, Option.bind_some, List.all_cons, wrap_succ (by omega)]
    cases entOk e with
    | true => rw [Bool.not_true, cond_false, Bool.true_and]; exact ih (i + 1) l h3 hl
    | false => exact ⟨i, rfl, by rw [decide_eq_true (show (i : Int) ≥ 0 by omega)]; rfl⟩
theorem contains_spec {l : List Ent} (hl : l.length ≤ 9223372036854775806) : packet_ContainsFunc l = some (!(l.all entOk)) := by
  obtain ⟨v, h1, h2⟩ := idx_l0 l 0 l rfl hl
  rw [packet_ContainsFunc_eq, packet_IndexFunc_eq, ilen_eq]
  rw [show ((0 : Nat) : Int) = 0 from rfl] at h1
  rw [h1, Option.bind_some, h2]
def msgOk (m : Mg) : Bool :=
  inR m.1 1 7 && (inR m.2.1 0 63 && (inR m.2.2.2.2.1 0 1099511627776 && (inR m.2.2.2.2.2.1 0 1099511627776 && (inR m.2.2.2.2.2.2.1 0 1099511627776 && (inR m.2.2.2.2.2.2.2.1 0 1099511627776 &&
    (decide (m.2.2.2.2.2.2.2.2.2.1.length ≤ 8) && (decide (m.2.2.2.2.2.2.2.2.2.2.length ≤ 65536) && m.2.2.2.2.2.2.2.2.2.1.all entOk)))))))
theorem msgOk_iff (m : Mg) : msgOk m = true ↔ (1 ≤ m.1 ∧ m.1 ≤ 7) ∧ (0 ≤ m.2.1 ∧ m.2.1 ≤ 63) ∧ (0 ≤ m.2.2.2.2.1 ∧ m.2.2.2.2.1 ≤ 1099511627776) ∧ (0 ≤ m.2.2.2.2.2.1 ∧ m.2.2.2.2.2.1 ≤ 1099511627776) ∧
    (0 ≤ m.2.2.2.2.2.2.1 ∧ m.2.2.2.2.2.2.1 ≤ 1099511627776) ∧ (0 ≤ m.2.2.2.2.2.2.2.1 ∧ m.2.2.2.2.2.2.2.1 ≤ 1099511627776) ∧ m.2.2.2.2.2.2.2.2.2.1.length ≤ 8 ∧ m.2.2.2.2.2.2.2.2.2.2.length ≤ 65536 ∧ m.2.2.2.2.2.2.2.2.2.1.all entOk = true := by
  simp only [msgOk, inR, Bool.and_eq_true, decide_eq_true_eq]
theorem okmsg_spec (m : Mg) (hl : m.2.2.2.2.2.2.2.2.2.1.length ≤ 9223372036854775806) : packet_okmsg m.1 m.2.1 m.2.2.1 m.2.2.2.1 m.2.2.2.2.1 m.2.2.2.2.2.1 m.2.2.2.2.2.2.1 m.2.2.2.2.2.2.2.1 m.2.2.2.2.2.2.2.2.1 m.2.2.2.2.2.2.2.2.2.1 m.2.2.2.2.2.2.2.2.2.2 = some (msgOk m) := by
  have hi := msgOk_iff m
  rw [packet_okmsg_eq, contains_spec hl, Option.bind_some, Bool.not_not]
  rw [ilen_eq, ilen_eq]
  have no : ¬ ((1 ≤ m.1 ∧ m.1 ≤ 7) ∧ (0 ≤ m.2.1 ∧ m.2.1 ≤ 63) ∧ (0 ≤ m.2.2.2.2.1 ∧ m.2.2.2.2.1 ≤ 1099511627776) ∧ (0 ≤ m.2.2.2.2.2.1 ∧ m.2.2.2.2.2.1 ≤ 1099511627776) ∧
    (0 ≤ m.2.2.2.2.2.2.1 ∧ m.2.2.2.2.2.2.1 ≤ 1099511627776) ∧ (0 ≤ m.2.2.2.2.2.2.2.1 ∧ m.2.2.2.2.2.2.2.1 ≤ 1099511627776) ∧ m.2.2.2.2.2.2.2.2.2.1.length ≤ 8 ∧ m.2.2.2.2.2.2.2.2.2.2.length ≤ 65536) → some false = some (msgOk m) := fun h => by
    cases e : msgOk m with
    | false => rfl
    | true => exact absurd (by obtain ⟨a, b, c, d, e, f, g, i, _⟩ := hi.mp e; exact ⟨a, b, c, d, e, f, g, i⟩) h
  rw [Bool.cond_decide]
  split
  · exact no (by omega)
  rw [Bool.cond_decide]
  split
  · exact no (by omega)
  rw [Bool.cond_decide]
  split
  · exact no (by omega)
  rw [Bool.cond_decide]
  split
  · exact no (by omega)
  rw [Bool.cond_decide]
  split
  · exact no (by omega)
  rw [Bool.cond_decide]
  split
  · exact no (by omega)
  rw [Bool.cond_decide]
  split
  · exact no (by omega)
  rw [Bool.cond_decide]
  split
  · exact no (by omega)
  rw [Bool.cond_decide]
  split
  · exact no (by omega)
  rw [Bool.cond_decide]
  split
  · exact no (by omega)
  rw [Bool.cond_decide]
  split
  · exact no (by omega)
  rw [Bool.cond_decide]
  split
  · exact no (by omega)
  rw [Bool.cond_decide]
  split
  · exact no (by omega)
  rw [Bool.cond_decide]
  split
  · exact no (by omega)
  refine congrArg some ?_
  cases e : m.2.2.2.2.2.2.2.2.2.1.all entOk with
  | true => exact (hi.mpr ⟨by omega, by omega, by omega, by omega, by omega, by omega, by omega, by omega, e⟩).symm
  | false =>
    cases e2 : msgOk m with
    | false => rfl
    | true => rw [(hi.mp e2).2.2.2.2.2.2.2.2] at e; cases e
theorem refMsg_no (i : Nat) (a b c d e f g h : Int) (o : Bool) (l : List Ent) (t : List Int) : ref17_Msg_l0 false (i : Int) a b c d e f g h o l t = some false := by
  rw [ref17_Msg_l0_eq, cond_false]
  cases decide ((i : Int) < ilen l) <;> rfl
theorem refMsg_l0 : ∀ (r : List Ent) (i : Nat) (y : Bool) (a b c d e f g h : Int) (o : Bool) (l : List Ent) (t : List Int), l.drop i = r → l.length ≤ 9223372036854775806 →
    ref17_Msg_l0 y (i : Int) a b c d e f g h o l t = some (y && r.all entOk) := by
  intro r
  induction r with
  | nil =>
    intro i y a b c d e f g h o l t hr _
    have := at_nil hr
    rw [ref17_Msg_l0_eq, ilen_eq, Bool.cond_decide, if_neg (by omega), List.all_nil, Bool.and_true]
  | cons x r ih =>
    intro i y a b c d e f g h o l t hr hl
    obtain ⟨h1, h2, h3⟩ := at_drop hr
    have ih1 := ih (i + 1) (decide (ilen x.2 ≤ 65536)) a b c d e f g h o l t h3 hl
    have ih2 := ih (i + 1) false a b c d e f g h o l t h3 hl
    rw [ref17_Msg_l0_eq, ilen_eq, Bool.cond_decide, if_pos (by omega), Bool.cond_decide, if_pos (by omega), Int.toNat_natCast, h2, Option.bind_some, Option.bind_some, refin_spec, Option.bind_some, wrap_succ (by omega), Bool.cond_decide, if_pos (by omega), ih1, ih2, List.all_cons, entOk, ilen_eq,
      show (decide ((x.2.length : Int) ≤ 65536)) = decide (x.2.length ≤ 65536) from decide_eq_decide.mpr (by omega)]
    cases y <;> cases inR x.1 1 1099511627776 <;> simp
theorem refMsg_spec (m : Mg) (hl : m.2.2.2.2.2.2.2.2.2.1.length ≤ 9223372036854775806) : ref17_Msg m.1 m.2.1 m.2.2.1 m.2.2.2.1 m.2.2.2.2.1 m.2.2.2.2.2.1 m.2.2.2.2.2.2.1 m.2.2.2.2.2.2.2.1 m.2.2.2.2.2.2.2.2.1 m.2.2.2.2.2.2.2.2.2.1 m.2.2.2.2.2.2.2.2.2.2 = some (msgOk m) := by
  have h0 := fun y a b c d e f g h o t => refMsg_l0 m.2.2.2.2.2.2.2.2.2.1 0 y a b c d e f g h o m.2.2.2.2.2.2.2.2.2.1 t rfl hl
  rw [show ((0 : Nat) : Int) = 0 from rfl] at h0
  rw [ref17_Msg_eq]
  simp -implicitDefEqProofs only [refin_spec, Option.bind_some, h0, ilen_eq]
  rw [msgOk, show (decide ((m.2.2.2.2.2.2.2.2.2.1.length : Int) ≤ 8)) = decide (m.2.2.2.2.2.2.2.2.2.1.length ≤ 8) from decide_eq_decide.mpr (by omega), show (decide ((m.2.2.2.2.2.2.2.2.2.2.length : Int) ≤ 65536)) = decide (m.2.2.2.2.2.2.2.2.2.2.length ≤ 65536) from decide_eq_decide.mpr (by omega)]
  cases inR m.1 1 7 <;> cases inR m.2.1 0 63 <;> cases inR m.2.2.2.2.1 0 1099511627776 <;> cases inR m.2.2.2.2.2.1 0 1099511627776 <;> cases inR m.2.2.2.2.2.2.1 0 1099511627776 <;> cases inR m.2.2.2.2.2.2.2.1 0 1099511627776 <;> cases decide (m.2.2.2.2.2.2.2.2.2.1.length ≤ 8) <;> rfl
def msgs1 (a b : Int) : List Mg → Int
  | [] => 0
  | m :: r => if m.2.2.1 ≠ a then 1 else if m.2.2.2.1 ≠ b then 1 else if msgOk m = true then msgs1 a b r else 1
/-- What is wrong with a packet. -/
def chk (a b : Int) (l : List Mg) : Int :=
  if inR a 1 7 = true then if inR b 1 7 = true then if a = b then 1 else if l.length > 256 then 6 else msgs1 a b l else 1 else 1
theorem check_l1 : ∀ (r : List Mg) (i : Nat) (l : List Mg) (a b : Int) (l' : List Mg), l.drop i = r → l.length ≤ 1000 → (∀ m ∈ l, m.2.2.2.2.2.2.2.2.2.1.length ≤ 9223372036854775806) →
    packet_Check_l1 l (l.length : Int) (i : Int) a b l' = some (msgs1 a b r) := by
  intro r
  induction r with
  | nil =>
    intro i l a b l' h _ _
    have := at_nil h
    rw [packet_Check_l1_eq, Bool.cond_decide, if_neg (by omega), msgs1]
  | cons m r ih =>
    intro i l a b l' h hl hm
    obtain ⟨h1, h2, h3⟩ := at_drop h
    rw [packet_Check_l1_eq, Bool.cond_decide, if_pos (by omega), Bool.cond_decide, if_pos (by omega), Int.toNat_natCast, h2, Option.bind_some, okmsg_spec m (hm m (List.mem_of_getElem? h2)), Option.bind_some, wrap_succ (by omega), ih (i + 1) l a b l' h3 hl hm, msgs1]
    by_cases e1 : m.2.2.1 = a
    · rw [bne_no e1, cond_false, if_neg (fun h => h e1)]
      by_cases e2 : m.2.2.2.1 = b
      · rw [bne_no e2, cond_false, if_neg (fun h => h e2)]
        cases msgOk m <;> rfl
      · rw [bne_yes e2, cond_true, if_pos e2]
    · rw [bne_yes e1, cond_true, if_pos e1]
theorem check_spec (a b : Int) (l : List Mg) (hm : ∀ m ∈ l, m.2.2.2.2.2.2.2.2.2.1.length ≤ 9223372036854775806) : packet_Check a b l = some (chk a b l) := by
  rw [packet_Check_eq, node_spec, Option.bind_some, node_spec, Option.bind_some, ilen_eq, chk]
  cases inR a 1 7 with
  | false => rfl
  | true =>
    cases inR b 1 7 with
    | false => rfl
    | true =>
      rw [Bool.not_true, cond_false, cond_false, if_pos rfl, if_pos rfl]
      by_cases e : a = b
      · rw [beq_yes e, cond_true, if_pos e]
      · rw [beq_no e, cond_false, if_neg e, Bool.cond_decide]
        by_cases hl : l.length > 256
        · rw [if_pos (by omega), if_pos hl]
        · rw [if_neg (by omega), if_neg hl]
          exact check_l1 l 0 l a b l rfl (by omega) hm
theorem refCheck_l0 : ∀ (r : List Mg) (i : Nat) (l : List Mg) (a b : Int), l.drop i = r → l.length ≤ 1000 → (∀ m ∈ l, m.2.2.2.2.2.2.2.2.2.1.length ≤ 9223372036854775806) →
    ref17_Check_l0 (i : Int) a b l = some (msgs1 a b r) := by
  intro r
  induction r with
  | nil =>
    intro i l a b h _ _
    have := at_nil h
    rw [ref17_Check_l0_eq, ilen_eq, Bool.cond_decide, if_neg (by omega), msgs1]
  | cons m r ih =>
    intro i l a b h hl hm
    obtain ⟨h1, h2, h3⟩ := at_drop h
    rw [ref17_Check_l0_eq, ilen_eq, Bool.cond_decide, if_pos (by omega), Bool.cond_decide, if_pos (by omega), Bool.cond_decide, if_pos (by omega), Bool.cond_decide, if_pos (by omega), Int.toNat_natCast, h2, Option.bind_some, Option.bind_some, Option.bind_some, refMsg_spec m (hm m (List.mem_of_getElem? h2)), Option.bind_some, wrap_succ (by omega), ih (i + 1) l a b h3 hl hm, msgs1]
    by_cases e1 : m.2.2.1 = a
    · rw [bne_no e1, cond_false, if_neg (fun h => h e1)]
      by_cases e2 : m.2.2.2.1 = b
      · rw [bne_no e2, cond_false, if_neg (fun h => h e2)]
        cases msgOk m <;> rfl
      · rw [bne_yes e2, cond_true, if_pos e2]
    · rw [bne_yes e1, cond_true, if_pos e1]
theorem refCheck_spec (a b : Int) (l : List Mg) (hm : ∀ m ∈ l, m.2.2.2.2.2.2.2.2.2.1.length ≤ 9223372036854775806) : ref17_Check a b l = some (chk a b l) := by
  rw [ref17_Check_eq, refin_spec, Option.bind_some, refin_spec, Option.bind_some, ilen_eq, chk]
  cases inR a 1 7 with
  | false => rfl
  | true =>
    cases inR b 1 7 with
    | false => rfl
    | true =>
      rw [Bool.not_true, cond_false, cond_false, if_pos rfl, if_pos rfl]
      by_cases e : a = b
      · rw [beq_yes e, cond_true, if_pos e]
      · rw [beq_no e, cond_false, if_neg e, Bool.cond_decide]
        by_cases hl : l.length > 256
        · rw [if_pos (by omega), if_pos hl]
        · rw [if_neg (by omega), if_neg hl]
          exact refCheck_l0 l 0 l a b rfl (by omega) hm
end Go.Proofs.Ytpoblfpjjlplbaa.PE
