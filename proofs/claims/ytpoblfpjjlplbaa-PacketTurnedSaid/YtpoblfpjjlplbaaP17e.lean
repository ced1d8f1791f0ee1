/- Packets as bytes: what the chapter says; messages' weight; what is the same. -/
import Derived.Test.YtpoblfpjjlplbaaP17d
namespace Go.Proofs.Ytpoblfpjjlplbaa.PE
set_option linter.unusedVariables false
open Go Go.RowKit Go.Proofs.Ytpoblfpjjlplbaa.Pack
theorem refone_l0 (t : List Int) (ht : t.length ≤ 65536) (es : List Ent) (hes : es.length ≤ 8) (hok : es.all entOk = true) :
    ∀ (r : List Ent) (i : Nat) (acc : List Int) (a b c d e f g h : Int) (o : Bool), es.drop i = r → acc.length + 65556 * r.length ≤ 90000000000 →
      ref17_one_l0 (i : Int) a b c d e f g h o es t acc = some (acc ++ (encEnts r ++ encB t)) := by
  intro r
  induction r with
  | nil =>
    intro i acc a b c d e f g h o hr hl
    have := at_nil hr
    have := encB_len t
    rw [ref17_one_l0_eq, ilen_eq, Bool.cond_decide, if_neg (by omega), refBytes17 (by omega), Option.bind_some, encEnts, List.nil_append, Bool.cond_decide, if_pos (show _ ≤ room by simp only [ilen_eq, room_eq]; omega)]
  | cons x r ih =>
    intro i acc a b c d e f g h o hr hl
    obtain ⟨h1, h2, h3⟩ := at_drop hr
    have hx := (entOk_iff x).mp (List.all_eq_true.mp hok x (List.mem_of_getElem? h2))
    have l1 := enc_length x.1.toNat
    have l2 := encB_len x.2
    rw [List.length_cons] at hl
    rw [ref17_one_l0_eq, ilen_eq, Bool.cond_decide, if_pos (by omega), Bool.cond_decide, if_pos (by omega), Int.toNat_natCast, h2, Option.bind_some, refnums_spec (fun y hy => by rw [List.mem_singleton] at hy; omega) (by simp), Option.bind_some, wrap_succ (by omega)]
    rw [Bool.cond_decide, if_pos (show _ ≤ room by simp only [ilen_eq, encs, List.length_append, List.length_nil, room_eq]; omega), Bool.cond_decide, if_pos (show (0 : Int) ≤ (i : Int) by omega), Option.bind_some, refBytes17 (by omega), Option.bind_some,
      Bool.cond_decide, if_pos (show _ ≤ room by simp only [ilen_eq, encs, List.length_append, List.length_nil, room_eq]; omega)]
    rw [ih (i + 1) _ a b c d e f g h o h3 (by simp only [encs, List.length_append, List.length_nil]; omega)]
    simp only [encs, encEnts, List.append_assoc, List.append_nil]
theorem refone_spec {m : Mg} (hm : msgOk m = true) : ref17_one m.1 m.2.1 m.2.2.1 m.2.2.2.1 m.2.2.2.2.1 m.2.2.2.2.2.1 m.2.2.2.2.2.2.1 m.2.2.2.2.2.2.2.1 m.2.2.2.2.2.2.2.2.1 m.2.2.2.2.2.2.2.2.2.1 m.2.2.2.2.2.2.2.2.2.2 = some (encM m) := by
  obtain ⟨k1, k2, k3, k4, k5, k6, k7, k8, k9⟩ := (msgOk_iff m).mp hm
  have l2 := encs_len (headM m)
  rw [show (headM m).length = 8 from rfl] at l2
  have q := refone_l0 m.2.2.2.2.2.2.2.2.2.2 (by omega) m.2.2.2.2.2.2.2.2.2.1 (by omega) k9 m.2.2.2.2.2.2.2.2.2.1 0 (encs (headM m)) m.1 m.2.1 m.2.2.1 m.2.2.2.1 m.2.2.2.2.1 m.2.2.2.2.2.1 m.2.2.2.2.2.2.1 m.2.2.2.2.2.2.2.1 m.2.2.2.2.2.2.2.2.1 rfl (by omega)
  have e : (bif m.2.2.2.2.2.2.2.2.1 then ref17_nums [m.1, m.2.1, m.2.2.2.2.1, m.2.2.2.2.2.1, m.2.2.2.2.2.2.1, m.2.2.2.2.2.2.2.1, 1, ilen m.2.2.2.2.2.2.2.2.2.1] else ref17_nums [m.1, m.2.1, m.2.2.2.2.1, m.2.2.2.2.2.1, m.2.2.2.2.2.2.1, m.2.2.2.2.2.2.2.1, 0, ilen m.2.2.2.2.2.2.2.2.2.1]) = some (encs (headM m)) := by
    rw [ilen_eq]
    have := refnums_spec (l := headM m) (headM_small hm) (by rw [show (headM m).length = 8 from rfl]; omega)
    rw [← this, headM, b2i]
    cases m.2.2.2.2.2.2.2.2.1 <;> rfl
  rw [ref17_one_eq]
  revert e q
  cases m.2.2.2.2.2.2.2.2.1 with
  | true => intro q e; rw [cond_true] at e ⊢; rw [e, Option.bind_some]; exact q
  | false => intro q e; rw [cond_false] at e ⊢; rw [e, Option.bind_some]; exact q
theorem refput_l0 (a b : Int) (l : List Mg) (hl : l.length ≤ 256) (hok : ∀ m ∈ l, msgOk m = true) : ∀ (r : List Mg) (i : Nat) (acc : List Int), l.drop i = r → acc.length + 600000 * r.length ≤ 800000000 → Bytes (acc ++ encMs r) →
    ref17_Put_l0 (i : Int) a b l acc = some (sealed (acc ++ encMs r), 0) := by
  intro r
  induction r with
  | nil =>
    intro i acc hr hs hb
    have := at_nil hr
    rw [encMs, List.append_nil] at hb ⊢
    rw [ref17_Put_l0_eq, ilen_eq, Bool.cond_decide, if_neg (by omega), seal_spec hb (by omega), Option.bind_some]
  | cons m r ih =>
    intro i acc hr hs hb
    obtain ⟨h1, h2, h3⟩ := at_drop hr
    have hm := hok m (List.mem_of_getElem? h2)
    have l1 := encM_len hm
    rw [List.length_cons] at hs
    rw [ref17_Put_l0_eq, ilen_eq, Bool.cond_decide, if_pos (by omega), Bool.cond_decide, if_pos (by omega), Int.toNat_natCast, h2, Option.bind_some, refone_spec hm, Option.bind_some, wrap_succ (by omega), Bool.cond_decide, if_pos (show _ ≤ room by simp only [ilen_eq, room_eq]; omega)]
    rw [encMs, ← List.append_assoc] at hb ⊢
    exact ih (i + 1) _ h3 (by rw [List.length_append]; omega) hb
theorem refput_spec {a b : Int} {l : List Mg} (hs : Short l) (hb : ∀ m ∈ l, BM m) : ref17_Put a b l = some (putS a b l) := by
  rw [ref17_Put_eq, refCheck_spec a b l hs, Option.bind_some, putS]
  by_cases h : chk a b l = 0
  · obtain ⟨h1, h2, h3, h4, h5⟩ := chk_ok h
    have a1 := encs_len [a, b, (l.length : Int)]
    simp only [List.length_cons, List.length_nil] at a1
    rw [bne_no h, cond_false, if_pos h, ilen_eq, refnums_spec (head_small h1 h2 h4) (by simp), Option.bind_some]
    exact refput_l0 a b l h4 (fun m hm => (h5 m hm).2.2) l 0 (encs [a, b, (l.length : Int)]) rfl (by omega) (body_bytes h hb)
  · rw [bne_yes h, cond_true, if_neg h]
/-! weights -/
def Reach (m : Mg) : Prop := m.2.2.2.2.2.2.2.2.2.2.length ≤ 140737488355328 ∧ ∀ e ∈ m.2.2.2.2.2.2.2.2.2.1, e.2.length ≤ 140737488355328
theorem part20 {n : Nat} (h : n ≤ 140737488355328) : IntKind.i64.wrap ((n : Int).tdiv 20) = ((n / 20 : Nat) : Int) := by
  rw [Int.tdiv_eq_ediv_of_nonneg (by omega), wrap_i64 (by omega) (by omega)]; omega
theorem weight_l2 (l : List Mg) (k : Nat) (m : Mg) (hk : l[k]? = some m) (hr : Reach m) (hs : m.2.2.2.2.2.2.2.2.2.1.length ≤ 9223372036854775806) (Q : Option Int → Prop)
    (hQ : ∀ y : Nat, k + 1 ≤ y → y ≤ 1000000000000000 → Q (ref17_Weight_l0 l 300 (y : Int) (IntKind.i64.wrap ((k : Int) + 1)))) :
    ∀ (r : List Ent) (i y : Nat), m.2.2.2.2.2.2.2.2.2.1.drop i = r → k + 1 ≤ y → y ≤ 1000000000000000 → Q (ref17_Weight_l2 l 300 (y : Int) (k : Int) (i : Int)) := by
  intro r
  induction r with
  | nil =>
    intro i y hd h1 h2
    have := at_nil hd
    rw [ref17_Weight_l2_eq, Bool.cond_decide, if_pos (by omega), Int.toNat_natCast, hk, Option.bind_some, ilen_eq, Bool.cond_decide, if_neg (by omega)]
    exact hQ y h1 h2
  | cons x r ih =>
    intro i y hd g1 g2
    obtain ⟨h1, h2, h3⟩ := at_drop hd
    have hx := hr.2 x (List.mem_of_getElem? h2)
    rw [ref17_Weight_l2_eq, Bool.cond_decide, if_pos (by omega), Int.toNat_natCast, hk, Option.bind_some, ilen_eq, Bool.cond_decide, if_pos (by omega), Bool.cond_decide]
    by_cases hy : (y : Int) ≤ 300
    · rw [if_pos hy, Bool.cond_decide, if_pos (by omega), Option.bind_some, Bool.cond_decide, if_pos (by omega), Int.toNat_natCast, h2, Option.bind_some, ilen_eq, part20 hx, wrap_succ (i := y) (by omega), wrap_succ (i := i) (by omega), wrap_i64 (by omega) (by omega),
        show ((y + 1 : Nat) : Int) + ((x.2.length / 20 : Nat) : Int) = ((y + 1 + x.2.length / 20 : Nat) : Int) by omega]
      exact ih (i + 1) _ h3 (by omega) (by omega)
    · rw [if_neg hy]
      exact hQ y g1 g2
theorem weight_l0 (l : List Mg) (hl : l.length ≤ 9223372036854775806) (hr : ∀ m ∈ l, Reach m) (hs : Short l) : ∀ (r : List Mg) (i y : Nat), l.drop i = r → i ≤ l.length → i ≤ y → y ≤ 1000000000000000 →
    ∃ w, ref17_Weight_l0 l 300 (y : Int) (i : Int) = some w ∧ (w ≤ 300 → l.length ≤ 300) := by
  intro r
  induction r with
  | nil =>
    intro i y hd _ h1 h2
    have := at_nil hd
    refine ⟨y, ?_, fun h => by omega⟩
    rw [ref17_Weight_l0_eq, ilen_eq, Bool.cond_decide, if_neg (by omega)]
  | cons m r ih =>
    intro i y hd _ g1 g2
    obtain ⟨h1, h2, h3⟩ := at_drop hd
    have hm := List.mem_of_getElem? h2
    rw [ref17_Weight_l0_eq, ilen_eq, Bool.cond_decide, if_pos (by omega), Bool.cond_decide]
    by_cases hy : (y : Int) ≤ 300
    · rw [if_pos hy, Bool.cond_decide, if_pos (by omega), Int.toNat_natCast, h2, Option.bind_some, ilen_eq, part20 (hr m hm).1, wrap_i64 (x := (y : Int) + 1) (by omega) (by omega), wrap_i64 (by have := (hr m hm).1; omega) (by have := (hr m hm).1; omega),
        show (y : Int) + 1 + ((m.2.2.2.2.2.2.2.2.2.2.length / 20 : Nat) : Int) = ((y + 1 + m.2.2.2.2.2.2.2.2.2.2.length / 20 : Nat) : Int) by omega]
      refine weight_l2 l i m h2 (hr m hm) (hs m hm) (fun o => ∃ w, o = some w ∧ (w ≤ 300 → l.length ≤ 300)) (fun y' q1 q2 => ?_) m.2.2.2.2.2.2.2.2.2.1 0 _ rfl (by omega) (by have := (hr m hm).1; omega)
      rw [wrap_succ (by omega)]
      exact ih (i + 1) y' h3 (by omega) q1 q2
    · rw [if_neg hy]
      exact ⟨y, rfl, fun h => absurd h hy⟩
theorem light17 (l : List Mg) (hl : l.length ≤ 9223372036854775806) (hr : ∀ m ∈ l, Reach m) (hs : Short l) : ∃ t, law17_light l = some t ∧ (t = true → l.length ≤ 300) := by
  obtain ⟨w, h1, h2⟩ := weight_l0 l hl hr hs l 0 0 rfl (by omega) (by omega) (by omega)
  refine ⟨decide (w ≤ 300), ?_, fun h => h2 (of_decide_eq_true h)⟩
  rw [law17_light_eq, ref17_Weight_eq]
  rw [show ((0 : Nat) : Int) = 0 from rfl] at h1
  rw [h1, Option.bind_some]
/-! the same -/
theorem ents_self_l0 (l : List Ent) (hl : l.length ≤ 9223372036854775806) : ∀ (r : List Ent) (i : Nat), l.drop i = r → ref13_Entries_l0 l l (i : Int) = some true := by
  intro r
  induction r with
  | nil =>
    intro i hd
    have := at_nil hd
    rw [ref13_Entries_l0_eq, ilen_eq, Bool.cond_decide, if_neg (by omega)]
  | cons x r ih =>
    intro i hd
    obtain ⟨h1, h2, h3⟩ := at_drop hd
    rw [ref13_Entries_l0_eq, ilen_eq, Bool.cond_decide, if_pos (by omega), Bool.cond_decide, if_pos (by omega), Int.toNat_natCast, h2, Option.bind_some, Option.bind_some, Option.bind_some, Option.bind_some, bne_no rfl, cond_false, beq_yes rfl, Bool.not_true, cond_false, wrap_succ (by omega), ih (i + 1) h3]
    rfl
theorem ents_self (l : List Ent) (hl : l.length ≤ 9223372036854775806) : ref13_Entries l l = some true := by
  rw [ref13_Entries_eq, bne_no rfl, cond_false]
  exact ents_self_l0 l hl l 0 rfl
theorem msg_self (m : Mg) (hl : m.2.2.2.2.2.2.2.2.2.1.length ≤ 9223372036854775806) : ref15_SameMsg m.1 m.2.1 m.2.2.1 m.2.2.2.1 m.2.2.2.2.1 m.2.2.2.2.2.1 m.2.2.2.2.2.2.1 m.2.2.2.2.2.2.2.1 m.2.2.2.2.2.2.2.2.1 m.2.2.2.2.2.2.2.2.2.1 m.2.2.2.2.2.2.2.2.2.2
    m.1 m.2.1 m.2.2.1 m.2.2.2.1 m.2.2.2.2.1 m.2.2.2.2.2.1 m.2.2.2.2.2.2.1 m.2.2.2.2.2.2.2.1 m.2.2.2.2.2.2.2.2.1 m.2.2.2.2.2.2.2.2.2.1 m.2.2.2.2.2.2.2.2.2.2 = some true := by
  rw [ref15_SameMsg_eq, ents_self _ hl, Option.bind_some, bne_no rfl, bne_no rfl, bne_no rfl, bne_no rfl, bne_no rfl, bne_no rfl, bne_no rfl, bne_no rfl, beq_yes rfl, beq_yes rfl]
  rfl
theorem msgs_self_l0 (l : List Mg) (hl : l.length ≤ 9223372036854775806) (hs : Short l) : ∀ (r : List Mg) (i : Nat), l.drop i = r → ref15_SameMsgs_l0 l l (i : Int) = some true := by
  intro r
  induction r with
  | nil =>
    intro i hd
    have := at_nil hd
    rw [ref15_SameMsgs_l0_eq, ilen_eq, Bool.cond_decide, if_neg (by omega)]
  | cons x r ih =>
    intro i hd
    obtain ⟨h1, h2, h3⟩ := at_drop hd
    rw [ref15_SameMsgs_l0_eq, ilen_eq, Bool.cond_decide, if_pos (by omega), Bool.cond_decide, if_pos (by omega), Int.toNat_natCast, h2, Option.bind_some, Option.bind_some, msg_self x (hs x (List.mem_of_getElem? h2)), Option.bind_some, Bool.not_true, cond_false, wrap_succ (by omega), ih (i + 1) h3]
    rfl
theorem msgs_self (l : List Mg) (hl : l.length ≤ 9223372036854775806) (hs : Short l) : ref15_SameMsgs l l = some true := by
  rw [ref15_SameMsgs_eq, bne_no rfl, cond_false]
  exact msgs_self_l0 l hl hs l 0 rfl
theorem pk_self (a b : Int) (l : List Mg) (hl : l.length ≤ 9223372036854775806) (hs : Short l) : ref17_Same a b l a b l = some true := by
  rw [ref17_Same_eq, msgs_self l hl hs, Option.bind_some, beq_yes rfl, beq_yes rfl]; rfl
end Go.Proofs.Ytpoblfpjjlplbaa.PE
