/- Packets that are read: what was read was written in just that way, and what was written is read again. -/
import Derived.Test.YtpoblfpjjlplbaaP17e
namespace Go.Proofs.Ytpoblfpjjlplbaa.PE
set_option linter.unusedVariables false
open Go Go.RowKit Go.Proofs.Ytpoblfpjjlplbaa.Pack
theorem beq_str {a b : List Int} (ha : Bytes a) (hb : Bytes b) (h : ((strOf a).toList == (strOf b).toList) = true) : a = b := by
  have e := eq_of_beq h
  rw [toList_data, toList_data] at e
  have e2 : (a.map fun n => UInt8.ofNat n.toNat) = (b.map fun n => UInt8.ofNat n.toNat) := e
  clear e h
  induction a generalizing b with
  | nil => cases b with
    | nil => rfl
    | cons y b => simp at e2
  | cons x a ih => cases b with
    | nil => simp at e2
    | cons y b =>
      rw [List.map_cons, List.map_cons, List.cons.injEq] at e2
      have hx := ha x (by simp)
      have hy := hb y (by simp)
      have e3 := congrArg UInt8.toNat e2.1
      rw [UInt8.toNat_ofNat_of_lt' (by simp [UInt8.size]; omega), UInt8.toNat_ofNat_of_lt' (by simp [UInt8.size]; omega)] at e3
      rw [ih (fun z hz => ha z (by simp [hz])) (fun z hz => hb z (by simp [hz])) e2.2, show x = y by omega]
theorem fail_zero (b : List Int) (c : Int) : reader_fail b 0 c = some (b, c) := by rw [reader_fail_eq]; rfl
theorem number_tot {b : List Int} {e n : Int} (hb : Bytes b) (hl : b.length ≤ 140737488351232) (hn : 0 ≤ n) (hn2 : n < 9223372036854775808) :
    ∃ r e' v, reader_number b e n = some (r, e', v) ∧ Bytes r ∧ r.length ≤ b.length ∧ 0 ≤ v ∧ v ≤ n ∧ (e' = 0 → e = 0 ∧ b = enc v.toNat ++ r) := by
  rw [reader_number_eq]
  by_cases he : e = 0
  · subst he
    rw [bne_no rfl, cond_false, readUint_spec hb (by omega), Option.bind_some, fail_zero, Option.bind_some]
    have hlen := rdu_len 0 b
    have hrb := rdu_rest hb 0
    have h64 := rdu_lt 0 b hb (by omega)
    by_cases hc : (rdu 0 b).2.2 = 0
    · have h1 := rdu_enc_once hb hc
      have q : (rdwhole (rdu 0 b)).2.2 = 0 := hc
      rw [bne_no q, cond_false]
      show ∃ r e' v, (bif decide (((rdu 0 b).1 : Int) > IntKind.u64.wrap n) then (reader_fail (rdu 0 b).2.1 (rdu 0 b).2.2 6).bind fun val10 => some (val10.1, val10.2, 0) else some ((rdu 0 b).2.1, (rdu 0 b).2.2, IntKind.i64.wrap ((rdu 0 b).1 : Int))) = _ ∧ _
      rw [hc, fail_zero, Option.bind_some, wrap_u64 hn (by omega), Bool.cond_decide]
      by_cases hv : ((rdu 0 b).1 : Int) > n
      · rw [if_pos hv]
        exact ⟨_, 6, 0, rfl, hrb, hlen, by omega, hn, fun h => by cases h⟩
      · rw [if_neg hv, wrap_i64 (by omega) (by omega)]
        refine ⟨_, _, _, rfl, hrb, hlen, by omega, by omega, fun _ => ⟨rfl, ?_⟩⟩
        rw [Int.toNat_natCast, h1]
    · have q : ¬ (rdwhole (rdu 0 b)).2.2 = 0 := hc
      rw [bne_yes q, cond_true]
      exact ⟨b, (rdu 0 b).2.2, 0, rfl, hb, by omega, by omega, hn, fun h => absurd h hc⟩
  · rw [bne_yes he, cond_true]
    exact ⟨_, _, _, rfl, hb, by omega, by omega, hn, fun h => absurd h he⟩
theorem number_back {r : List Int} {n v : Int} (hr : Bytes r) (hl : r.length ≤ 140737488351000) (hv : 0 ≤ v) (hvn : v ≤ n) (hn2 : n < 9223372036854775808) :
    reader_number (enc v.toNat ++ r) 0 n = some (r, 0, v) := by
  have e1 := enc_length v.toNat
  rw [reader_number_eq, bne_no rfl, cond_false, readUint_spec ((enc_bytes (by omega)).app hr) (by rw [List.length_append]; omega), rdu_enc (by omega), Option.bind_some, fail_zero, Option.bind_some]
  show (bif decide (((v.toNat : Nat) : Int) > IntKind.u64.wrap n) then (reader_fail r 0 6).bind fun val10 => some (val10.1, val10.2, 0) else some (r, 0, IntKind.i64.wrap ((v.toNat : Nat) : Int))) = some (r, 0, v)
  rw [wrap_u64 (by omega) (by omega), Bool.cond_decide, if_neg (by omega), wrap_i64 (by omega) (by omega), show ((v.toNat : Nat) : Int) = v by omega]
theorem clone17 {t : List Int} (h : t.length ≤ 140737488351232) : packet_CloneB t = some t := by
  rw [packet_CloneB_eq, Bool.cond_decide, if_pos (show _ ≤ room by simp only [ilen_eq, room_eq]; omega)]; rfl
theorem bytes_tot {b : List Int} {e : Int} (hb : Bytes b) (hl : b.length ≤ 140737488351232) :
    ∃ r e' t, reader_bytes b e = some (r, e', t) ∧ Bytes r ∧ r.length ≤ b.length ∧ Bytes t ∧ (e' = 0 → e = 0 ∧ b = encB t ++ r) := by
  rw [reader_bytes_eq]
  by_cases he : e = 0
  · subst he
    rw [bne_no rfl, cond_false, readBytes_spec hb (by omega), Option.bind_some, fail_zero, Option.bind_some]
    have hlen := rdu_len 0 b
    have hrb := rdu_rest hb 0
    unfold rdb
    by_cases hc : (rdu 0 b).2.2 = 0
    · have h1 := rdu_enc_once hb hc
      rw [if_pos hc]
      by_cases hv : (rdu 0 b).2.1.length < (rdu 0 b).1
      · rw [if_pos hv]
        exact ⟨b, 5, [], rfl, hb, by omega, Bytes.nil, fun h => by cases h⟩
      · rw [if_neg hv]
        have hcl : packet_CloneB ((rdu 0 b).2.1.take (rdu 0 b).1) = some ((rdu 0 b).2.1.take (rdu 0 b).1) := clone17 (by rw [List.length_take]; omega)
        refine ⟨(rdu 0 b).2.1.drop (rdu 0 b).1, 0, (rdu 0 b).2.1.take (rdu 0 b).1, ?_, hrb.drop _, by rw [List.length_drop]; omega, hrb.take _, fun _ => ⟨rfl, ?_⟩⟩
        · show ((packet_CloneB ((rdu 0 b).2.1.take (rdu 0 b).1)).bind fun val8 => some ((rdu 0 b).2.1.drop (rdu 0 b).1, (0 : Int), val8)) = _
          rw [hcl]; rfl
        · rw [encB, List.length_take, show min (rdu 0 b).1 (rdu 0 b).2.1.length = (rdu 0 b).1 by omega, List.append_assoc, List.take_append_drop, h1]
    · rw [if_neg hc]
      have q : ((rdu 0 b).2.2 != 0) = true := bne_yes hc
      refine ⟨b, (rdu 0 b).2.2, [], ?_, hb, by omega, Bytes.nil, fun h => absurd h hc⟩
      show (bif (rdu 0 b).2.2 != 0 then some (b, (rdu 0 b).2.2, []) else _) = _
      rw [q]; rfl
  · rw [bne_yes he, cond_true]
    exact ⟨_, _, _, rfl, hb, by omega, Bytes.nil, fun h => absurd h he⟩
theorem bytes_back {r t : List Int} (hr : Bytes r) (hl : r.length ≤ 140737488200000) (ht : Bytes t) (htl : t.length ≤ 65536) :
    reader_bytes (encB t ++ r) 0 = some (r, 0, t) := by
  have e1 := enc_length t.length
  have hb : Bytes (encB t ++ r) := (encB_bytes ht (by omega)).app hr
  have hrd : rdb (encB t ++ r) = (t, r, 0) := by
    unfold rdb
    rw [encB, List.append_assoc, rdu_enc (by omega)]
    show (if (0 : Int) = 0 then if (t ++ r).length < t.length then _ else ((t ++ r).take t.length, (t ++ r).drop t.length, (0 : Int)) else _) = _
    rw [if_pos rfl, if_neg (by rw [List.length_append]; omega), List.take_left, List.drop_left]
  rw [reader_bytes_eq, bne_no rfl, cond_false, readBytes_spec hb (by simp only [encB, List.length_append]; omega), hrd, Option.bind_some, fail_zero, Option.bind_some]
  show ((packet_CloneB t).bind fun val8 => some (r, (0 : Int), val8)) = _
  rw [clone17 (by omega)]; rfl
/-! one message -/
def okEnt (x : Ent) : Prop := Bytes x.2 ∧ 0 ≤ x.1 ∧ x.1 ≤ 1099511627776
theorem msg_tot_l0 (n : Nat) (hn : n ≤ 8) (z1 z2 z3 z4 z5 z6 z7 z8 : Int) (z9 : Bool) (p1 p2 p3 p4 p5 p6 p7 p8 : Int) (p9 : Bool) :
    ∀ (d i : Nat) (b : List Int) (e : Int) (acc : List Ent), i + d = n → acc.length = i → Bytes b → b.length ≤ 140737488351232 → (∀ x ∈ acc, Bytes x.2) →
      ∃ r e' es t, reader_msg_l0 (n : Int) (i : Int) b e z1 z2 z3 z4 z5 z6 z7 z8 z9 p1 p2 p3 p4 p5 p6 p7 p8 p9 acc = some (r, e', p1, p2, p3, p4, p5, p6, p7, p8, p9, es, t) ∧ Bytes r ∧ r.length ≤ b.length ∧ es.length ≤ n ∧ Bytes t ∧ (∀ x ∈ es, Bytes x.2) ∧
        (e' = 0 → e = 0 ∧ es.length = n ∧ ∃ es', es = acc ++ es' ∧ b = encEnts es' ++ (encB t ++ r)) := by
  intro d
  induction d with
  | zero =>
    intro i b e acc hi ha hb hl hacc
    rw [reader_msg_l0_eq, Bool.cond_decide, if_neg (by omega)]
    obtain ⟨r, e', t, h1, h2, h3, h4, h5⟩ := bytes_tot (e := e) hb hl
    rw [h1, Option.bind_some]
    refine ⟨r, e', acc, t, rfl, h2, h3, by omega, h4, hacc, fun he => ?_⟩
    obtain ⟨q1, q2⟩ := h5 he
    exact ⟨q1, by omega, [], (List.append_nil _).symm, q2⟩
  | succ d ih =>
    intro i b e acc hi ha hb hl hacc
    rw [reader_msg_l0_eq, Bool.cond_decide, if_pos (by omega)]
    by_cases he : e = 0
    · subst he
      rw [beq_yes rfl, cond_true]
      obtain ⟨r1, e1, v, h1, h2, h3, h4, h5, h6⟩ := number_tot (e := 0) (n := 1099511627776) hb hl (by omega) (by omega)
      rw [h1, Option.bind_some]
      dsimp only
      obtain ⟨r2, e2, t, k1, k2, k3, k4, k5⟩ := bytes_tot (e := e1) h2 (by omega)
      rw [k1, Option.bind_some]
      dsimp only
      rw [Bool.cond_decide, if_pos (show _ ≤ room by simp only [ilen_eq, List.length_cons, List.length_nil, room_eq]; omega), wrap_succ (by omega)]
      obtain ⟨r, e', es, t', m1, m2, m3, m4, m5, m6, m7⟩ := ih (i + 1) r2 e2 (acc ++ [(v, t)]) (by omega) (by simp; omega) k2 (by omega) (fun x hx => by
        rcases List.mem_append.mp hx with hx | hx
        · exact hacc x hx
        · rw [List.mem_singleton] at hx; subst hx; exact k4)
      refine ⟨r, e', es, t', m1, m2, by omega, m4, m5, m6, fun h => ?_⟩
      obtain ⟨q1, q2, es', q3, q4⟩ := m7 h
      obtain ⟨q5, q6⟩ := k5 q1
      obtain ⟨_, q7⟩ := h6 q5
      refine ⟨rfl, q2, (v, t) :: es', by rw [q3, List.append_assoc]; rfl, ?_⟩
      rw [q7, q6, q4, encEnts, List.append_assoc, List.append_assoc]
    · rw [beq_no he, cond_false]
      obtain ⟨r, e', t, h1, h2, h3, h4, h5⟩ := bytes_tot (e := e) hb hl
      rw [h1, Option.bind_some]
      exact ⟨r, e', acc, t, rfl, h2, h3, by omega, h4, hacc, fun h => absurd (h5 h).1 he⟩
theorem msg_tot {b : List Int} {e : Int} (x2 x3 : Int) (hb : Bytes b) (hl : b.length ≤ 140737488351232) :
    ∃ r e' m, reader_msg b e x2 x3 = some (r, e', m) ∧ Bytes r ∧ r.length ≤ b.length ∧ BM m ∧ m.2.2.2.2.2.2.2.2.2.1.length ≤ 8 ∧ (e' = 0 → e = 0 ∧ b = encM m ++ r) := by
  rw [reader_msg_eq]
  obtain ⟨r0, e0, v0, a1, a2, a3, a4, a5, a6⟩ := number_tot (e := e) (n := 7) hb hl (by omega) (by omega)
  rw [a1, Option.bind_some]; dsimp only
  obtain ⟨r1, e1, v1, b1, b2, b3, b4, b5, b6⟩ := number_tot (e := e0) (n := 64) a2 (by omega) (by omega) (by omega)
  rw [b1, Option.bind_some]; dsimp only
  obtain ⟨r2, e2, v2, c1, c2, c3, c4, c5, c6⟩ := number_tot (e := e1) (n := 1099511627776) b2 (by omega) (by omega) (by omega)
  rw [c1, Option.bind_some]; dsimp only
  obtain ⟨r3, e3, v3, d1, d2, d3, d4, d5, d6⟩ := number_tot (e := e2) (n := 1099511627776) c2 (by omega) (by omega) (by omega)
  rw [d1, Option.bind_some]; dsimp only
  obtain ⟨r4, e4, v4, f1, f2, f3, f4, f5, f6⟩ := number_tot (e := e3) (n := 1099511627776) d2 (by omega) (by omega) (by omega)
  rw [f1, Option.bind_some]; dsimp only
  obtain ⟨r5, e5, v5, g1, g2, g3, g4, g5, g6⟩ := number_tot (e := e4) (n := 1099511627776) f2 (by omega) (by omega) (by omega)
  rw [g1, Option.bind_some]; dsimp only
  obtain ⟨r6, e6, v6, i1, i2, i3, i4, i5, i6⟩ := number_tot (e := e5) (n := 1) g2 (by omega) (by omega) (by omega)
  rw [i1, Option.bind_some]; dsimp only
  obtain ⟨r7, e7, v7, j1, j2, j3, j4, j5, j6⟩ := number_tot (e := e6) (n := 8) i2 (by omega) (by omega) (by omega)
  rw [j1, Option.bind_some]; dsimp only
  obtain ⟨r, e', es, t, m1, m2, m3, m4, m5, m6, m7⟩ := msg_tot_l0 v7.toNat (by omega) 0 0 0 0 0 0 0 0 false v0 v1 x2 x3 v2 v3 v4 v5 (v6 == 1) v7.toNat 0 r7 e7 [] (by omega) rfl j2 (by omega) (fun x hx => by cases hx)
  rw [show ((v7.toNat : Nat) : Int) = v7 by omega, show ((0 : Nat) : Int) = 0 from rfl] at m1
  refine ⟨r, e', (v0, v1, x2, x3, v2, v3, v4, v5, (v6 == 1), es, t), m1, m2, by omega, ⟨m5, m6⟩, by dsimp only; omega, fun h => ?_⟩
  obtain ⟨q7, ql, es', qe, qb⟩ := m7 h
  rw [List.nil_append] at qe
  subst qe
  obtain ⟨q6, qj⟩ := j6 q7
  obtain ⟨q5, qi⟩ := i6 q6
  obtain ⟨q4, qg⟩ := g6 q5
  obtain ⟨q3, qf⟩ := f6 q4
  obtain ⟨q2, qd⟩ := d6 q3
  obtain ⟨q1, qc⟩ := c6 q2
  obtain ⟨q0, qbb⟩ := b6 q1
  obtain ⟨qz, qa⟩ := a6 q0
  refine ⟨qz, ?_⟩
  have hb6 : b2i (v6 == 1) = v6 := by
    have : v6 = 0 ∨ v6 = 1 := by omega
    rcases this with rfl | rfl <;> rfl
  have hl7 : (es.length : Int) = v7 := by omega
  rw [encM, headM]
  dsimp only
  rw [hb6, hl7]
  simp only [encs, List.append_assoc, List.append_nil]
  rw [qa, qbb, qc, qd, qf, qg, qi, qj, qb]
theorem msg_back_l0 (n : Nat) (hn : n ≤ 8) (z1 z2 z3 z4 z5 z6 z7 z8 : Int) (z9 : Bool) (p1 p2 p3 p4 p5 p6 p7 p8 : Int) (p9 : Bool) (t r : List Int) (ht : Bytes t) (htl : t.length ≤ 65536) (hr : Bytes r) (hrl : r.length ≤ 140737400000000) :
    ∀ (es : List Ent) (i : Nat) (acc : List Ent), i + es.length = n → acc.length = i → es.all entOk = true → (∀ x ∈ es, Bytes x.2) →
      reader_msg_l0 (n : Int) (i : Int) (encEnts es ++ (encB t ++ r)) 0 z1 z2 z3 z4 z5 z6 z7 z8 z9 p1 p2 p3 p4 p5 p6 p7 p8 p9 acc = some (r, 0, p1, p2, p3, p4, p5, p6, p7, p8, p9, acc ++ es, t) := by
  intro es
  induction es with
  | nil =>
    intro i acc hi ha _ _
    rw [reader_msg_l0_eq, Bool.cond_decide, if_neg (by simp at hi; omega), encEnts, List.nil_append, bytes_back hr (by omega) ht htl, Option.bind_some, List.append_nil]
  | cons x es ih =>
    intro i acc hi ha hok hby
    rw [List.all_cons, Bool.and_eq_true, entOk_iff] at hok
    obtain ⟨⟨o1, o2, o3⟩, o4⟩ := hok
    have hesb : Bytes (encEnts es) := encEnts_bytes o4 fun y hy => hby y (by simp [hy])
    have hesl := encEnts_len o4
    have htb := encB_bytes ht (by omega)
    have htl2 := encB_len t
    have hxb := hby x (by simp)
    have hxl := encB_len x.2
    rw [List.length_cons] at hi
    have w1 : Bytes (encEnts es ++ (encB t ++ r)) := hesb.app (htb.app hr)
    have w2 : (encEnts es ++ (encB t ++ r)).length ≤ 140737401000000 := by simp only [List.length_append]; omega
    rw [reader_msg_l0_eq, Bool.cond_decide, if_pos (by omega), beq_yes rfl, cond_true, encEnts, List.append_assoc, List.append_assoc,
      number_back ((encB_bytes hxb (by omega)).app w1) (by simp only [List.length_append] at w2 ⊢; omega) (by omega) o2 (by omega), Option.bind_some]
    dsimp only
    rw [bytes_back w1 (by omega) hxb o3, Option.bind_some]
    dsimp only
    rw [Bool.cond_decide, if_pos (show _ ≤ room by simp only [ilen_eq, List.length_cons, List.length_nil, room_eq]; omega), wrap_succ (by omega), ih (i + 1) _ (by omega) (by simp; omega) o4 (fun y hy => hby y (by simp [hy])), List.append_assoc]
    rfl
theorem msg_back {m : Mg} {r : List Int} (hm : msgOk m = true) (hb : BM m) (hr : Bytes r) (hrl : r.length ≤ 140737300000000) :
    reader_msg (encM m ++ r) 0 m.2.2.1 m.2.2.2.1 = some (r, 0, m) := by
  obtain ⟨k1, k2, k3, k4, k5, k6, k7, k8, k9⟩ := (msgOk_iff m).mp hm
  have hk := b2i_small m.2.2.2.2.2.2.2.2.1
  have hesb := encEnts_bytes k9 hb.2
  have hesl := encEnts_len k9
  have htb := encB_bytes hb.1 (by omega)
  have htl := encB_len m.2.2.2.2.2.2.2.2.2.2
  have W : Bytes (encEnts m.2.2.2.2.2.2.2.2.2.1 ++ (encB m.2.2.2.2.2.2.2.2.2.2 ++ r)) := hesb.app (htb.app hr)
  have WL : (encEnts m.2.2.2.2.2.2.2.2.2.1 ++ (encB m.2.2.2.2.2.2.2.2.2.2 ++ r)).length ≤ 140737310000000 := by simp only [List.length_append]; omega
  have ap : ∀ (n : Nat) (c : Nat) (b : List Int), n < 18446744073709551616 → Bytes b ∧ b.length ≤ 140737310000000 + c → Bytes (enc n ++ b) ∧ (enc n ++ b).length ≤ 140737310000000 + (c + 10) := fun n c b hn h => by
    have := enc_length n
    exact ⟨(enc_bytes hn).app h.1, by rw [List.length_append]; omega⟩
  have W7 := ap m.2.2.2.2.2.2.2.2.2.1.length 0 _ (by omega) ⟨W, by omega⟩
  have W6 := ap (b2i m.2.2.2.2.2.2.2.2.1).toNat 10 _ (by omega) W7
  have W5 := ap m.2.2.2.2.2.2.2.1.toNat 20 _ (by omega) W6
  have W4 := ap m.2.2.2.2.2.2.1.toNat 30 _ (by omega) W5
  have W3 := ap m.2.2.2.2.2.1.toNat 40 _ (by omega) W4
  have W2 := ap m.2.2.2.2.1.toNat 50 _ (by omega) W3
  have W1 := ap m.2.1.toNat 60 _ (by omega) W2
  have e : encM m ++ r = enc m.1.toNat ++ (enc m.2.1.toNat ++ (enc m.2.2.2.2.1.toNat ++ (enc m.2.2.2.2.2.1.toNat ++ (enc m.2.2.2.2.2.2.1.toNat ++ (enc m.2.2.2.2.2.2.2.1.toNat ++ (enc (b2i m.2.2.2.2.2.2.2.2.1).toNat ++ (enc m.2.2.2.2.2.2.2.2.2.1.length ++
      (encEnts m.2.2.2.2.2.2.2.2.2.1 ++ (encB m.2.2.2.2.2.2.2.2.2.2 ++ r))))))))) := by
    rw [encM, headM]; simp only [encs, List.append_assoc, List.append_nil, Int.toNat_natCast]
  have n7 := number_back (n := 8) (v := (m.2.2.2.2.2.2.2.2.2.1.length : Int)) W (by omega) (by omega) (by omega) (by omega)
  rw [Int.toNat_natCast] at n7
  have b9 : (b2i m.2.2.2.2.2.2.2.2.1 == 1) = m.2.2.2.2.2.2.2.2.1 := by cases m.2.2.2.2.2.2.2.2.1 <;> rfl
  rw [e, reader_msg_eq, number_back W1.1 (by omega) (by omega) (by omega) (by omega), Option.bind_some]
  dsimp only
  rw [number_back W2.1 (by omega) (by omega) (by omega) (by omega), Option.bind_some]
  dsimp only
  rw [number_back W3.1 (by omega) (by omega) (by omega) (by omega), Option.bind_some]
  dsimp only
  rw [number_back W4.1 (by omega) (by omega) (by omega) (by omega), Option.bind_some]
  dsimp only
  rw [number_back W5.1 (by omega) (by omega) (by omega) (by omega), Option.bind_some]
  dsimp only
  rw [number_back W6.1 (by omega) (by omega) (by omega) (by omega), Option.bind_some]
  dsimp only
  rw [number_back W7.1 (by omega) (by omega) (by omega) (by omega), Option.bind_some]
  dsimp only
  rw [n7, Option.bind_some, b9]
  exact msg_back_l0 m.2.2.2.2.2.2.2.2.2.1.length (by omega) 0 0 0 0 0 0 0 0 false _ _ _ _ _ _ _ _ _ _ r hb.1 (by omega) hr (by omega) m.2.2.2.2.2.2.2.2.2.1 0 [] (by omega) rfl k9 hb.2
end Go.Proofs.Ytpoblfpjjlplbaa.PE
