/- Packets that are read. -/
import Derived.Test.YtpoblfpjjlplbaaP17f
namespace Go.Proofs.Ytpoblfpjjlplbaa.PE
set_option linter.unusedVariables false
open Go Go.RowKit Go.Proofs.Ytpoblfpjjlplbaa.Pack
theorem r16_spec (r : List Int) (e a b : Int) (ms : List Mg) (hs : Short ms) :
    packet_Read_r16 0 0 r e a b ms = some (if e = 0 then (if chk a b ms = 0 then (a, b, ms, 0) else (0, 0, [], chk a b ms)) else (0, 0, [], e)) := by
  rw [packet_Read_r16_eq]
  by_cases he : e = 0
  · subst he
    rw [beq_yes rfl, cond_true, if_pos rfl, check_spec a b ms hs, Option.bind_some, fail_zero, Option.bind_some]
    dsimp only
    by_cases hc : chk a b ms = 0
    · rw [bne_no hc, cond_false, if_pos hc]
    · rw [bne_yes hc, cond_true, if_neg hc]
  · rw [beq_no he, cond_false, bne_yes he, cond_true, if_neg he]
theorem read_tot_l0 (n : Nat) (hn : n ≤ 256) (y2 y3 a0 b0 : Int) : ∀ (d i : Nat) (b : List Int) (e : Int) (acc : List Mg), i + d = n → acc.length = i → Bytes b → b.length ≤ 140737488351232 → (∀ m ∈ acc, BM m) → Short acc →
    ∃ r e' ms, packet_Read_l0 (n : Int) (i : Int) y2 y3 b e a0 b0 acc = packet_Read_r16 y2 y3 r e' a0 b0 ms ∧ (∀ m ∈ ms, BM m) ∧ Short ms ∧ (e' = 0 → e = 0 ∧ r = [] ∧ ms.length = n ∧ ∃ ms', ms = acc ++ ms' ∧ b = encMs ms') := by
  intro d
  induction d with
  | zero =>
    intro i b e acc hi ha hb hl hbm hs
    rw [packet_Read_l0_eq, Bool.cond_decide, if_neg (by omega)]
    by_cases he : e = 0
    · subst he
      rw [beq_yes rfl, cond_true, Bool.cond_decide, ilen_eq]
      by_cases hbl : (b.length : Int) > 0
      · rw [if_pos hbl, fail_zero, Option.bind_some]
        exact ⟨b, 3, acc, rfl, hbm, hs, fun h => by cases h⟩
      · rw [if_neg hbl]
        have hbn : b = [] := List.length_eq_zero_iff.mp (by omega)
        exact ⟨b, 0, acc, rfl, hbm, hs, fun _ => ⟨rfl, hbn, by omega, [], (List.append_nil _).symm, hbn⟩⟩
    · rw [beq_no he, cond_false]
      exact ⟨b, e, acc, rfl, hbm, hs, fun h => absurd h he⟩
  | succ d ih =>
    intro i b e acc hi ha hb hl hbm hs
    rw [packet_Read_l0_eq, Bool.cond_decide, if_pos (by omega)]
    by_cases he : e = 0
    · subst he
      rw [beq_yes rfl, cond_true]
      obtain ⟨r1, e1, m, h1, h2, h3, h4, h5, h6⟩ := msg_tot (e := 0) a0 b0 hb hl
      rw [h1, Option.bind_some]
      dsimp only
      rw [Bool.cond_decide, if_pos (show _ ≤ room by simp only [ilen_eq, List.length_cons, List.length_nil, room_eq]; omega), wrap_succ (by omega)]
      obtain ⟨r, e', ms, m1, m2, m3, m4⟩ := ih (i + 1) r1 e1 (acc ++ [m]) (by omega) (by simp; omega) h2 (by omega) (fun x hx => by
        rcases List.mem_append.mp hx with hx | hx
        · exact hbm x hx
        · rw [List.mem_singleton] at hx; subst hx; exact h4) (fun x hx => by
        rcases List.mem_append.mp hx with hx | hx
        · exact hs x hx
        · rw [List.mem_singleton] at hx; subst hx; omega)
      refine ⟨r, e', ms, m1, m2, m3, fun h => ?_⟩
      obtain ⟨q1, q2, q3, ms', q4, q5⟩ := m4 h
      obtain ⟨_, q6⟩ := h6 q1
      exact ⟨rfl, q2, q3, m :: ms', by rw [q4, List.append_assoc]; rfl, by rw [q6, q5, encMs]⟩
    · rw [beq_no he, cond_false, cond_false]
      exact ⟨b, e, acc, rfl, hbm, hs, fun h => absurd h he⟩
theorem read_open {c t : List Int} (hc : Bytes c) (ht : t.length = 4) (hl : c.length ≤ 140737488351232) :
    packet_Read (c ++ t) = bif !((strOf t).toList == (strOf (le4 (sumv c))).toList) then some (0, 0, [], 4) else
      (reader_number c 0 7).bind fun val18 => (reader_number val18.1 val18.2.1 7).bind fun val20 => (reader_number val20.1 val20.2.1 256).bind fun val22 =>
        packet_Read_l0 val22.2.2 0 0 0 val22.1 val22.2.1 val18.2.2 val20.2.2 [] := by
  have e1 : IntKind.i64.wrap (((c ++ t).length : Int) - 4) = (c.length : Int) := by rw [List.length_append, wrap_i64 (by omega) (by omega)]; omega
  rw [packet_Read_eq, ilen_eq, e1, List.length_append, Int.toNat_natCast, Int.toNat_natCast, show Int.toNat 0 = 0 from rfl, List.drop_zero, List.take_left, ← List.length_append, List.take_length, List.drop_left, List.length_append, sum_spec hc hl, Option.bind_some, le4_go (sumv_lt hc), bytes_Equal_eq, Option.bind_some,
    Bool.cond_decide, if_neg (by omega), Bool.cond_decide, if_pos (by omega), Bool.cond_decide, if_pos (by omega), Bool.cond_decide, if_pos (by omega), Bool.cond_decide, if_pos (by omega), Bool.cond_decide, if_pos (by omega)]
theorem read_bad {c t : List Int} (hc : Bytes c) (htb : Bytes t) (ht : t.length = 4) (hl : c.length ≤ 140737488351232) (hn : t ≠ le4 (sumv c)) : packet_Read (c ++ t) = some (0, 0, [], 4) := by
  rw [read_open hc ht hl]
  cases e : ((strOf t).toList == (strOf (le4 (sumv c))).toList) with
  | true => exact absurd (beq_str htb (le4_bytes _) e) hn
  | false => rfl
theorem read_back {a b : Int} {l : List Mg} (h : chk a b l = 0) (hb : ∀ m ∈ l, BM m) : packet_Read (sealed (body a b l)) = some (a, b, l, 0) := by
  obtain ⟨h1, h2, h3, h4, h5⟩ := chk_ok h
  have hbb := body_bytes h hb
  have hbl := body_len h
  have hok : ∀ m ∈ l, msgOk m = true := fun m hm => (h5 m hm).2.2
  rw [sealed, read_open hbb rfl (by omega), beq_self_eq_true, Bool.not_true, cond_false]
  have w0 : Bytes (encMs l) := encMs_bytes hok hb
  have l0 := encMs_len hok
  have a1 := enc_length (l.length)
  have a2 := enc_length b.toNat
  have w1 : Bytes (enc l.length ++ encMs l) := (enc_bytes (by omega)).app w0
  have w2 : Bytes (enc b.toNat ++ (enc l.length ++ encMs l)) := (enc_bytes (by omega)).app w1
  have e : body a b l = enc a.toNat ++ (enc b.toNat ++ (enc l.length ++ encMs l)) := by
    rw [body]; simp only [encs, List.append_assoc, List.nil_append, Int.toNat_natCast]
  have n3 := number_back (n := 256) (v := (l.length : Int)) w0 (by omega) (by omega) (by omega) (by omega)
  rw [Int.toNat_natCast] at n3
  rw [e, number_back w2 (by simp only [List.length_append]; omega) (by omega) h1.2 (by omega), Option.bind_some]
  dsimp only
  rw [number_back w1 (by simp only [List.length_append]; omega) (by omega) h2.2 (by omega), Option.bind_some]
  dsimp only
  rw [n3, Option.bind_some]
  dsimp only
  have main : ∀ (r : List Mg) (i : Nat) (acc : List Mg), acc ++ r = l → acc.length = i → packet_Read_l0 (l.length : Int) (i : Int) 0 0 (encMs r) 0 a b acc = some (a, b, l, 0) := by
    intro r
    induction r with
    | nil =>
      intro i acc hr hi
      rw [List.append_nil] at hr
      rw [packet_Read_l0_eq, Bool.cond_decide, if_neg (by rw [← hr]; omega), beq_yes rfl, cond_true, encMs, ilen_eq, Bool.cond_decide, if_neg (by simp), r16_spec _ _ _ _ _ (hr ▸ fun m hm => by have := (msgOk_iff m).mp (hok m hm); omega), hr, if_pos rfl, if_pos h]
    | cons m r ih =>
      intro i acc hr hi
      have hm : m ∈ l := by rw [← hr]; simp
      have hlen : i + (r.length + 1) = l.length := by rw [← hr, List.length_append, List.length_cons]; omega
      have hrm : ∀ x ∈ r, x ∈ l := fun x hx => by rw [← hr]; simp [hx]
      have hm5 := h5 m hm
      have q := msg_back hm5.2.2 (hb m hm) (encMs_bytes (l := r) (fun x hx => hok x (hrm x hx)) (fun x hx => hb x (hrm x hx))) (by have := encMs_len (l := r) (fun x hx => hok x (hrm x hx)); omega)
      rw [hm5.1, hm5.2.1] at q
      rw [packet_Read_l0_eq, Bool.cond_decide, if_pos (by omega), beq_yes rfl, cond_true, encMs, q, Option.bind_some]
      dsimp only
      rw [Bool.cond_decide, if_pos (show _ ≤ room by simp only [ilen_eq, List.length_cons, List.length_nil, room_eq]; omega), wrap_succ (by omega)]
      exact ih (i + 1) (acc ++ [m]) (by rw [List.append_assoc]; exact hr) (by simp; omega)
  exact main l 0 [] rfl rfl
theorem read_short {x : List Int} (h : x.length < 4) : packet_Read x = some (0, 0, [], 5) := by
  rw [packet_Read_eq, ilen_eq, Bool.cond_decide, if_pos (by omega)]
theorem read_tot {x : List Int} (hb : Bytes x) (hl : x.length ≤ 140737488351232) :
    ∃ a b l e, packet_Read x = some (a, b, l, e) ∧ (e ≠ 0 → a = 0 ∧ b = 0 ∧ l = []) ∧ (e = 0 → chk a b l = 0 ∧ (∀ m ∈ l, BM m) ∧ x = sealed (body a b l)) := by
  by_cases h4 : x.length < 4
  · exact ⟨0, 0, [], 5, read_short h4, fun _ => ⟨rfl, rfl, rfl⟩, fun h => by cases h⟩
  · have hx : x = x.take (x.length - 4) ++ x.drop (x.length - 4) := (List.take_append_drop _ _).symm
    have hc : Bytes (x.take (x.length - 4)) := hb.take _
    have ht : Bytes (x.drop (x.length - 4)) := hb.drop _
    have htl : (x.drop (x.length - 4)).length = 4 := by rw [List.length_drop]; omega
    have hcl : (x.take (x.length - 4)).length ≤ 140737488351232 := by rw [List.length_take]; omega
    generalize x.take (x.length - 4) = c at hx hc hcl
    generalize x.drop (x.length - 4) = t at hx ht htl
    by_cases hs : t = le4 (sumv c)
    · have ro := read_open hc htl hcl
      rw [← hx, hs, beq_self_eq_true, Bool.not_true, cond_false] at ro
      rw [ro]
      obtain ⟨r0, e0, v0, a1, a2, a3, a4, a5, a6⟩ := number_tot (e := 0) (n := 7) hc hcl (by omega) (by omega)
      rw [a1, Option.bind_some]; dsimp only
      obtain ⟨r1, e1, v1, b1, b2, b3, b4, b5, b6⟩ := number_tot (e := e0) (n := 7) a2 (by omega) (by omega) (by omega)
      rw [b1, Option.bind_some]; dsimp only
      obtain ⟨r2, e2, v2, c1, c2, c3, c4, c5, c6⟩ := number_tot (e := e1) (n := 256) b2 (by omega) (by omega) (by omega)
      rw [c1, Option.bind_some]; dsimp only
      obtain ⟨r, e', ms, m1, m2, m3, m4⟩ := read_tot_l0 v2.toNat (by omega) 0 0 v0 v1 v2.toNat 0 r2 e2 [] (by omega) rfl c2 (by omega) (fun x hx => by cases hx) (fun x hx => by cases hx)
      rw [show ((v2.toNat : Nat) : Int) = v2 by omega, show ((0 : Nat) : Int) = 0 from rfl] at m1
      rw [m1, r16_spec _ _ _ _ _ m3]
      by_cases he : e' = 0
      · rw [if_pos he]
        by_cases hk : chk v0 v1 ms = 0
        · rw [if_pos hk]
          refine ⟨v0, v1, ms, 0, rfl, fun h => absurd rfl h, fun _ => ⟨hk, m2, ?_⟩⟩
          obtain ⟨q2, q3, q4, ms', q5, q6⟩ := m4 he
          rw [List.nil_append] at q5
          subst q5
          obtain ⟨q1, q7⟩ := c6 q2
          obtain ⟨q0, q8⟩ := b6 q1
          obtain ⟨_, q9⟩ := a6 q0
          have hcb : c = body v0 v1 ms := by
            rw [q9, q8, q7, q6, body, show ((ms.length : Nat) : Int) = v2 by omega]
            simp only [encs, List.append_assoc, List.nil_append]
          rw [hx, hs, hcb]; rfl
        · rw [if_neg hk]
          exact ⟨0, 0, [], _, rfl, fun _ => ⟨rfl, rfl, rfl⟩, fun h => absurd h hk⟩
      · rw [if_neg he]
        exact ⟨0, 0, [], _, rfl, fun _ => ⟨rfl, rfl, rfl⟩, fun h => absurd h he⟩
    · have := read_bad hc ht htl hcl hs
      rw [← hx] at this
      exact ⟨0, 0, [], 4, this, fun _ => ⟨rfl, rfl, rfl⟩, fun h => by cases h⟩
end Go.Proofs.Ytpoblfpjjlplbaa.PE
