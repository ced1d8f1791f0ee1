/- Timers out of bytes. -/
import Derived.Test.YtocglpmgamhaeaaP20f
namespace Go.Proofs.Ytocglpmgamhaeaa.PE
set_option linter.unusedVariables false
open Go Go.RowKit Go.Proofs.Ytocglpmgamhaeaa.Pack
def readB : Nat → Int → List Int → List T × List Int × Int
  | 0, _, b => ([], b, 0)
  | n + 1, last, b =>
    if (rdu 0 b).2.2 ≠ 0 then ([], [], (rdu 0 b).2.2) else if (rdu 0 b).1 > 1099511627776 then ([], [], 6) else
    if (rdu 0 (rdu 0 b).2.1).2.2 ≠ 0 then ([], [], (rdu 0 (rdu 0 b).2.1).2.2) else if (rdu 0 (rdu 0 b).2.1).1 > 1099511627776 then ([], [], 6) else
    if (rdu 0 (rdu 0 (rdu 0 b).2.1).2.1).2.2 ≠ 0 then ([], [], (rdu 0 (rdu 0 (rdu 0 b).2.1).2.1).2.2) else if (rdu 0 (rdu 0 (rdu 0 b).2.1).2.1).1 > 1099511627776 then ([], [], 6) else
    if last + (rdu 0 b).1 > 1099511627776 then ([], [], 6) else
    if (readB n (last + (rdu 0 b).1) (rdu 0 (rdu 0 (rdu 0 b).2.1).2.1).2.1).2.2 ≠ 0 then ([], [], (readB n (last + (rdu 0 b).1) (rdu 0 (rdu 0 (rdu 0 b).2.1).2.1).2.1).2.2) else
    ((last + (rdu 0 b).1, ((rdu 0 (rdu 0 b).2.1).1 : Int), ((rdu 0 (rdu 0 (rdu 0 b).2.1).2.1).1 : Int)) :: (readB n (last + (rdu 0 b).1) (rdu 0 (rdu 0 (rdu 0 b).2.1).2.1).2.1).1, (readB n (last + (rdu 0 b).1) (rdu 0 (rdu 0 (rdu 0 b).2.1).2.1).2.1).2.1, 0)
theorem rdu_eats {b : List Int} (hb : Bytes b) (h : (rdu 0 b).2.2 = 0) : (rdu 0 b).2.1.length < b.length := by
  have := rdu_enc_once hb h
  have h2 := congrArg List.length this
  rw [List.length_append] at h2
  have := enc_pos (rdu 0 b).1
  omega
theorem read_once : ∀ (n : Nat) (last : Int) (b : List Int) (x : List T) (t : List Int), Bytes b → 0 ≤ last → readB n last b = (x, t, 0) → x.length = n ∧ small last x ∧ putB last x ++ t = b
  | 0, last, b, x, t, _, _, h => by
    rw [readB] at h
    cases h
    exact ⟨rfl, trivial, rfl⟩
  | n + 1, last, b, x, t, hb, h0, h => by
    rw [readB] at h
    by_cases c1 : (rdu 0 b).2.2 = 0
    · rw [if_neg (fun k => k c1)] at h
      have hb1 := rdu_rest hb 0
      by_cases d1 : (rdu 0 b).1 > 1099511627776
      · rw [if_pos d1] at h; cases h
      rw [if_neg d1] at h
      by_cases c2 : (rdu 0 (rdu 0 b).2.1).2.2 = 0
      · rw [if_neg (fun k => k c2)] at h
        have hb2 := rdu_rest hb1 0
        by_cases d2 : (rdu 0 (rdu 0 b).2.1).1 > 1099511627776
        · rw [if_pos d2] at h; cases h
        rw [if_neg d2] at h
        by_cases c3 : (rdu 0 (rdu 0 (rdu 0 b).2.1).2.1).2.2 = 0
        · rw [if_neg (fun k => k c3)] at h
          have hb3 := rdu_rest hb2 0
          by_cases d3 : (rdu 0 (rdu 0 (rdu 0 b).2.1).2.1).1 > 1099511627776
          · rw [if_pos d3] at h; cases h
          rw [if_neg d3] at h
          by_cases d4 : last + (rdu 0 b).1 > 1099511627776
          · rw [if_pos d4] at h; cases h
          rw [if_neg d4] at h
          by_cases c4 : (readB n (last + (rdu 0 b).1) (rdu 0 (rdu 0 (rdu 0 b).2.1).2.1).2.1).2.2 = 0
          · rw [if_neg (fun k => k c4)] at h
            obtain ⟨i1, i2, i3⟩ := read_once n (last + (rdu 0 b).1) _ (readB n (last + (rdu 0 b).1) (rdu 0 (rdu 0 (rdu 0 b).2.1).2.1).2.1).1 (readB n (last + (rdu 0 b).1) (rdu 0 (rdu 0 (rdu 0 b).2.1).2.1).2.1).2.1 hb3 (by omega) (by rw [← c4])
            cases h
            refine ⟨by rw [List.length_cons, i1], ⟨by simp only; omega, by simp only; omega, by simp only; omega, by simp only; omega, by simp only; omega, by simp only; omega, i2⟩, ?_⟩
            rw [putB]
            dsimp only
            rw [show (last + ((rdu 0 b).1 : Int) - last).toNat = (rdu 0 b).1 by omega, Int.toNat_natCast, Int.toNat_natCast, List.append_assoc, List.append_assoc, List.append_assoc, i3, rdu_enc_once hb2 c3, rdu_enc_once hb1 c2, rdu_enc_once hb c1]
          · rw [if_pos c4] at h
            exact absurd (congrArg (fun z : List T × List Int × Int => z.2.2) h) c4
        · rw [if_pos c3] at h; exact absurd (congrArg (fun z : List T × List Int × Int => z.2.2) h) c3
      · rw [if_pos c2] at h; exact absurd (congrArg (fun z : List T × List Int × Int => z.2.2) h) c2
    · rw [if_pos c1] at h; exact absurd (congrArg (fun z : List T × List Int × Int => z.2.2) h) c1
theorem read_back : ∀ (l : List T) (last : Int) (t : List Int), 0 ≤ last → small last l → readB l.length last (putB last l ++ t) = (l, t, 0)
  | [], _, _, _, _ => rfl
  | x :: r, last, t, h0, hs => by
    obtain ⟨s1, s2, s3, s4, s5, s6, s7⟩ := hs
    rw [List.length_cons, readB, putB, List.append_assoc, List.append_assoc, List.append_assoc, rdu_enc (by omega)]
    dsimp only
    rw [rdu_enc (by omega)]
    dsimp only
    rw [rdu_enc (by omega)]
    dsimp only
    rw [show last + (((x.1 - last).toNat : Nat) : Int) = x.1 by omega, read_back r x.1 t (by omega) s7]
    dsimp only
    rw [if_neg (by omega), if_neg (by omega), if_neg (by omega), if_neg (by omega), if_neg (by omega), if_neg (by omega), if_neg (by omega), if_neg (by omega), Int.toNat_of_nonneg s3, Int.toNat_of_nonneg s5]
theorem whole_eq (u : Nat × List Int × Int) : whole u = ((u.1 : Int), u.2.1, u.2.2) := rfl
theorem tread_l0 : ∀ (n : Nat) (last : Int) (b : List Int) (acc : List T), n < 18446744073709551616 → Bytes b → 0 ≤ last → last ≤ 1099511627776 → b.length + acc.length ≤ 1000000 → timers_Read_l0 b n last acc =
    some (if (readB n last b).2.2 ≠ 0 then ([], [], (readB n last b).2.2) else bif up none (acc ++ (readB n last b).1) then (acc ++ (readB n last b).1, (readB n last b).2.1, 0) else ([], [], 1))
  | 0, last, b, acc, _, _, _, _, hl => by
    rw [timers_Read_l0_eq, decide_eq_false (show ¬ ((0 : Nat) : Int) > 0 by decide), cond_false, check_spec (by omega), Option.bind_some, readB]
    dsimp only
    rw [if_neg (by omega), List.append_nil]
    cases up none acc <;> rfl
  | n + 1, last, b, acc, hn, hb, h0, hla, hl => by
    rw [timers_Read_l0_eq, decide_eq_true (show ((n + 1 : Nat) : Int) > 0 by omega), cond_true, readUint_spec hb (by omega), whole_eq, Option.bind_some, readB]
    have hb1 := rdu_rest hb 0
    have l1 := rdu_len 0 b
    dsimp only
    by_cases c1 : (rdu 0 b).2.2 = 0
    · have e1 := rdu_eats hb c1
      rw [bne_no c1, cond_false, if_neg (show ¬ (rdu 0 b).2.2 ≠ 0 from fun k => k c1)]
      by_cases d1 : (rdu 0 b).1 > 1099511627776
      · rw [Bool.cond_decide, if_pos (show ((rdu 0 b).1 : Int) > 1099511627776 by omega), if_pos d1]; rfl
      rw [Bool.cond_decide, if_neg (show ¬ ((rdu 0 b).1 : Int) > 1099511627776 by omega), if_neg d1, readUint_spec hb1 (by omega), whole_eq, Option.bind_some]
      have hb2 := rdu_rest hb1 0
      have l2 := rdu_len 0 (rdu 0 b).2.1
      dsimp only
      by_cases c2 : (rdu 0 (rdu 0 b).2.1).2.2 = 0
      · rw [bne_no c2, cond_false, if_neg (show ¬ (rdu 0 (rdu 0 b).2.1).2.2 ≠ 0 from fun k => k c2)]
        by_cases d2 : (rdu 0 (rdu 0 b).2.1).1 > 1099511627776
        · rw [Bool.cond_decide, if_pos (show ((rdu 0 (rdu 0 b).2.1).1 : Int) > 1099511627776 by omega), if_pos d2]; rfl
        rw [Bool.cond_decide, if_neg (show ¬ ((rdu 0 (rdu 0 b).2.1).1 : Int) > 1099511627776 by omega), if_neg d2, readUint_spec hb2 (by omega), whole_eq, Option.bind_some]
        have hb3 := rdu_rest hb2 0
        have l3 := rdu_len 0 (rdu 0 (rdu 0 b).2.1).2.1
        dsimp only
        by_cases c3 : (rdu 0 (rdu 0 (rdu 0 b).2.1).2.1).2.2 = 0
        · rw [bne_no c3, cond_false, if_neg (show ¬ (rdu 0 (rdu 0 (rdu 0 b).2.1).2.1).2.2 ≠ 0 from fun k => k c3)]
          by_cases d3 : (rdu 0 (rdu 0 (rdu 0 b).2.1).2.1).1 > 1099511627776
          · rw [Bool.cond_decide, if_pos (show ((rdu 0 (rdu 0 (rdu 0 b).2.1).2.1).1 : Int) > 1099511627776 by omega), if_pos d3]; rfl
          rw [Bool.cond_decide, if_neg (show ¬ ((rdu 0 (rdu 0 (rdu 0 b).2.1).2.1).1 : Int) > 1099511627776 by omega), if_neg d3, wrap_i64 (x := ((rdu 0 b).1 : Int)) (by omega) (by omega), wrap_i64 (x := last + ((rdu 0 b).1 : Int)) (by omega) (by omega), wrap_i64 (x := ((rdu 0 (rdu 0 b).2.1).1 : Int)) (by omega) (by omega), wrap_i64 (x := ((rdu 0 (rdu 0 (rdu 0 b).2.1).2.1).1 : Int)) (by omega) (by omega)]
          by_cases d4 : last + ((rdu 0 b).1 : Int) > 1099511627776
          · rw [decide_eq_true d4, if_pos d4]; rfl
          rw [decide_eq_false d4, cond_false, if_neg d4, decide_eq_true (show _ ≤ room by simp only [ilen_eq, List.length_cons, List.length_nil, room_eq]; omega), cond_true, wrap_u64 (by omega) (by omega), show ((n + 1 : Nat) : Int) - 1 = (n : Int) by omega,
            tread_l0 n (last + ((rdu 0 b).1 : Int)) (rdu 0 (rdu 0 (rdu 0 b).2.1).2.1).2.1 _ (by omega) hb3 (by omega) (by omega) (by rw [List.length_append, List.length_singleton]; omega)]
          generalize readB n (last + ((rdu 0 b).1 : Int)) (rdu 0 (rdu 0 (rdu 0 b).2.1).2.1).2.1 = R
          by_cases c4 : R.2.2 = 0
          · simp only [ne_eq, c4, not_true_eq_false, if_false]
            rw [List.append_assoc]
            rfl
          · simp only [ne_eq, c4, not_false_eq_true, if_true]
        · rw [bne_yes c3, cond_true, if_pos c3]
          dsimp only
          rw [if_pos c3]
      · rw [bne_yes c2, cond_true, if_pos c2]
        dsimp only
        rw [if_pos c2]
    · rw [bne_yes c1, cond_true, if_pos c1]
      dsimp only
      rw [if_pos c1]
end Go.Proofs.Ytocglpmgamhaeaa.PE
