/- Timers: the law of there and back. -/
import Derived.Test.YtocglpmgamhaeaaP20g
namespace Go.Proofs.Ytocglpmgamhaeaa.PE
set_option linter.unusedVariables false
open Go Go.RowKit Go.Proofs.Ytocglpmgamhaeaa.Pack
def RS (b : List Int) : List T × List Int × Int := if (rdu 0 b).2.2 ≠ 0 then ([], [], (rdu 0 b).2.2) else if (readB (rdu 0 b).1 0 (rdu 0 b).2.1).2.2 ≠ 0 then ([], [], (readB (rdu 0 b).1 0 (rdu 0 b).2.1).2.2) else
  bif up none (readB (rdu 0 b).1 0 (rdu 0 b).2.1).1 then ((readB (rdu 0 b).1 0 (rdu 0 b).2.1).1, (readB (rdu 0 b).1 0 (rdu 0 b).2.1).2.1, 0) else ([], [], 1)
theorem read_spec {b : List Int} (hb : Bytes b) (hl : b.length ≤ 100000) : timers_Read b = some (RS b) := by
  have h1 := rdu_rest hb 0
  have l1 := rdu_len 0 b
  have h64 : (rdu 0 b).1 < 18446744073709551616 := rdu_lt 0 b hb (by decide)
  rw [timers_Read_eq, readUint_spec hb (by omega), whole_eq, Option.bind_some, RS]
  dsimp only
  by_cases c : (rdu 0 b).2.2 = 0
  · rw [bne_no c, cond_false, if_neg (show ¬ (rdu 0 b).2.2 ≠ 0 from fun k => k c), tread_l0 _ 0 _ [] h64 h1 (Int.le_refl _) (by decide) (by rw [List.length_nil]; omega)]
    rfl
  · rw [bne_yes c, cond_true, if_pos c]
theorem putB_bytes : ∀ (l : List T) (last : Int), 0 ≤ last → small last l → Bytes (putB last l)
  | [], _, _, _ => Bytes.nil
  | x :: r, last, h0, hs => by
    obtain ⟨s1, s2, s3, s4, s5, s6, s7⟩ := hs
    rw [putB]
    exact ((((enc_bytes (by omega)).app (enc_bytes (by omega))).app (enc_bytes (by omega))).app (putB_bytes r x.1 (by omega) s7))
theorem back_two {b : List Int} (hb : Bytes b) (hl : b.length ≤ 3000) : ((timers_Read b).bind fun v : List T × List Int × Int => bif v.2.2 != 0 then law20_works.bind fun u => some u else (timers_Put [] v.1).bind fun p => bif decide ((ilen p + ilen v.2.1) * 1 ≤ room) then (ref02_Same (p ++ v.2.1) b).bind fun q => bif q then law20_works.bind fun u => some u else some false else none) = some true := by
  rw [read_spec hb (by omega), Option.bind_some, wks]
  have h1 := rdu_rest hb 0
  by_cases c : (rdu 0 b).2.2 = 0
  · by_cases c2 : (readB (rdu 0 b).1 0 (rdu 0 b).2.1).2.2 = 0
    · cases hu : up none (readB (rdu 0 b).1 0 (rdu 0 b).2.1).1 with
      | false =>
        rw [RS, if_neg (fun k => k c), if_neg (fun k => k c2), hu]
        rfl
      | true =>
        obtain ⟨i1, i2, i3⟩ := read_once (rdu 0 b).1 0 (rdu 0 b).2.1 (readB (rdu 0 b).1 0 (rdu 0 b).2.1).1 (readB (rdu 0 b).1 0 (rdu 0 b).2.1).2.1 h1 (Int.le_refl _) (Prod.ext rfl (Prod.ext rfl c2))
        have e0 := rdu_enc_once hb c
        rw [RS, if_neg (fun k => k c), if_neg (fun k => k c2), hu, cond_true]
        dsimp only
        generalize (readB (rdu 0 b).1 0 (rdu 0 b).2.1).1 = x at *
        generalize (readB (rdu 0 b).1 0 (rdu 0 b).2.1).2.1 = t at *
        have hx : x.length ≤ 3000 := by
          have hq : ∀ (x : List T) (last : Int), x.length ≤ (putB last x).length := fun x => by
            induction x with
            | nil => exact fun _ => Nat.le_refl _
            | cons y r ih =>
              intro last
              have := ih y.1
              have := enc_pos (y.1 - last).toNat
              rw [putB, List.length_append, List.length_append, List.length_append, List.length_cons]; omega
          have a1 := hq x 0
          have a2 := congrArg List.length i3
          have a3 := congrArg List.length e0
          rw [List.length_append] at a2 a3
          omega
        have a2 := congrArg List.length i3
        have a3 := congrArg List.length e0
        rw [List.length_append] at a2 a3
        have hall : enc x.length ++ putB 0 x ++ t = b := by rw [List.append_assoc, i3, i1]; exact e0
        have hlen := congrArg List.length hall
        rw [List.length_append] at hlen
        rw [bne_no rfl, cond_false, put_spec (by omega) i2, Option.bind_some, decide_eq_true (show _ ≤ room by simp only [ilen_eq, room_eq]; omega), cond_true, hall, ref02_Same_eq, Option.bind_some, beq_self_eq_true]
        rfl
    · rw [RS, if_neg (fun k => k c), if_pos c2]
      dsimp only
      rw [bne_yes c2]; rfl
  · rw [RS, if_pos c]
    dsimp only
    rw [bne_yes c]; rfl
theorem timersBack_true {l : List T} {b : List Int} (hb : Bytes b) : law20_TimersBack l b = some true := by
  rw [law20_TimersBack_eq, ilen_eq]
  by_cases hl : (b.length : Int) > 3000
  · rw [decide_eq_true hl, cond_true, wks]
  rw [decide_eq_false hl, cond_false]
  have two := back_two hb (by omega)
  obtain ⟨v, h1, h2⟩ := may_spec l
  rw [h1, Option.bind_some]
  cases v with
  | false => rw [cond_false]; exact two
  | true =>
    obtain ⟨hl2, hr⟩ := h2 rfl
    have hs : small 0 l := up_small hr (fun q e => nomatch e) (fun _ => rfl)
    have hB : Bytes (enc l.length ++ putB 0 l ++ b) := ((enc_bytes (by omega)).app (putB_bytes l 0 (Int.le_refl _) hs)).app hb
    have n1 := enc_length l.length
    have n2 := putB_len l 0
    have hRS : RS (enc l.length ++ putB 0 l ++ b) = (l, b, 0) := by
      rw [RS, List.append_assoc, rdu_enc (by omega)]
      dsimp only
      rw [read_back l 0 b (Int.le_refl _) hs]
      dsimp only
      rw [if_neg (by omega), if_neg (by omega), hr]
      rfl
    rw [cond_true, put_spec (by omega) hs, Option.bind_some, decide_eq_true (show _ ≤ room by simp only [ilen_eq, List.length_append, room_eq]; omega), cond_true, read_spec hB (by rw [List.length_append, List.length_append]; omega), hRS, Option.bind_some, bne_no rfl, cond_false, same_self (show l.length ≤ 1000000 by omega), Option.bind_some, Bool.not_true, cond_false,
      ref02_Same_eq, Option.bind_some, beq_self_eq_true, Bool.not_true, cond_false]
    exact two
end Go.Proofs.Ytocglpmgamhaeaa.PE
