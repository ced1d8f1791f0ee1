/- The chapter's example; the laws BoxChecks, BoxDoes, BoxStays. -/
import Derived.Test.YtdmfjpcobbkppaaP23f
import Derived.KernelRfl
namespace Go.Proofs.Ytdmfjpcobbkppaa.PE
set_option linter.unusedVariables false
open Classical
theorem put_at : box_Put [] [0, 0, 1] [(2, 1, [7])] [0, 1, 0] = some [3, 0, 0, 0, 1, 1, 0, 1, 2, 1, 1, 7] := (box_Put_raw _ _ _ _).trans (by kernel_rfl)
theorem read_at' : box_Read [3, 0, 0, 0, 1, 1, 0, 1, 2, 1, 1, 7, 9] = (box_CloneB [7]).bind fun v => bif decide (ilen v > 65536) then some ([], [], [], [], 1) else some ([0, 0, 1], [(2, 1, v)], [0, 1, 0], [9], 0) := (box_Read_raw _).trans (by kernel_rfl)
theorem read_at : box_Read [3, 0, 0, 0, 1, 1, 0, 1, 2, 1, 1, 7, 9] = some ([0, 0, 1], [(2, 1, [7])], [0, 1, 0], [9], 0) := by
  rw [read_at', cloneB (by decide)]
  simp only [Option.bind_some, ilen_eq]
  rw [decide_eq_false (by decide)]; rfl
theorem okN0 : okN 0 := ⟨by decide, by decide⟩
theorem okN1 : okN 1 := ⟨by decide, by decide⟩
theorem v1 : V [0, 0, 1] [(2, 1, [7])] [0, 1, 0] :=
  ⟨by decide, by decide, rfl, by intro x hx; simp at hx; rcases hx with rfl | rfl; exact okN0; exact okN1, by intro x hx; simp at hx; rcases hx with rfl | rfl | rfl; exact okN0; exact okN1; exact okN0, by decide,
    ⟨⟨by decide, by decide, by decide, by decide⟩, trivial, (rfl : (1 : Int) = sAt [0, 0, 1] 2)⟩⟩
theorem works23 : law23_works = some true := by
  have sm0 : Sm [0, 0, 0] [] [0, 0, 0] := ⟨by decide, by decide, by decide, fun _ h => by cases h⟩
  have o0 : ∀ x ∈ [(0 : Int), 0, 0], okN x := by intro x hx; simp at hx; subst hx; exact okN0
  have sm1 : Sm [0, 0, 1] [(2, 1, [7])] [0, 0, 0] := ⟨by decide, by decide, by decide, fun e h => by rw [List.mem_singleton.1 h]; decide⟩
  have sm2 : Sm [0, 0, 1] [(2, 1, [7])] [0, 1, 0] := v1.sm
  have e1 : newS 3 = ([0, 0, 0], [], [0, 0, 0], 0) := by decide
  have e2 : sendS [0, 0, 0] [] [0, 0, 0] 2 [7] = ([0, 0, 1], [(2, 1, [7])], [0, 0, 0], 1, 0) := by decide
  have e3 : takeS [0, 0, 1] [(2, 1, [7])] [0, 0, 0] 1 1 = ([0, 0, 1], [(2, 1, [7])], [0, 1, 0], true, 0) := by decide
  have e4 : takeS [0, 0, 1] [(2, 1, [7])] [0, 1, 0] 1 1 = ([0, 0, 1], [(2, 1, [7])], [0, 1, 0], false, 0) := by decide
  have e5 : takeS [0, 0, 1] [(2, 1, [7])] [0, 1, 0] 1 3 = ([], [], [], false, 11) := by decide
  have e6 : ackS [0, 0, 1] [(2, 1, [7])] [0, 1, 0] 2 1 = ([0, 0, 1], [], [0, 1, 0], 0) := by decide
  have e7 : newS 65 = ([], [], [], 2) := by decide
  have e8 : pend 2 5 [] [(2, 1, [7])] = [(2, 1, [7])] := by decide
  rw [law23_works_eq, new_spec, e1]
  simp -implicitDefEqProofs only [Option.bind_some]
  rw [send_spec sm0 o0 (by decide) 2 (by decide), e2]
  simp -implicitDefEqProofs only [Option.bind_some]
  rw [take_spec sm1 o0, e3]
  simp -implicitDefEqProofs only [Option.bind_some]
  rw [take_spec sm2 v1.oN, take_spec sm2 v1.oN, ack_spec sm2, e4, e5, e6]
  simp -implicitDefEqProofs only [Option.bind_some]
  rw [put_at]
  simp -implicitDefEqProofs only [Option.bind_some, ilen_eq, List.length_cons, List.length_nil]
  rw [room_dec (by decide), cond_true, show [3, 0, 0, 0, 1, 1, 0, 1, 2, 1, 1, 7] ++ [9] = [3, 0, 0, 0, 1, 1, 0, 1, 2, 1, 1, (7 : Int), 9] from rfl, read_at, new_spec, e7]
  simp -implicitDefEqProofs only [Option.bind_some]
  rw [pend_spec sm2, e8, same_spec sm2, refSame_self sm2, check_v v1 (fun o h => by rw [List.mem_singleton.1 h]; exact ⟨by decide, by decide⟩), copy_spec sm2]
  simp -implicitDefEqProofs only [Option.bind_some]
  rw [same_spec sm2, refSame_self sm2, box_Room_eq]
  rfl
theorem checks_law {S N S' N' : List Int} {O O' : List TO} {n : Int} (hb : Big S O N) (hr : ∀ o ∈ O, R64 o.2.1) (hb' : Big S' O' N') : law23_BoxChecks S O N S' O' N' n = some true := by
  obtain ⟨b1, h1, k1⟩ := lightB_spec hb
  obtain ⟨b2, h2, k2⟩ := lightB_spec hb'
  rw [law23_BoxChecks_eq, works23, h1, h2]
  simp only [Option.bind_some]
  cases b1 with
  | false => rfl
  | true =>
    cases b2 with
    | false => rfl
    | true =>
      have hs := k1 rfl
      have hn : Sm (newS n).1 (newS n).2.1 (newS n).2.2.1 := by
        unfold newS
        split
        · exact ⟨by decide, by decide, by decide, fun _ h => by cases h⟩
        · exact ⟨by simp only [List.length_replicate]; omega, by simp only [List.length_replicate]; omega, by simp only [List.length_nil]; omega, fun _ h => by cases h⟩
      rw [new_spec, refNew_spec, same_spec hs, check_spec hb hr, refCheck_spec, copy_spec hs, refSame_spec (S := S) (S' := S') hb.1 hb.2.1 hb.2.2.1]
      simp only [Option.bind_some, Bool.not_true, cond_false]
      rw [refSame_self hn, refSame_self hs, beq_yes rfl, beq_yes rfl]
      simp only [Option.bind_some, cond_true]
      unfold checkS
      split
      · rfl
      · split
        · rfl
        · unfold res
          simp only [Option.bind_some]
          rw [beq_yes rfl]
          rfl
theorem sm_of {x : List Int × List TO × List Int} (h : x = ([], [], []) ∨ ∃ S O N, x = (S, O, N) ∧ Sm S O N) : Sm x.1 x.2.1 x.2.2 := by
  rcases h with rfl | ⟨S, O, N, rfl, h⟩
  · exact ⟨by decide, by decide, by decide, fun _ h => by cases h⟩
  · exact h
theorem small_nil : Sm [] [] [] := ⟨by decide, by decide, by decide, fun _ h => by cases h⟩
theorem send_sm {S N : List Int} {O : List TO} (h : V S O N) {t : Int} {d : List Int} : Sm (sendS S O N t d).1 (sendS S O N t d).2.1 (sendS S O N t d).2.2.1 := by
  unfold sendS
  split
  · exact small_nil
  · rename_i h1
    split
    · exact small_nil
    · rename_i h2
      split
      · exact small_nil
      · exact (v_send h (by omega) (by omega) (by omega) (by omega) (by omega)).sm
theorem take_sm {S N : List Int} {O : List TO} (h : V S O N) {f q : Int} : Sm (takeS S O N f q).1 (takeS S O N f q).2.1 (takeS S O N f q).2.2.1 := by
  unfold takeS
  split
  · exact small_nil
  · rename_i h1
    split
    · exact small_nil
    · rename_i h2
      split
      · exact small_nil
      · split
        · exact h.sm
        · exact (v_take h (by omega) ⟨by omega, by omega⟩).sm
theorem ack_sm {S N : List Int} {O : List TO} (h : V S O N) (hr : ∀ o ∈ O, R64 o.2.1) {t q : Int} : Sm (ackS S O N t q).1 (ackS S O N t q).2.1 (ackS S O N t q).2.2.1 := by
  unfold ackS
  split
  · exact small_nil
  · split
    · exact small_nil
    · exact (v_ack h hr (by omega)).sm
theorem does_law {S N d : List Int} {O : List TO} {t q m : Int} (hb : Big S O N) (hr : ∀ o ∈ O, R64 o.2.1) (hd : d.length ≤ 140737488351232) : law23_BoxDoes S O N t q d m = some true := by
  obtain ⟨b1, h1, k1⟩ := may_spec hb
  rw [law23_BoxDoes_eq, works23, h1]
  simp only [Option.bind_some]
  cases b1 with
  | false => rfl
  | true =>
    have hv := k1 rfl
    have hs := hv.sm
    rw [send_spec hs hv.oS hv.o t hd, refSend_spec hv, take_spec hs hv.oN, refTake_spec hs hv.oN, ack_spec hs, refAck_spec hs, pend_spec hs, refPend_spec hs, box_Room_eq]
    simp only [Option.bind_some, Bool.not_true, cond_false]
    rw [refSame_self (send_sm hv), refSame_self (take_sm hv), refSame_self (ack_sm hv hr), refOuts_spec (by have := pend_len t m O []; have := hv.o; simp only [List.length_nil] at *; omega), eqO_self]
    simp only [Option.bind_some, Bool.not_true, cond_false, cond_true, ilen_eq]
    simp only [bne_self_eq_false, beq_self_eq_true, Bool.not_true, cond_false, cond_true]
    cases decide ((d.length : Int) > 400) <;> rfl
theorem stays_law {S N d : List Int} {O : List TO} {t q : Int} (hb : Big S O N) (hr : ∀ o ∈ O, R64 o.2.1) (hd : d.length ≤ 140737488351232) : law23_BoxStays S O N t q d = some true := by
  obtain ⟨b1, h1, k1⟩ := may_spec hb
  rw [law23_BoxStays_eq, works23, h1]
  simp only [Option.bind_some]
  cases b1 with
  | false => rfl
  | true =>
    have hv := k1 rfl
    have hs := hv.sm
    rw [send_spec hs hv.oS hv.o t hd, take_spec hs hv.oN, ack_spec hs]
    simp only [Option.bind_some, Bool.not_true, cond_false]
    have c1 : (sendS S O N t d).2.2.2.2 = 0 → box_Check (sendS S O N t d).1 (sendS S O N t d).2.1 (sendS S O N t d).2.2.1 = some 0 := by
      unfold sendS
      split
      · intro h; simp only at h; omega
      · rename_i g1
        split
        · intro h; simp only at h; omega
        · rename_i g2
          split
          · intro h; simp only at h; omega
          · rename_i g3
            intro _
            obtain ⟨s1, s2⟩ := okAt hv.oS (t := t) (by omega) (by omega)
            refine check_v (v_send hv (by omega) (by omega) (by omega) (by omega) (by omega)) fun o ho => ?_
            rcases ins_mem ho with rfl | ho
            · exact ⟨by simp only; omega, by simp only; omega⟩
            · exact hr o ho
    have c2 : (takeS S O N t q).2.2.2.2 = 0 → box_Check (takeS S O N t q).1 (takeS S O N t q).2.1 (takeS S O N t q).2.2.1 = some 0 := by
      unfold takeS
      split
      · intro h; simp only at h; omega
      · rename_i g1
        split
        · intro h; simp only at h; omega
        · rename_i g2
          split
          · intro h; simp only at h; omega
          · split
            · intro _; exact check_v hv hr
            · intro _; exact check_v (v_take hv (by omega) ⟨by omega, by omega⟩) hr
    have c3 : (ackS S O N t q).2.2.2 = 0 → box_Check (ackS S O N t q).1 (ackS S O N t q).2.1 (ackS S O N t q).2.2.1 = some 0 := by
      unfold ackS
      split
      · intro h; simp only at h; omega
      · split
        · intro h; simp only at h; omega
        · intro _
          exact check_v (v_ack hv hr (by omega)) fun o ho => hr o (List.mem_filter.1 ho).1
    have hack : (bif (ackS S O N t q).2.2.2 != 0 then some true else (box_Check (ackS S O N t q).1 (ackS S O N t q).2.1 (ackS S O N t q).2.2.1).bind fun v => bif v == 0 then some true else some false) = some true := by
      by_cases e : (ackS S O N t q).2.2.2 = 0
      · rw [bne_no e, c3 e]; rfl
      · rw [bne_yes e]; rfl
    have htake : (bif (takeS S O N t q).2.2.2.2 == 0 then (box_Check (takeS S O N t q).1 (takeS S O N t q).2.1 (takeS S O N t q).2.2.1).bind fun v => bif v != 0 then some false else (bif (ackS S O N t q).2.2.2 != 0 then some true else (box_Check (ackS S O N t q).1 (ackS S O N t q).2.1 (ackS S O N t q).2.2.1).bind fun v => bif v == 0 then some true else some false)
        else (bif (ackS S O N t q).2.2.2 != 0 then some true else (box_Check (ackS S O N t q).1 (ackS S O N t q).2.1 (ackS S O N t q).2.2.1).bind fun v => bif v == 0 then some true else some false)) = some true := by
      rw [hack]
      by_cases e : (takeS S O N t q).2.2.2.2 = 0
      · rw [beq_yes e, c2 e]; rfl
      · rw [beq_no e]; rfl
    rw [htake]
    by_cases e : (sendS S O N t d).2.2.2.2 = 0
    · rw [beq_yes e, c1 e]
      cases decide (ilen d > 400) <;> rfl
    · rw [beq_no e]
      cases decide (ilen d > 400) <;> rfl
end Go.Proofs.Ytdmfjpcobbkppaa.PE
