/- BoxOnce. -/
import Derived.Test.YtdmfjpcobbkppaaP23o
namespace Go.Proofs.Ytdmfjpcobbkppaa.PE
set_option linter.unusedVariables false
open Classical
section
variable {n : Nat} {Sa Na Sb Nb : List Int} {Oa Ob : List TO} {sent got : List (List Int)} {acks : List Int}
theorem Inv2.up (h : Inv2 n Sa Na Sb Nb Oa Ob sent got acks) : Inv2 (n + 1) Sa Na Sb Nb Oa Ob sent got acks :=
  ⟨h.sa, h.na, h.nb, h.sb, h.ob, h.way, h.pre, Nat.le_succ_of_le h.len, Nat.le_succ_of_le h.al, h.oa, h.dat, h.ack⟩
theorem ack_one (h : Inv2 n Sa Na Sb Nb Oa Ob sent got acks) {q : Int} (h0 : 0 ≤ q) (h1 : q ≤ got.length) : ∃ Oa', box_Ack Sa Oa Na 1 q = some (Sa, Oa', Na, 0) ∧ Inv2 n Sa Na Sb Nb Oa' Ob sent got acks := by
  have hp := h.pre.1
  have hat : sAt Sa 1 = sent.length := by rw [h.sa]; rfl
  have hl : Sa.length = 2 := by rw [h.sa]; rfl
  refine ⟨Oa.filter (keep 1 q), ?_, ?_⟩
  · rw [ack_spec h.smA]
    unfold ackS
    rw [if_neg (by rw [hl]; omega), if_neg (by rw [hat]; omega)]
  · obtain ⟨j, hw, hj⟩ := h.way
    obtain ⟨j', k1, k2⟩ := way_ack (q := q) hw
    exact ⟨h.sa, h.na, h.nb, h.sb, h.ob, ⟨j', k1, by rcases k2 with rfl | ⟨k2, _⟩ <;> omega⟩, h.pre, h.len, h.al, by have := List.length_filter_le (keep 1 q) Oa; have := h.oa; omega, h.dat, h.ack⟩
theorem send_one (h : Inv2 n Sa Na Sb Nb Oa Ob sent got acks) (hn : n ≤ 1000) {d : List Int} (hd : d.length ≤ 30) : (∃ S' O' N' m, box_Send Sa Oa Na 1 d = some (S', O', N', m, 14)) ∨ ∃ S' O' N' m, box_Send Sa Oa Na 1 d = some (S', O', N', m, 0) ∧ Inv2 (n + 1) S' N' Sb Nb O' Ob (sent ++ [d]) got acks := by
  have hat : sAt Sa 1 = sent.length := by rw [h.sa]; rfl
  have hl : Sa.length = 2 := by rw [h.sa]; rfl
  have hlen := h.len
  have hoa := h.oa
  rw [send_spec h.smA (h.okA hn) h.oa 1 (by omega)]
  unfold sendS
  rw [if_neg (by rw [hl]; omega), if_neg (by omega), hat]
  by_cases e : (Oa.length : Int) ≥ 256 ∨ (sent.length : Int) ≥ 1099511627776
  · rw [if_pos e]; exact .inl ⟨_, _, _, _, rfl⟩
  · rw [if_neg e]
    obtain ⟨j, hw, hj⟩ := h.way
    refine .inr ⟨_, _, _, _, rfl, ?_⟩
    have hle : ∀ o ∈ Oa, o.1 ≤ 1 := fun o ho => by rw [(way_each hw o ho).1]; exact Int.le_refl _
    refine ⟨?_, h.na, h.nb, h.sb, h.ob, ⟨j, ?_, hj⟩, pre_grow h.pre, by rw [List.length_append]; simp only [List.length_cons, List.length_nil]; omega, by have := h.al; omega, ?_, fun x hx => ?_, h.ack⟩
    · rw [h.sa, List.length_append]; rfl
    · rw [insLast hle]
      exact way_grow hw
    · rw [insLast hle, List.length_append]; simp only [List.length_cons, List.length_nil]; omega
    · rcases List.mem_append.1 hx with hx | hx
      · exact h.dat x hx
      · rw [List.mem_singleton.1 hx]; exact hd
theorem Inv2.acked (h : Inv2 n Sa Na Sb Nb Oa Ob sent got acks) : Inv2 (n + 1) Sa Na Sb Nb Oa Ob sent got (acks ++ [(got.length : Int)]) := by
  have h' := h.up
  refine ⟨h'.sa, h'.na, h'.nb, h'.sb, h'.ob, h'.way, h'.pre, h'.len, ?_, h'.oa, h'.dat, fun x hx => ?_⟩
  · rw [List.length_append]; have := h.al; simp only [List.length_cons, List.length_nil]; omega
  · rcases List.mem_append.1 hx with hx | hx
    · exact h.ack x hx
    · rw [List.mem_singleton.1 hx]; exact ⟨by omega, Int.le_refl _⟩
end
theorem pick_mod {N : Int} {l : Nat} (h0 : 0 < l) (h1 : l ≤ 1000) : ∃ k : Nat, k < l ∧ IntKind.i64.wrap ((IntKind.u64.wrap N).tmod (IntKind.u64.wrap (l : Int))) = (k : Int) := by
  rw [wrap_u64' (x := N), wrap_u64 (x := (l : Int)) (by omega) (by omega), Int.tmod_eq_emod_of_nonneg (by omega)]
  have h2 := Int.emod_nonneg (N % 18446744073709551616) (show (l : Int) ≠ 0 by omega)
  have h3 := Int.emod_lt_of_pos (N % 18446744073709551616) (show (0 : Int) < (l : Int) by omega)
  rw [wrap_i64 (by omega) (by omega)]
  exact ⟨(N % 18446744073709551616 % l).toNat, by omega, by omega⟩
theorem once_l2 {L : List TO} (hL : L.length ≤ 200) (hd : ∀ o ∈ L, o.2.2.length ≤ 30) : ∀ (r : List TO) (i : Nat) (Sa Na Sb Nb : List Int) (Oa Ob : List TO) (sent got : List (List Int)) (acks : List Int), L.drop i = r → i ≤ L.length → Inv2 i Sa Na Sb Nb Oa Ob sent got acks →
    law23_BoxOnce_l2 L i Sa Oa Na Sb Ob Nb sent got acks = some true := by
  intro r
  induction r with
  | nil =>
    intro i Sa Na Sb Nb Oa Ob sent got acks h hi hinv
    have h0 := at_nil h
    have hoa := hinv.oa
    obtain ⟨j, hw, hj⟩ := hinv.way
    rw [law23_BoxOnce_l2_eq]
    simp -implicitDefEqProofs only [ilen_eq]
    rw [decide_eq_false (show ¬ (i : Int) < (L.length : Int) by omega), cond_false, pend_spec hinv.smA, pend_all hw (by simp only [List.length_nil]; omega), List.nil_append, Option.bind_some]
    exact once_l5 (n := i) (by omega) hinv.oa Oa 0 Nb got j rfl hinv hw hj
  | cons o r ih =>
    intro i Sa Na Sb Nb Oa Ob sent got acks h hi hinv
    obtain ⟨k1, k2, k3⟩ := at_drop h
    have hi' : i ≤ 200 := by omega
    have hdo := hd o (List.mem_of_getElem? k2)
    have hoa := hinv.oa
    have hal := hinv.al
    have hlen := hinv.len
    have hpre := hinv.pre.1
    have go : ∀ {Sa' Na' Nb' : List Int} {Oa' : List TO} {sent' got' : List (List Int)} {acks' : List Int}, Inv2 (i + 1) Sa' Na' Sb Nb' Oa' Ob sent' got' acks' → ((law23_begins got' sent').bind fun v => bif !v then some false else law23_BoxOnce_l2 L (IntKind.i64.wrap ((i : Int) + 1)) Sa' Oa' Na' Sb Ob Nb' sent' got' acks') = some true := by
      intro Sa' Na' Nb' Oa' sent' got' acks' hv
      have h1 := hv.pre.1
      have h2 := hv.len
      rw [begins_spec (by omega) hv.pre, wrap_succ (by omega)]
      exact ih (i + 1) _ _ _ _ _ _ _ _ _ k3 (by omega) hv
    have hseen : law23_seen Sb Ob Nb = some (got.length : Int) := seen_spec (by rw [hinv.nb]; rfl)
    rw [law23_BoxOnce_l2_eq]
    simp -implicitDefEqProofs only [ilen_eq, List.length_cons, List.length_nil]
    rw [decide_eq_true (show (i : Int) < (L.length : Int) by omega), decide_eq_true (show (0 : Int) ≤ i by omega)]
    simp -implicitDefEqProofs only [cond_true, Int.toNat_natCast, k2, Option.bind_some]
    by_cases c0 : o.1 = 0
    · rw [beq_yes c0, cond_true]
      rcases send_one hinv (by omega) hdo with ⟨S', O', N', m, e⟩ | ⟨S', O', N', m, e, hv⟩
      · rw [e, Option.bind_some]
        simp -implicitDefEqProofs only []
        rw [beq_no (by decide), cond_false]
        exact go hinv.up
      · rw [e, Option.bind_some]
        simp -implicitDefEqProofs only []
        rw [beq_yes rfl, cond_true, decide_eq_true (show ((sent.length : Int) + ((0 + 1 : Nat) : Int)) * 24 ≤ room by rw [room_eq]; omega), cond_true]
        exact go hv
    rw [beq_no c0, cond_false]
    by_cases c1 : o.1 = 1
    · rw [beq_yes c1, cond_true]
      obtain ⟨j, hw, hj⟩ := hinv.way
      rw [pend_spec hinv.smA, pend_all hw (by simp only [List.length_nil]; omega), List.nil_append, Option.bind_some]
      by_cases e : (Oa.length : Int) > 0
      · obtain ⟨k, q1, q2⟩ := pick_mod (N := o.2.1) (l := Oa.length) (by omega) (by omega)
        have hx : Oa[k]? = some Oa[k] := List.getElem?_eq_getElem q1
        obtain ⟨_, m, _, hm, hs⟩ := way_each hw Oa[k] (List.getElem_mem q1)
        obtain ⟨got', Nb', p1, p2, p3, _⟩ := take_one hinv (by omega) hm hs
        have hseen' : law23_seen Sb Ob Nb' = some (got'.length : Int) := seen_spec (by rw [p2.nb]; rfl)
        rw [decide_eq_true e, cond_true, wrap_u64 (x := (Oa.length : Int)) (by omega) (by omega)]
        rw [wrap_u64 (x := (Oa.length : Int)) (by omega) (by omega)] at q2
        rw [decide_eq_false (show ¬ (Oa.length : Int) = 0 by omega), cond_false, q2, decide_eq_true (show (0 : Int) ≤ k by omega), cond_true, Int.toNat_natCast, hx, Option.bind_some, p1, Option.bind_some]
        simp -implicitDefEqProofs only []
        rw [hseen', Option.bind_some, decide_eq_true (show ((acks.length : Int) + ((0 + 1 : Nat) : Int)) * 8 ≤ room by rw [room_eq]; omega), cond_true]
        exact go p2.acked
      · rw [decide_eq_false e, cond_false, hseen, Option.bind_some, decide_eq_true (show ((acks.length : Int) + ((0 + 1 : Nat) : Int)) * 8 ≤ room by rw [room_eq]; omega), cond_true]
        exact go hinv.acked
    rw [beq_no c1, cond_false]
    have acked : ∀ q : Int, 0 ≤ q → q ≤ got.length → ((box_Ack Sa Oa Na 1 q).bind fun v => bif v.2.2.2 == 0 then (law23_begins got sent).bind fun b => bif !b then some false else law23_BoxOnce_l2 L (IntKind.i64.wrap ((i : Int) + 1)) v.1 v.2.1 v.2.2.1 Sb Ob Nb sent got acks
        else (law23_begins got sent).bind fun b => bif !b then some false else law23_BoxOnce_l2 L (IntKind.i64.wrap ((i : Int) + 1)) Sa Oa Na Sb Ob Nb sent got acks) = some true := by
      intro q h0 h1
      obtain ⟨Oa', e, hv⟩ := ack_one hinv h0 h1
      rw [e, Option.bind_some]
      simp only []
      rw [beq_yes rfl, cond_true]
      exact go hv.up
    by_cases c2 : o.1 = 2
    · rw [beq_yes c2, cond_true, hseen, Option.bind_some]
      exact acked _ (by omega) (Int.le_refl _)
    rw [beq_no c2, cond_false]
    by_cases c3 : o.1 = 3
    · rw [beq_yes c3, cond_true]
      by_cases e : (acks.length : Int) > 0
      · obtain ⟨k, q1, q2⟩ := pick_mod (N := o.2.1) (l := acks.length) (by omega) (by omega)
        have hx : acks[k]? = some acks[k] := List.getElem?_eq_getElem q1
        have hack := hinv.ack acks[k] (List.getElem_mem q1)
        rw [decide_eq_true e, cond_true, wrap_u64 (x := (acks.length : Int)) (by omega) (by omega)]
        rw [wrap_u64 (x := (acks.length : Int)) (by omega) (by omega)] at q2
        rw [decide_eq_false (show ¬ (acks.length : Int) = 0 by omega), cond_false, q2, decide_eq_true (show (0 : Int) ≤ k by omega), cond_true, decide_eq_true (show (k : Int) < (acks.length : Int) by omega), cond_true, Int.toNat_natCast, hx, Option.bind_some]
        exact acked _ hack.1 hack.2
      · rw [decide_eq_false e, cond_false]
        exact go hinv.up
    · rw [beq_no c3, cond_false]
      exact go hinv.up
theorem once_l0 {L : List TO} (hL : L.length ≤ 200) {Sa Na Sb Nb : List Int} {Oa Ob : List TO} (hinv : Inv2 0 Sa Na Sb Nb Oa Ob [] [] []) : ∀ (r : List TO) (i : Nat), L.drop i = r → i ≤ L.length → (∀ j x, j < i → L[j]? = some x → x.2.2.length ≤ 30) → law23_BoxOnce_l0 L i Sa Oa Na Sb Ob Nb = some true := by
  intro r
  induction r with
  | nil =>
    intro i h hi hd
    have h0 := at_nil h
    rw [law23_BoxOnce_l0_eq, ilen_eq, decide_eq_false (show ¬ (i : Int) < (L.length : Int) by omega), cond_false]
    refine once_l2 hL (fun o ho => ?_) L 0 _ _ _ _ _ _ _ _ _ rfl (Nat.zero_le _) hinv
    obtain ⟨k, hk⟩ := List.getElem?_of_mem ho
    exact hd k o (by have := (List.getElem?_eq_some_iff.1 hk).1; omega) hk
  | cons o r ih =>
    intro i h hi hd
    obtain ⟨k1, k2, k3⟩ := at_drop h
    rw [law23_BoxOnce_l0_eq]
    simp -implicitDefEqProofs only [ilen_eq]
    rw [decide_eq_true (show (i : Int) < (L.length : Int) by omega), decide_eq_true (show (0 : Int) ≤ i by omega)]
    simp -implicitDefEqProofs only [cond_true, Int.toNat_natCast, k2, Option.bind_some]
    by_cases e : (o.2.2.length : Int) > 30
    · rw [decide_eq_true e, cond_true, works23, Option.bind_some]
    · rw [decide_eq_false e, cond_false, wrap_succ (by omega)]
      refine ih (i + 1) k3 (by omega) fun j x hj hx => ?_
      rcases Nat.lt_or_ge j i with hq | hq
      · exact hd j x hq hx
      · have : j = i := by omega
        subst this
        rw [k2] at hx; cases hx; omega
theorem once_law {L : List TO} : law23_BoxOnce L = some true := by
  rw [law23_BoxOnce_eq, ilen_eq]
  by_cases h : (L.length : Int) > 200
  · rw [decide_eq_true h, cond_true, works23, Option.bind_some]
  · have e : newS 2 = ([0, 0], [], [0, 0], 0) := by decide
    rw [decide_eq_false h, new_spec, e]
    simp only [cond_false, Option.bind_some]
    rw [bne_no rfl]
    refine once_l0 (by omega) ⟨rfl, rfl, rfl, rfl, rfl, ⟨0, (show Way [] 0 [] from rfl), Nat.le_refl _⟩, ⟨Nat.le_refl _, fun i x h => (by simp at h)⟩, Nat.le_refl _, Nat.le_refl _, by decide, fun x h => (by cases h), fun x h => (by cases h)⟩ L 0 rfl (Nat.zero_le _) fun j x hj => by omega
end Go.Proofs.Ytdmfjpcobbkppaa.PE
