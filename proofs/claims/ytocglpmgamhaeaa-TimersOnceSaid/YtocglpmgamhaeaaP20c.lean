/- Timers: one more; what is due; the others. -/
import Derived.Test.YtocglpmgamhaeaaP20b
namespace Go.Proofs.Ytocglpmgamhaeaa.PE
set_option linter.unusedVariables false
theorem same_l0 {l : List T} (hl : l.length ≤ 1000000) : ∀ (r : List T) (i : Nat), l.drop i = r → ref20_Same_l0 l l i = some true := by
  intro r
  induction r with
  | nil =>
    intro i h
    have h1 := at_nil h
    rw [ref20_Same_l0_eq, ilen_eq, decide_eq_false (by omega), cond_false]
  | cons x r ih =>
    intro i h
    obtain ⟨h1, h2, h3⟩ := at_drop h
    rw [ref20_Same_l0_eq, ilen_eq]
    simp -implicitDefEqProofs only [Bool.cond_decide, Int.toNat_natCast, h2, Option.bind_some, if_pos (show (0 : Int) ≤ i by omega)]
    rw [if_pos (by omega), wrap_succ (by omega), ih (i + 1) h3]
    simp
theorem same_self {l : List T} (hl : l.length ≤ 1000000) : ref20_Same l l = some true := by
  have := same_l0 hl l 0 rfl
  rw [Int.natCast_zero] at this
  rw [ref20_Same_eq, this, bne_no rfl]
  rfl
/-- Timers with one more. -/
def addS (l : List T) (t : T) : List T × Int := bif !oneS t then ([], 1) else bif found t l then ([], 10) else (l.take (pos t l) ++ [t] ++ l.drop (pos t l), 0)
theorem pos_le (t : T) (l : List T) : pos t l ≤ l.length := List.findIdx_le_length
theorem add_spec {l : List T} {t : T} (hl : l.length ≤ 1000000) (hr : up none l = true) : timers_Add l t.1 t.2.1 t.2.2 = some (addS l t) := by
  have hc : timers_Check [(t.1, t.2.1, t.2.2)] = some (bif oneS t then 0 else 1) := by
    rw [check_spec (by simp)]
    show some (bif oneS t && true then 0 else 1) = _
    rw [Bool.and_true]
  rw [timers_Add_eq, hc, Option.bind_some, addS]
  cases oneS t with
  | false => rfl
  | true =>
    rw [cond_true, bne_no rfl, cond_false, Bool.not_true, cond_false, search_spec hl hr, Option.bind_some]
    dsimp only
    cases found t l with
    | true => rfl
    | false =>
      have hp := pos_le t l
      rw [cond_false, cond_false, clone20 hl, Option.bind_some, insF_eq, insS]
      have hc1 : (Nat.beq [(t.1, t.2.1, t.2.2)].length 1 && (decide ((0 : Int) ≤ ((pos t l : Nat) : Int)) && (decide (((pos t l : Nat) : Int) ≤ ilen l) && decide ((ilen l + 1) * ((24 : Nat) : Int) ≤ room)))) = true := by
        rw [ilen_eq, decide_eq_true (show (0 : Int) ≤ ((pos t l : Nat) : Int) by omega), decide_eq_true (show ((pos t l : Nat) : Int) ≤ (l.length : Int) by omega), decide_eq_true (show ((l.length : Int) + 1) * ((24 : Nat) : Int) ≤ room by rw [room_eq]; omega)]
        rfl
      rw [hc1, cond_true, Int.toNat_natCast, Option.bind_some]
/-- .. as the document says it. -/
def addR (t : T) : Bool → List T → List T
  | p, [] => if p = true then [] else [t]
  | p, x :: r => if p = false ∧ lt t x then t :: x :: addR t true r else x :: addR t p r
theorem addR_len (t : T) : ∀ (r : List T) (p : Bool), (addR t p r).length ≤ r.length + 1
  | [], p => by cases p <;> simp [addR]
  | x :: r, p => by
    rw [addR]
    split
    · have : ∀ r : List T, (addR t true r).length = r.length := fun r => by
        induction r with
        | nil => rfl
        | cons y r ih => rw [addR, if_neg (by simp), List.length_cons, List.length_cons, ih]
      rw [List.length_cons, List.length_cons, this, List.length_cons]; omega
    · have := addR_len t r p
      rw [List.length_cons, List.length_cons]; omega
theorem refAdd_l0 {l : List T} {t : T} (hl : l.length ≤ 1000000) : ∀ (r : List T) (i : Nat) (p : Bool) (o : List T), l.drop i = r → o.length ≤ i + 1 → i ≤ l.length → (p = false → o.length ≤ i) → ref20_Add_l0 l p i t.1 t.2.1 t.2.2 o = some (if t ∈ r then ([], 10) else (o ++ addR t p r, 0)) := by
  intro r
  induction r with
  | nil =>
    intro i p o h ho hi hp
    have h1 := at_nil h
    rw [ref20_Add_l0_eq, ilen_eq, decide_eq_false (show ¬ (i : Int) < _ by omega), cond_false, if_neg (by simp)]
    cases p with
    | true => simp [addR]
    | false =>
      rw [Bool.not_false, cond_true, decide_eq_true (show _ ≤ room by simp only [ilen_eq, List.length_cons, List.length_nil, room_eq]; omega), cond_true]
      rfl
  | cons x r ih =>
    intro i p o h ho hi hp
    obtain ⟨h1, h2, h3⟩ := at_drop h
    have ro : ∀ v : T, (ilen o + ilen [v]) * 24 ≤ room := fun v => by simp only [ilen_eq, List.length_cons, List.length_nil, room_eq]; omega
    have ro2 : ∀ v : T, (ilen (o ++ [(t.1, t.2.1, t.2.2)]) + ilen [v]) * 24 ≤ room := fun v => by simp only [ilen_eq, List.length_append, List.length_cons, List.length_nil, room_eq]; omega
    rw [ref20_Add_l0_eq, ilen_eq, decide_eq_true (show (i : Int) < _ by omega), cond_true, decide_eq_true (show (0 : Int) ≤ (i : Int) by omega), cond_true, Int.toNat_natCast, h2, Option.bind_some, wrap_succ (by omega)]
    by_cases e : t = x
    · subst e
      rw [beq_self_eq_true, beq_self_eq_true, beq_self_eq_true]
      rw [if_pos (List.mem_cons_self ..)]
      rfl
    · have hne : (x.1 == t.1 && (x.2.1 == t.2.1 && (x.2.2 == t.2.2 && true))) = false := by
        cases hb : (x.1 == t.1 && (x.2.1 == t.2.1 && (x.2.2 == t.2.2 && true))) with
        | false => rfl
        | true =>
          simp only [Bool.and_eq_true, beq_iff_eq] at hb
          exact absurd (T_ext hb.1 hb.2.1 hb.2.2.1).symm e
      rw [hne, cond_false]
      simp only [Option.bind_some, cond_true]
      rw [ahead_spec, Option.bind_some, decide_eq_true (ro _), cond_true, decide_eq_true (ro2 _), cond_true, decide_eq_true (ro _), cond_true]
      have hmem : (t ∈ x :: r) ↔ t ∈ r := by rw [List.mem_cons]; exact ⟨fun h => h.resolve_left e, .inr⟩
      have i1 := ih (i + 1) true (o ++ [t] ++ [x]) h3
      have i2 := ih (i + 1) p (o ++ [x]) h3 (by rw [List.length_append, List.length_singleton]; omega) (by omega) (fun hh => by rw [List.length_append, List.length_singleton]; have := hp hh; omega)
      rw [i2]
      cases p with
      | true =>
        rw [Bool.not_true, cond_false, addR, if_neg (show ¬ (true = false ∧ lt t x) from fun h => nomatch h.1)]
        by_cases hm : t ∈ r
        · rw [if_pos hm, if_pos (hmem.2 hm)]
        · rw [if_neg hm, if_neg (fun h => hm (hmem.1 h)), List.append_assoc]; rfl
      | false =>
        rw [Bool.not_false, cond_true, addR]
        by_cases hx : lt t x
        · rw [decide_eq_true hx, cond_true, if_pos (show false = false ∧ lt t x from ⟨rfl, hx⟩)]
          have i1' := i1 (by rw [List.length_append, List.length_append, List.length_singleton, List.length_singleton]; have := hp rfl; omega) (by omega) (fun hh => nomatch hh)
          refine Eq.trans i1' ?_
          by_cases hm : t ∈ r
          · rw [if_pos hm, if_pos (hmem.2 hm)]
          · rw [if_neg hm, if_neg (fun h => hm (hmem.1 h)), List.append_assoc, List.append_assoc]; rfl
        · rw [decide_eq_false hx, cond_false, if_neg (show ¬ (false = false ∧ lt t x) from fun h => hx h.2)]
          by_cases hm : t ∈ r
          · rw [if_pos hm, if_pos (hmem.2 hm)]
          · rw [if_neg hm, if_neg (fun h => hm (hmem.1 h)), List.append_assoc]; rfl
theorem addR_true (t : T) : ∀ r : List T, addR t true r = r
  | [] => rfl
  | x :: r => by rw [addR, if_neg (show ¬ (true = false ∧ lt t x) from fun h => nomatch h.1), addR_true t r]
theorem addR_pos {t : T} : ∀ {l : List T} {p : Option T}, up p l = true → t ∉ l → addR t false l = l.take (pos t l) ++ [t] ++ l.drop (pos t l)
  | [], _, _, _ => rfl
  | x :: r, p, h, hn => by
    have hr : up (some x) r = true := by
      cases p with
      | none => have : (oneS x && up (some x) r) = true := h; rw [Bool.and_eq_true] at this; exact this.2
      | some q => have : (oneS x && (decide (lt q x) && up (some x) r)) = true := h; rw [Bool.and_eq_true, Bool.and_eq_true] at this; exact this.2.2
    unfold pos
    rw [addR, List.findIdx_cons]
    by_cases hx : lt t x
    · rw [if_pos ⟨rfl, hx⟩, addR_true, decide_eq_false (fun k => lt_irr (lt_trans hx k))]
      rfl
    · rw [if_neg (fun k => hx k.2)]
      have hxt : lt x t := by
        rcases lt_tri t x with k | k | k
        · exact absurd k hx
        · exact absurd (by rw [k]; exact List.mem_cons_self ..) hn
        · exact k
      have := addR_pos hr (fun k => hn (List.mem_cons_of_mem _ k))
      unfold pos at this
      rw [decide_eq_true hxt, this]
      rfl
theorem found_mem {t : T} {l : List T} {p : Option T} (h : up p l = true) : found t l = true ↔ t ∈ l := by
  constructor
  · intro hf
    unfold found at hf
    cases hq : l[pos t l]? with
    | none => rw [hq] at hf; cases hf
    | some x =>
      rw [hq] at hf
      have := of_decide_eq_true hf
      subst this
      exact List.mem_of_getElem? hq
  · intro hm
    obtain ⟨k, hk⟩ := List.getElem?_of_mem hm
    have hkl := (List.getElem?_eq_some_iff.1 hk).1
    have hp : pos t l = k := pos_eq (by omega) (fun j x hj hx => (up_lt h).2 j k x t hx hk hj) (fun x hx => by rw [hk] at hx; cases hx; exact lt_irr)
    unfold found
    rw [hp, hk]
    exact decide_eq_true rfl
theorem refAdd_spec {l : List T} {t : T} (hl : l.length ≤ 1000000) (hr : up none l = true) : ref20_Add l t.1 t.2.1 t.2.2 = some (addS l t) := by
  have := refAdd_l0 (t := t) hl l 0 false [] rfl (by simp) (Nat.zero_le _) (fun _ => Nat.le_refl _)
  rw [Int.natCast_zero] at this
  rw [ref20_Add_eq, refOne_spec, Option.bind_some, this, addS]
  cases oneS t with
  | false => rfl
  | true =>
    rw [Bool.not_true, cond_false, cond_false, List.nil_append]
    cases hf : found t l with
    | true => rw [if_pos ((found_mem hr).1 hf)]; rfl
    | false =>
      have hn : t ∉ l := fun hm => by rw [(found_mem hr).2 hm] at hf; cases hf
      rw [if_neg hn, addR_pos hr hn]; rfl
theorem addS_len (l : List T) (t : T) : (addS l t).1.length ≤ l.length + 1 := by
  have hp := pos_le t l
  rw [addS]
  cases oneS t <;> cases found t l
  · exact Nat.zero_le _
  · exact Nat.zero_le _
  · show (l.take (pos t l) ++ [t] ++ l.drop (pos t l)).length ≤ _
    rw [List.length_append, List.length_append, List.length_take, List.length_drop, List.length_singleton]; omega
  · exact Nat.zero_le _
end Go.Proofs.Ytocglpmgamhaeaa.PE
