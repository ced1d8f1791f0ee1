/- Boxes: clones, sameness, how large they are. -/
import Derived.Test.YtdmfjpcobbkppaaX23
import Derived.Test.YtdmfjpcobbkppaaELib
namespace Go.Proofs.Ytdmfjpcobbkppaa.PE
set_option linter.unusedVariables false
abbrev TO : Type := Int × Int × List Int
def wt : List TO → Nat
  | [] => 0
  | e :: r => 1 + e.2.2.length / 20 + wt r
/-- What a program may be handed. -/
def Big (S : List Int) (O : List TO) (N : List Int) : Prop := S.length ≤ 140737488351232 ∧ N.length ≤ 140737488351232 ∧ O.length ≤ 140737488351232 ∧ ∀ e ∈ O, e.2.2.length ≤ 140737488351232
def Sm (S : List Int) (O : List TO) (N : List Int) : Prop := S.length ≤ 1000000 ∧ N.length ≤ 1000000 ∧ O.length ≤ 1000000 ∧ ∀ e ∈ O, e.2.2.length ≤ 1000000
theorem weight_l0 {S N : List Int} {O : List TO} {m : Int} (hm : m ≤ 1000) (hb : Big S O N) : ∀ (r : List TO) (i n : Nat), O.drop i = r → n ≤ 281474976710656 → ∃ k : Int, ref23_Weight_l0 m n i S O N = some k ∧ (k ≤ m → k = n + wt r) := by
  obtain ⟨_, _, hb1, hb2⟩ := hb
  intro r
  induction r with
  | nil =>
    intro i n h hn
    have h1 := at_nil h
    refine ⟨n, ?_, by simp [wt]⟩
    rw [ref23_Weight_l0_eq, ilen_eq]
    simp -implicitDefEqProofs only [Bool.cond_decide]
    rw [if_neg (by omega)]
  | cons x r ih =>
    intro i n h hn0
    obtain ⟨h1, h2, h3⟩ := at_drop h
    have hx := hb2 x (List.mem_of_getElem? h2)
    rw [ref23_Weight_l0_eq, ilen_eq]
    simp -implicitDefEqProofs only [Bool.cond_decide]
    rw [if_pos (by omega)]
    by_cases hn : (n : Int) ≤ m
    · rw [if_pos hn, if_pos (by omega)]
      simp -implicitDefEqProofs only [Int.toNat_natCast, h2, Option.bind_some, ilen_eq]
      rw [Int.tdiv_eq_ediv_of_nonneg (by omega), wrap_i64 (x := (n : Int) + 1) (by omega) (by omega), wrap_i64 (x := (x.2.2.length : Int) / 20) (by omega) (by omega), wrap_i64 (x := (n : Int) + 1 + _) (by omega) (by omega), wrap_succ (by omega)]
      obtain ⟨k, k1, k2⟩ := ih (i + 1) (n + 1 + x.2.2.length / 20) h3 (by omega)
      refine ⟨k, ?_, fun hk => ?_⟩
      · rw [← k1]; congr 1
      · rw [k2 hk, wt]; omega
    · rw [if_neg hn]
      exact ⟨n, rfl, fun h => absurd h hn⟩
theorem wt_sm : ∀ {l : List TO} {n : Nat}, wt l ≤ n → l.length ≤ n ∧ ∀ e ∈ l, e.2.2.length ≤ 20 * n
  | [], n, h => ⟨Nat.zero_le _, fun _ h => by cases h⟩
  | e :: r, n, h => by
    rw [wt] at h
    obtain ⟨h1, h2⟩ := wt_sm (l := r) (n := n - 1) (by omega)
    refine ⟨by rw [List.length_cons]; omega, fun x hx => ?_⟩
    rcases List.mem_cons.1 hx with rfl | hx
    · omega
    · have := h2 x hx; omega
/-- Is it no more than is waited for? -/
theorem lightB_spec {S N : List Int} {O : List TO} (hb : Big S O N) : ∃ b, law23_light S O N = some b ∧ (b = true → Sm S O N) := by
  have hb' := hb
  obtain ⟨h1, h2, h3, h4⟩ := hb'
  obtain ⟨k, k1, k2⟩ := weight_l0 (m := 400) (by omega) hb O 0 (S.length + N.length) rfl (by omega)
  refine ⟨decide (k ≤ 400), ?_, fun h => ?_⟩
  · rw [law23_light_eq, ref23_Weight_eq, ilen_eq, ilen_eq, wrap_i64 (by omega) (by omega)]
    rw [Int.natCast_add] at k1
    rw [Int.natCast_zero] at k1
    rw [k1]; rfl
  · have hk := k2 (of_decide_eq_true h)
    have hle := of_decide_eq_true h
    obtain ⟨q1, q2⟩ := wt_sm (l := O) (n := 400) (by omega)
    exact ⟨by omega, by omega, by omega, fun e he => by have := q2 e he; omega⟩
theorem cloneI {x : List Int} (h : x.length ≤ 1000000) : box_CloneI x = some x := by
  rw [box_CloneI_eq, room_dec (by rw [ilen_eq]; omega)]; rfl
theorem cloneB {x : List Int} (h : x.length ≤ 1000000) : box_CloneB x = some x := by
  rw [box_CloneB_eq, room_dec (by rw [ilen_eq]; omega)]; rfl
theorem cloneO {x : List TO} (h : x.length ≤ 1000000) : box_CloneO x = some x := by
  rw [box_CloneO_eq, room_dec (by rw [ilen_eq]; omega)]; rfl
theorem copy_l0 {S N : List Int} {O : List TO} (h1 : O.length ≤ 1000000) (h2 : ∀ e ∈ O, e.2.2.length ≤ 1000000) : ∀ (r : List TO) (i : Nat), O.drop i = r → box_Copy_l0 O.length i S O N = some (S, O, N) := by
  intro r
  induction r with
  | nil =>
    intro i h
    have h0 := at_nil h
    rw [box_Copy_l0_eq, decide_eq_false (by omega)]; rfl
  | cons x r ih =>
    intro i h
    obtain ⟨k1, k2, k3⟩ := at_drop h
    have hx := h2 x (List.mem_of_getElem? k2)
    rw [box_Copy_l0_eq, ilen_eq, decide_eq_true (by omega), decide_eq_true (by omega)]
    simp only [cond_true, Int.toNat_natCast, k2, Option.bind_some]
    rw [cloneB hx]
    simp only [Option.bind_some]
    have e : O.set i (x.1, x.2.1, x.2.2) = O := by
      apply List.ext_getElem?
      intro j
      by_cases hj : j = i
      · subst hj; rw [List.getElem?_set_self k1, k2]
      · rw [List.getElem?_set_ne (Ne.symm hj)]
    rw [e, wrap_succ (by omega)]
    exact ih (i + 1) k3
theorem copy_spec {S N : List Int} {O : List TO} (h : Sm S O N) : box_Copy S O N = some (S, O, N) := by
  obtain ⟨h1, h2, h3, h4⟩ := h
  rw [box_Copy_eq, cloneI h1, cloneI h2, cloneO h3]
  simp only [Option.bind_some]
  rw [ilen_eq]
  exact copy_l0 h3 h4 O 0 rfl
/-- Are two rows of numbers, of things on their way, the same? -/
def eqI : List Int → List Int → Bool
  | [], [] => true
  | a :: r, b :: s => (a == b) && eqI r s
  | _, _ => false
def eo (x y : TO) : Bool := x.1 == y.1 && (x.2.1 == y.2.1 && (strOf x.2.2).toList == (strOf y.2.2).toList)
def eqO : List TO → List TO → Bool
  | [], [] => true
  | a :: r, b :: s => eo a b && eqO r s
  | _, _ => false
theorem eqI_self : ∀ l, eqI l l = true
  | [] => rfl
  | a :: r => by rw [eqI, eqI_self r, beq_yes rfl]; rfl
theorem eqO_self : ∀ l, eqO l l = true
  | [] => rfl
  | a :: r => by rw [eqO, eqO_self r, eo, beq_yes rfl, beq_yes rfl, beq_yes rfl]; rfl
theorem eqI_len : ∀ {a b : List Int}, a.length ≠ b.length → eqI a b = false
  | [], [], h => absurd rfl h
  | [], _ :: _, _ => rfl
  | _ :: _, [], _ => rfl
  | x :: a, y :: b, h => by rw [eqI, eqI_len (a := a) (b := b) (fun e => h (by simp [e])), Bool.and_false]
theorem eqO_len : ∀ {a b : List TO}, a.length ≠ b.length → eqO a b = false
  | [], [], h => absurd rfl h
  | [], _ :: _, _ => rfl
  | _ :: _, [], _ => rfl
  | x :: a, y :: b, h => by rw [eqO, eqO_len (a := a) (b := b) (fun e => h (by simp [e])), Bool.and_false]
theorem at_both {α β : Type} {a r : List α} {b s : List β} {i : Nat} {x : α} (ha : a.drop i = x :: r) (hb : b.drop i = s) (hl : a.length = b.length) : ∃ y t, s = y :: t ∧ b[i]? = some y ∧ b.drop (i + 1) = t := by
  have hi := (at_drop ha).1
  have hi' : i < b.length := by omega
  rw [List.drop_eq_getElem_cons hi'] at hb
  exact ⟨_, _, hb.symm, List.getElem?_eq_getElem hi', rfl⟩
theorem equalI_l0 {a b : List Int} (hl : a.length = b.length) (hs : a.length ≤ 140737488351232) : ∀ (r s : List Int) (i : Nat), a.drop i = r → b.drop i = s → box_EqualI_l0 a b a.length i = some (eqI r s) := by
  intro r
  induction r with
  | nil =>
    intro s i h k
    have h0 := at_nil h
    rw [List.drop_eq_nil_of_le (by omega)] at k
    subst k
    rw [box_EqualI_l0_eq, decide_eq_false (by omega)]; rfl
  | cons x r ih =>
    intro s i h k
    obtain ⟨k1, k2, k3⟩ := at_drop h
    obtain ⟨y, t, rfl, q2, q3⟩ := at_both h k hl
    rw [box_EqualI_l0_eq, decide_eq_true (by omega), decide_eq_true (by omega)]
    simp only [cond_true, Int.toNat_natCast, k2, q2, Option.bind_some]
    rw [eqI]
    by_cases e : x = y
    · rw [bne_no e, beq_yes e, wrap_succ (by omega)]
      exact ih t (i + 1) k3 q3
    · rw [bne_yes e, beq_no e]; rfl
theorem equalI_spec {a b : List Int} (hs : a.length ≤ 140737488351232) : box_EqualI a b = some (eqI a b) := by
  rw [box_EqualI_eq, ilen_eq, ilen_eq]
  by_cases hl : a.length = b.length
  · rw [bne_no (by omega)]
    exact equalI_l0 hl hs a b 0 rfl rfl
  · rw [bne_yes (by omega), eqI_len hl]; rfl
theorem refInts_l0 {a b : List Int} (hl : a.length = b.length) (hs : a.length ≤ 140737488351232) : ∀ (r s : List Int) (i : Nat), a.drop i = r → b.drop i = s → ref23_ints_l0 a b i = some (eqI r s) := by
  intro r
  induction r with
  | nil =>
    intro s i h k
    have h0 := at_nil h
    rw [List.drop_eq_nil_of_le (by omega)] at k
    subst k
    rw [ref23_ints_l0_eq, ilen_eq, decide_eq_false (by omega)]; rfl
  | cons x r ih =>
    intro s i h k
    obtain ⟨k1, k2, k3⟩ := at_drop h
    obtain ⟨y, t, rfl, q2, q3⟩ := at_both h k hl
    rw [ref23_ints_l0_eq, ilen_eq, decide_eq_true (by omega), decide_eq_true (by omega)]
    simp only [cond_true, Int.toNat_natCast, k2, q2, Option.bind_some]
    rw [eqI]
    by_cases e : x = y
    · rw [bne_no e, beq_yes e, wrap_succ (by omega)]
      exact ih t (i + 1) k3 q3
    · rw [bne_yes e, beq_no e]; rfl
theorem refInts_spec {a b : List Int} (hs : a.length ≤ 140737488351232) : ref23_ints a b = some (eqI a b) := by
  rw [ref23_ints_eq, ilen_eq, ilen_eq]
  by_cases hl : a.length = b.length
  · rw [bne_no (by omega)]
    exact refInts_l0 hl hs a b 0 rfl rfl
  · rw [bne_yes (by omega), eqI_len hl]; rfl
theorem equalF_l0 {a b : List TO} (hl : a.length = b.length) (hs : a.length ≤ 140737488351232) : ∀ (r s : List TO) (i : Nat), a.drop i = r → b.drop i = s → box_EqualFunc_l0 b a a.length i = some (eqO r s) := by
  intro r
  induction r with
  | nil =>
    intro s i h k
    have h0 := at_nil h
    rw [List.drop_eq_nil_of_le (by omega)] at k
    subst k
    rw [box_EqualFunc_l0_eq, decide_eq_false (by omega)]; rfl
  | cons x r ih =>
    intro s i h k
    obtain ⟨k1, k2, k3⟩ := at_drop h
    obtain ⟨y, t, rfl, q2, q3⟩ := at_both h k hl
    rw [box_EqualFunc_l0_eq, decide_eq_true (by omega), decide_eq_true (by omega)]
    simp only [cond_true, Int.toNat_natCast, k2, q2, Option.bind_some]
    rw [eqO, eo, bytes_Equal_eq, wrap_succ (by omega), ih t (i + 1) k3 q3]
    cases x.1 == y.1 <;> cases x.2.1 == y.2.1 <;> cases (strOf x.2.2).toList == (strOf y.2.2).toList <;> rfl
theorem equalF_spec {a b : List TO} (hs : a.length ≤ 140737488351232) : box_EqualFunc a b = some (eqO a b) := by
  rw [box_EqualFunc_eq, ilen_eq, ilen_eq]
  by_cases hl : a.length = b.length
  · rw [bne_no (by omega)]
    exact equalF_l0 hl hs a b 0 rfl rfl
  · rw [bne_yes (by omega), eqO_len hl]; rfl
theorem refOuts_l0 {a b : List TO} (hl : a.length = b.length) (hs : a.length ≤ 140737488351232) : ∀ (r s : List TO) (i : Nat), a.drop i = r → b.drop i = s → ref23_Outs_l0 a b i = some (eqO r s) := by
  intro r
  induction r with
  | nil =>
    intro s i h k
    have h0 := at_nil h
    rw [List.drop_eq_nil_of_le (by omega)] at k
    subst k
    rw [ref23_Outs_l0_eq, ilen_eq, decide_eq_false (by omega)]; rfl
  | cons x r ih =>
    intro s i h k
    obtain ⟨k1, k2, k3⟩ := at_drop h
    obtain ⟨y, t, rfl, q2, q3⟩ := at_both h k hl
    rw [ref23_Outs_l0_eq, ilen_eq, decide_eq_true (by omega), decide_eq_true (by omega)]
    simp only [cond_true, Int.toNat_natCast, k2, q2, Option.bind_some]
    rw [eqO, eo, wrap_succ (by omega), ih t (i + 1) k3 q3]
    simp only [bne]
    cases x.1 == y.1 <;> cases x.2.1 == y.2.1 <;> cases (strOf x.2.2).toList == (strOf y.2.2).toList <;> rfl
theorem refOuts_spec {a b : List TO} (hs : a.length ≤ 140737488351232) : ref23_Outs a b = some (eqO a b) := by
  rw [ref23_Outs_eq, ilen_eq, ilen_eq]
  by_cases hl : a.length = b.length
  · rw [bne_no (by omega)]
    exact refOuts_l0 hl hs a b 0 rfl rfl
  · rw [bne_yes (by omega), eqO_len hl]; rfl
theorem same_spec {S S' N N' : List Int} {O O' : List TO} (h : Sm S O N) : box_Same S O N S' O' N' = ref23_Same S O N S' O' N' := by
  obtain ⟨h1, h2, h3, h4⟩ := h
  rw [box_Same_eq, ref23_Same_eq, equalI_spec (by omega), refInts_spec (by omega), equalI_spec (by omega), refInts_spec (by omega), equalF_spec (by omega), refOuts_spec (by omega)]
theorem refSame_spec {S S' N N' : List Int} {O O' : List TO} (h1 : S.length ≤ 140737488351232) (h2 : N.length ≤ 140737488351232) (h3 : O.length ≤ 140737488351232) : ref23_Same S O N S' O' N' = some (eqI S S' && (eqI N N' && eqO O O')) := by
  rw [ref23_Same_eq, refInts_spec h1, refInts_spec h2, refOuts_spec h3]
  cases eqI S S' <;> cases eqI N N' <;> cases eqO O O' <;> rfl
theorem refSame_self {S N : List Int} {O : List TO} (h : Sm S O N) : ref23_Same S O N S O N = some true := by
  obtain ⟨h1, h2, h3, h4⟩ := h
  rw [refSame_spec (by omega) (by omega) (by omega), eqI_self, eqI_self, eqO_self]; rfl
end Go.Proofs.Ytdmfjpcobbkppaa.PE
