/- Whether a box may be: the program's look and the document's. -/
import Derived.Test.YtdmfjpcobbkppaaP23a
namespace Go.Proofs.Ytdmfjpcobbkppaa.PE
set_option linter.unusedVariables false
open Classical
abbrev W64 (x : Int) : Int := IntKind.i64.wrap x
def okN (x : Int) : Prop := 0 ≤ x ∧ x ≤ 1099511627776
def bnd (n : Nat) (o : TO) : Prop := 0 ≤ o.1 ∧ o.1 < n ∧ 1 ≤ o.2.1 ∧ (o.2.2.length : Int) ≤ 65536
def sAt (S : List Int) (t : Int) : Int := S.getD t.toNat 0
def relP (S : List Int) : Option (Int × Int) → TO → Prop
  | none, _ => True
  | some p, o => (o.1 = p.1 ∧ W64 (p.2 + 1) = o.2.1) ∨ (p.1 < o.1 ∧ p.2 = sAt S p.1)
/-- What stands on its way: by To, then by Seq, without a gap, up to Sent. -/
def chk (S : List Int) : Option (Int × Int) → List TO → Prop
  | none, [] => True
  | some p, [] => p.2 = sAt S p.1
  | p, o :: r => bnd S.length o ∧ relP S p o ∧ chk S (some (o.1, o.2.1)) r
def lastOk (S : List Int) (p : Int × Int) : List TO → Prop
  | [] => p.2 = sAt S p.1
  | o :: _ => o.1 ≠ p.1 → p.2 = sAt S p.1
def relR : Option (Int × Int) → TO → Prop
  | none, _ => True
  | some p, o => p.1 ≤ o.1 ∧ (o.1 = p.1 → W64 (p.2 + 1) = o.2.1)
/-- .. as the document looks at it. -/
def chkR (S : List Int) : Option (Int × Int) → List TO → Prop
  | _, [] => True
  | p, o :: r => bnd S.length o ∧ relR p o ∧ lastOk S (o.1, o.2.1) r ∧ chkR S (some (o.1, o.2.1)) r
theorem chk_iff (S : List Int) : ∀ (r : List TO) (p : Option (Int × Int)), chk S p r ↔ (∀ x, p = some x → lastOk S x r) ∧ chkR S p r
  | [], none => ⟨fun _ => ⟨fun x h => (by cases h), trivial⟩, fun _ => trivial⟩
  | [], some p => ⟨fun h => ⟨fun x hx => (by cases hx; exact h), trivial⟩, fun h => h.1 p rfl⟩
  | o :: r, none => by
    have ih := chk_iff S r (some (o.1, o.2.1))
    refine ⟨fun ⟨h1, h2, h3⟩ => ⟨fun x h => (by cases h), h1, trivial, (ih.1 h3).1 _ rfl, (ih.1 h3).2⟩, fun ⟨_, h1, _, h3, h4⟩ => ⟨h1, trivial, ih.2 ⟨fun x hx => (by cases hx; exact h3), h4⟩⟩⟩
  | o :: r, some p => by
    have ih := chk_iff S r (some (o.1, o.2.1))
    constructor
    · rintro ⟨h1, h2, h3⟩
      refine ⟨fun x hx => ?_, h1, ?_, (ih.1 h3).1 _ rfl, (ih.1 h3).2⟩
      · cases hx
        intro hne
        rcases h2 with ⟨e, _⟩ | ⟨_, e⟩
        · exact absurd e hne
        · exact e
      · rcases h2 with ⟨e, h2⟩ | ⟨h2, e⟩
        · exact ⟨by omega, fun _ => h2⟩
        · exact ⟨by omega, fun e => by omega⟩
    · rintro ⟨h0, h1, ⟨h2, h2'⟩, h3, h4⟩
      refine ⟨h1, ?_, ih.2 ⟨fun x hx => (by cases hx; exact h3), h4⟩⟩
      by_cases e : o.1 = p.1
      · exact .inl ⟨e, h2' e⟩
      · exact .inr ⟨by omega, h0 p rfl e⟩
theorem sAt_get {S : List Int} {t : Int} (h0 : 0 ≤ t) (h1 : t < S.length) : S[t.toNat]? = some (sAt S t) := by
  unfold sAt
  rw [List.getD_eq_getElem?_getD, List.getElem?_eq_getElem (by omega)]; rfl
noncomputable def res (p : Prop) : Option Int := some (if p then 0 else 1)
theorem res_yes {p : Prop} (h : p) : res p = some 0 := by unfold res; rw [if_pos h]
theorem res_no {p : Prop} (h : ¬ p) : res p = some 1 := by unfold res; rw [if_neg h]
theorem res_congr {p q : Prop} (h : p ↔ q) : res p = res q := by unfold res; rw [propext h]
theorem refCheck_l2 {S N : List Int} {O : List TO} (hl : O.length ≤ 256) : ∀ (r : List TO) (i : Nat) (p : Option (Int × Int)), O.drop i = r → (i = 0 ∧ p = none ∨ ∃ j v, i = j + 1 ∧ O[j]? = some v ∧ p = some (v.1, v.2.1)) → ref23_Check_l2 i S O N = res (chkR S p r) := by
  intro r
  induction r with
  | nil =>
    intro i p h _
    have h0 := at_nil h
    rw [ref23_Check_l2_eq, ilen_eq, decide_eq_false (by omega)]
    exact (res_yes trivial).symm
  | cons o r ih =>
    intro i p h hp
    obtain ⟨k1, k2, k3⟩ := at_drop h
    rw [ref23_Check_l2_eq]
    simp only [ilen_eq]
    rw [decide_eq_true (show (i : Int) < (O.length : Int) by omega), decide_eq_true (show (0 : Int) ≤ i by omega)]
    simp only [cond_true, Int.toNat_natCast, k2, Option.bind_some]
    by_cases b1 : o.1 < 0
    · rw [decide_eq_true b1]
      exact (res_no fun h => by have := h.1.1; omega).symm
    by_cases b2 : o.1 ≥ (S.length : Int)
    · rw [decide_eq_false b1, decide_eq_true b2]
      exact (res_no fun h => by have := h.1.2.1; omega).symm
    by_cases b3 : o.2.1 < 1
    · rw [decide_eq_false b1, decide_eq_false b2, decide_eq_true b3]
      exact (res_no fun h => by have := h.1.2.2.1; omega).symm
    by_cases b4 : (o.2.2.length : Int) > 65536
    · rw [decide_eq_false b1, decide_eq_false b2, decide_eq_false b3, decide_eq_true b4]
      exact (res_no fun h => by have := h.1.2.2.2; omega).symm
    rw [decide_eq_false b1, decide_eq_false b2, decide_eq_false b3, decide_eq_false b4]
    simp only [cond_false]
    have hb : bnd S.length o := ⟨by omega, by omega, by omega, by omega⟩
    have hs := sAt_get (S := S) (t := o.1) (by omega) (by omega)
    have hnext := ih (i + 1) (some (o.1, o.2.1)) k3 (.inr ⟨i, o, rfl, k2, rfl⟩)
    have hw : W64 ((O.length : Int) - 1) = (O.length : Int) - 1 := wrap_i64 (by omega) (by omega)
    have h0o : decide (0 ≤ o.1) = true := decide_eq_true (by omega)
    have tail : (bif (i : Int) == W64 ((O.length : Int) - 1) then bif decide (0 ≤ o.1) then (S[Int.toNat o.1]?).bind fun v => bif o.2.1 != v then some (1 : Int) else ref23_Check_l2 (W64 ((i : Int) + 1)) S O N else none
        else bif decide (0 ≤ W64 ((i : Int) + 1)) then (O[(W64 ((i : Int) + 1)).toNat]?).bind fun o2 => bif o2.1 != o.1 then bif decide (0 ≤ o.1) then (S[Int.toNat o.1]?).bind fun v => bif o.2.1 != v then some (1 : Int) else ref23_Check_l2 (W64 ((i : Int) + 1)) S O N else none else ref23_Check_l2 (W64 ((i : Int) + 1)) S O N else none)
        = res (lastOk S (o.1, o.2.1) r ∧ chkR S (some (o.1, o.2.1)) r) := by
      have hw2 : W64 ((i : Int) + 1) = ((i + 1 : Nat) : Int) := wrap_succ (by omega)
      rw [hw, hw2, h0o, hs, hnext]
      simp only [cond_true, Option.bind_some, Int.toNat_natCast]
      have settle : (bif o.2.1 != sAt S o.1 then some 1 else res (chkR S (some (o.1, o.2.1)) r)) = res (o.2.1 = sAt S o.1 ∧ chkR S (some (o.1, o.2.1)) r) := by
        by_cases e : o.2.1 = sAt S o.1
        · rw [bne_no e]; exact res_congr ⟨fun h => ⟨e, h⟩, fun h => h.2⟩
        · rw [bne_yes e]; exact (res_no fun h => e h.1).symm
      rw [settle]
      cases r with
      | nil =>
        have := at_nil k3
        rw [beq_yes (by omega)]
        exact res_congr Iff.rfl
      | cons o2 r2 =>
        obtain ⟨m1, m2, m3⟩ := at_drop k3
        rw [beq_no (by omega), decide_eq_true (by omega), m2]
        simp only [cond_false, cond_true, Option.bind_some]
        by_cases e : o2.1 = o.1
        · rw [bne_no e]; exact res_congr ⟨fun h => ⟨fun hne => absurd e hne, h⟩, fun h => h.2⟩
        · rw [bne_yes e]; exact res_congr ⟨fun h => ⟨fun _ => h.1, h.2⟩, fun h => ⟨h.1 e, h.2⟩⟩
    rcases hp with ⟨rfl, rfl⟩ | ⟨j, v, rfl, hv, rfl⟩
    · rw [decide_eq_false (show ¬ (((0 : Nat) : Int) > 0) by omega)]
      simp only [cond_false]
      exact tail.trans (res_congr ⟨fun h => ⟨hb, trivial, h⟩, fun h => h.2.2⟩)
    · have hj : W64 (((j + 1 : Nat) : Int) - 1) = (j : Int) := by
        have : (((j + 1 : Nat) : Int) - 1) = j := by omega
        rw [this]; exact wrap_i64 (by omega) (by omega)
      rw [decide_eq_true (show ((j + 1 : Nat) : Int) > 0 by omega), show IntKind.i64.wrap (((j + 1 : Nat) : Int) - 1) = (j : Int) from hj, decide_eq_true (show (0 : Int) ≤ j by omega)]
      simp only [cond_true, Int.toNat_natCast, hv, Option.bind_some]
      by_cases c1 : v.1 > o.1
      · rw [decide_eq_true c1]
        exact (res_no fun h => by have := h.2.1.1; simp only at this; omega).symm
      rw [decide_eq_false c1]
      simp only [cond_false]
      by_cases c2 : v.1 = o.1
      · rw [beq_yes c2]
        simp only [cond_true]
        by_cases c3 : W64 (v.2.1 + 1) = o.2.1
        · rw [bne_no c3]
          exact tail.trans (res_congr ⟨fun h => ⟨hb, ⟨by simp only; omega, fun _ => c3⟩, h⟩, fun h => h.2.2⟩)
        · rw [bne_yes c3]
          exact (res_no fun h => c3 (h.2.1.2 c2.symm)).symm
      · rw [beq_no c2]
        exact tail.trans (res_congr ⟨fun h => ⟨hb, ⟨by simp only; omega, fun e => absurd e.symm c2⟩, h⟩, fun h => h.2.2⟩)
/-- What is wrong with a box. -/
noncomputable def checkS (S : List Int) (O : List TO) (N : List Int) : Option Int :=
  if S.length < 1 ∨ S.length > 64 ∨ N.length ≠ S.length ∨ ¬ ((∀ x ∈ S, okN x) ∧ ∀ x ∈ N, okN x) then some 1 else if O.length > 256 then some 6 else res (chk S none O)
theorem ite_iff {α : Type} {p q : Prop} [Decidable p] [Decidable q] (h : p ↔ q) (a b : α) : (if p then a else b) = if q then a else b := by
  by_cases hp : p
  · rw [if_pos hp, if_pos (h.1 hp)]
  · rw [if_neg hp, if_neg fun hq => hp (h.2 hq)]
theorem refCheck_l0 {S N : List Int} {O : List TO} (hl : S.length ≤ 64) (hn : N.length = S.length) : ∀ (r s : List Int) (i : Nat), S.drop i = r → N.drop i = s →
    ref23_Check_l0 i S O N = if (∀ x ∈ r, okN x) ∧ (∀ x ∈ s, okN x) then (if O.length > 256 then some 6 else res (chk S none O)) else some 1 := by
  intro r
  induction r with
  | nil =>
    intro s i h k
    have h0 := at_nil h
    rw [List.drop_eq_nil_of_le (by omega)] at k
    subst k
    rw [ref23_Check_l0_eq, ilen_eq, ilen_eq, decide_eq_false (by omega), if_pos ⟨fun _ h => (by cases h), fun _ h => (by cases h)⟩]
    simp only [cond_false]
    by_cases hO : O.length > 256
    · rw [decide_eq_true (by omega), if_pos hO]; rfl
    · rw [decide_eq_false (by omega), if_neg hO]
      simp only [cond_false]
      have := refCheck_l2 (S := S) (N := N) (by omega) O 0 none rfl (.inl ⟨rfl, rfl⟩)
      rw [Int.natCast_zero] at this
      rw [this]
      exact res_congr ⟨fun h => (chk_iff S O none).2 ⟨fun x h => (by cases h), h⟩, fun h => ((chk_iff S O none).1 h).2⟩
  | cons x r ih =>
    intro s i h k
    obtain ⟨k1, k2, k3⟩ := at_drop h
    obtain ⟨y, t, rfl, q2, q3⟩ := at_both h k hn.symm
    rw [ref23_Check_l0_eq]
    simp only [ilen_eq]
    rw [decide_eq_true (show (i : Int) < (S.length : Int) by omega), decide_eq_true (show (0 : Int) ≤ i by omega)]
    simp only [cond_true, Int.toNat_natCast, k2, q2, Option.bind_some]
    rw [wrap_succ (by omega), ih t (i + 1) k3 q3]
    have e : ((∀ z ∈ x :: r, okN z) ∧ (∀ z ∈ y :: t, okN z)) ↔ okN x ∧ okN y ∧ (∀ z ∈ r, okN z) ∧ (∀ z ∈ t, okN z) := by
      simp only [List.mem_cons, forall_eq_or_imp]
      exact ⟨fun ⟨⟨a, b⟩, c, d⟩ => ⟨a, c, b, d⟩, fun ⟨a, c, b, d⟩ => ⟨⟨a, b⟩, c, d⟩⟩
    rw [ite_iff e]
    have no1 : ¬ okN x → ¬ (okN x ∧ okN y ∧ (∀ z ∈ r, okN z) ∧ (∀ z ∈ t, okN z)) := fun h k => h k.1
    have no2 : ¬ okN y → ¬ (okN x ∧ okN y ∧ (∀ z ∈ r, okN z) ∧ (∀ z ∈ t, okN z)) := fun h k => h k.2.1
    by_cases a1 : x < 0
    · rw [decide_eq_true a1, if_neg (no1 fun h => by have := h.1; omega)]; rfl
    by_cases a2 : x > 1099511627776
    · rw [decide_eq_false a1, decide_eq_true a2, if_neg (no1 fun h => by have := h.2; omega)]; rfl
    by_cases a3 : y < 0
    · rw [decide_eq_false a1, decide_eq_false a2, decide_eq_true a3, if_neg (no2 fun h => by have := h.1; omega)]; rfl
    by_cases a4 : y > 1099511627776
    · rw [decide_eq_false a1, decide_eq_false a2, decide_eq_false a3, decide_eq_true a4, if_neg (no2 fun h => by have := h.2; omega)]; rfl
    rw [decide_eq_false a1, decide_eq_false a2, decide_eq_false a3, decide_eq_false a4]
    simp only [cond_false]
    have a5 : okN x := ⟨by omega, by omega⟩
    have a6 : okN y := ⟨by omega, by omega⟩
    exact ite_iff ⟨fun h => ⟨a5, a6, h⟩, fun h => h.2.2⟩ _ _
theorem refCheck_spec {S N : List Int} {O : List TO} : ref23_Check S O N = checkS S O N := by
  rw [ref23_Check_eq]
  simp only [ilen_eq]
  unfold checkS
  by_cases h1 : S.length < 1
  · rw [decide_eq_true (by omega), if_pos (.inl h1)]; rfl
  by_cases h2 : S.length > 64
  · rw [decide_eq_false (by omega), decide_eq_true (by omega), if_pos (.inr (.inl h2))]; rfl
  by_cases h3 : N.length = S.length
  · rw [decide_eq_false (by omega), decide_eq_false (by omega), bne_no (by omega)]
    simp only [cond_false]
    have := refCheck_l0 (S := S) (N := N) (O := O) (by omega) h3 S N 0 rfl rfl
    rw [Int.natCast_zero] at this
    rw [this]
    by_cases h4 : (∀ x ∈ S, okN x) ∧ ∀ x ∈ N, okN x
    · have hn : ¬ (S.length < 1 ∨ S.length > 64 ∨ N.length ≠ S.length ∨ ¬ ((∀ x ∈ S, okN x) ∧ ∀ x ∈ N, okN x)) := fun h => h.elim h1 fun h => h.elim h2 fun h => h.elim (fun h => h h3) fun h => h h4
      rw [if_pos h4, if_neg hn]
    · rw [if_neg h4, if_pos (.inr (.inr (.inr h4)))]
  · rw [decide_eq_false (by omega), decide_eq_false (by omega), bne_yes (by omega), if_pos (.inr (.inr (.inl h3)))]; rfl
end Go.Proofs.Ytdmfjpcobbkppaa.PE
