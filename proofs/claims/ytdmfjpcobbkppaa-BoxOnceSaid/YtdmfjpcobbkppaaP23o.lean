/- Each once, in order. -/
import Derived.Test.YtdmfjpcobbkppaaP23w
namespace Go.Proofs.Ytdmfjpcobbkppaa.PE
set_option linter.unusedVariables false
open Classical
theorem seen_spec {S N : List Int} {O : List TO} {k : Int} (h : N.getD 0 0 = k) : law23_seen S O N = some k := by
  rw [law23_seen_eq, ilen_eq]
  cases N with
  | nil => rw [← h]; rfl
  | cons x r =>
    rw [beq_no (by simp only [List.length_cons]; omega), ← h]; rfl
theorem begins_l0 {a b : List (List Int)} (hs : a.length ≤ 1000000) (hp : ∀ (i : Nat) (x : List Int), a[i]? = some x → b[i]? = some x) : ∀ (r : List (List Int)) (i : Nat), a.drop i = r → law23_begins_l0 a b i = some true := by
  intro r
  induction r with
  | nil =>
    intro i h
    have h0 := at_nil h
    rw [law23_begins_l0_eq, ilen_eq, decide_eq_false (by omega)]; rfl
  | cons x r ih =>
    intro i h
    obtain ⟨k1, k2, k3⟩ := at_drop h
    rw [law23_begins_l0_eq, ilen_eq, decide_eq_true (show (i : Int) < (a.length : Int) by omega), decide_eq_true (show (0 : Int) ≤ i by omega)]
    simp only [cond_true, Int.toNat_natCast, k2, hp i x k2, Option.bind_some, ref02_Same_eq]
    rw [beq_yes rfl, wrap_succ (by omega)]
    exact ih (i + 1) k3
/-- What was taken is a beginning of what was sent. -/
def Pre (a b : List (List Int)) : Prop := a.length ≤ b.length ∧ ∀ (i : Nat) (x : List Int), a[i]? = some x → b[i]? = some x
theorem begins_spec {a b : List (List Int)} (hs : a.length ≤ 1000000) (hp : Pre a b) : law23_begins a b = some true := by
  have := begins_l0 hs hp.2 a 0 rfl
  rw [Int.natCast_zero] at this
  rw [law23_begins_eq, ilen_eq, ilen_eq, decide_eq_false (by have := hp.1; omega), this]; rfl
theorem pre_grow {a b : List (List Int)} {x : List Int} (h : Pre a b) : Pre a (b ++ [x]) := by
  refine ⟨by rw [List.length_append]; have := h.1; omega, fun i y hy => ?_⟩
  rw [List.getElem?_append_left (by have := (List.getElem?_eq_some_iff.1 (h.2 i y hy)).1; omega)]
  exact h.2 i y hy
theorem pre_take {a b : List (List Int)} {x : List Int} (h : Pre a b) (hx : b[a.length]? = some x) : Pre (a ++ [x]) b := by
  have hlt := (List.getElem?_eq_some_iff.1 hx).1
  refine ⟨by rw [List.length_append]; simp only [List.length_cons, List.length_nil]; omega, fun i y hy => ?_⟩
  rcases Nat.lt_trichotomy i a.length with e | e | e
  · rw [List.getElem?_append_left e] at hy; exact h.2 i y hy
  · subst e
    rw [List.getElem?_append_right (Nat.le_refl _), Nat.sub_self] at hy
    cases hy; exact hx
  · rw [List.getElem?_eq_none (by rw [List.length_append]; simp only [List.length_cons, List.length_nil]; omega)] at hy; cases hy
/-- What is on its way: from a number on, each with what was sent by that number. -/
def Way (sent : List (List Int)) : Nat → List TO → Prop
  | j, [] => j = sent.length
  | j, o :: r => o.1 = 1 ∧ o.2.1 = ((j + 1 : Nat) : Int) ∧ sent[j]? = some o.2.2 ∧ Way sent (j + 1) r
theorem way_each {sent : List (List Int)} : ∀ {r : List TO} {j : Nat}, Way sent j r → ∀ o ∈ r, o.1 = 1 ∧ ∃ k : Nat, j ≤ k ∧ o.2.1 = ((k + 1 : Nat) : Int) ∧ sent[k]? = some o.2.2
  | o :: r, j, h, x, hx => by
    obtain ⟨h1, h2, h3, h4⟩ := h
    rcases List.mem_cons.1 hx with rfl | hx
    · exact ⟨h1, j, Nat.le_refl _, h2, h3⟩
    · obtain ⟨a, k, b, c⟩ := way_each h4 x hx
      exact ⟨a, k, by omega, c⟩
theorem way_grow {sent : List (List Int)} {d : List Int} : ∀ {r : List TO} {j : Nat}, Way sent j r → Way (sent ++ [d]) j (r ++ [(1, ((sent.length + 1 : Nat) : Int), d)])
  | [], j, h => by
    have h : j = sent.length := h
    subst h
    refine ⟨rfl, rfl, ?_, ?_⟩
    · rw [List.getElem?_append_right (Nat.le_refl _), Nat.sub_self]; rfl
    · show _ = (sent ++ [d]).length
      rw [List.length_append]; rfl
  | o :: r, j, h => by
    obtain ⟨h1, h2, h3, h4⟩ := h
    exact ⟨h1, h2, by rw [List.getElem?_append_left (List.getElem?_eq_some_iff.1 h3).1]; exact h3, way_grow h4⟩
theorem insLast {t : Int} {v : TO} : ∀ {O : List TO}, (∀ o ∈ O, o.1 ≤ t) → ins t v O = O ++ [v]
  | [], _ => rfl
  | o :: r, h => by
    rw [ins, if_pos (h o (by simp)), insLast fun x hx => h x (by simp [hx])]; rfl
theorem way_ack {sent : List (List Int)} {q : Int} : ∀ {r : List TO} {j : Nat}, Way sent j r → ∃ j', Way sent j' (r.filter (keep 1 q)) ∧ (j' = j ∨ (j' : Int) ≤ q ∧ j ≤ j')
  | [], j, h => ⟨j, h, .inl rfl⟩
  | o :: r, j, h => by
    obtain ⟨h1, h2, h3, h4⟩ := h
    by_cases e : o.2.1 ≤ q
    · obtain ⟨j', k1, k2⟩ := way_ack (q := q) h4
      rw [List.filter_cons, keep_no ⟨h1, e⟩, if_neg (by decide)]
      refine ⟨j', k1, .inr ?_⟩
      rcases k2 with rfl | k2 <;> omega
    · have hall : r.filter (keep 1 q) = r := List.filter_eq_self.2 fun x hx => by
        obtain ⟨_, k, b, c, _⟩ := way_each h4 x hx
        exact keep_yes fun h => by omega
      rw [List.filter_cons, keep_yes fun h => e h.2, if_pos rfl, hall]
      exact ⟨j, ⟨h1, h2, h3, h4⟩, .inl rfl⟩
theorem pend_all {sent : List (List Int)} : ∀ {r : List TO} {j : Nat} {a : List TO}, Way sent j r → a.length + r.length < 300 → pend 1 300 a r = a ++ r
  | [], j, a, _, _ => by rw [pend, List.append_nil]
  | o :: r, j, a, h, hl => by
    simp only [List.length_cons] at hl
    rw [pend, if_pos ⟨h.1, by omega⟩, pend_all h.2.2.2 (by rw [List.length_append]; simp only [List.length_cons, List.length_nil]; omega), List.append_assoc]; rfl
/-- How both stand: the sender's box, the receiver's, what was sent, what was taken, which answers there were. -/
structure Inv2 (n : Nat) (Sa Na Sb Nb : List Int) (Oa Ob : List TO) (sent got : List (List Int)) (acks : List Int) : Prop where
  sa : Sa = [0, (sent.length : Int)]
  na : Na = [0, 0]
  nb : Nb = [(got.length : Int), 0]
  sb : Sb = [0, 0]
  ob : Ob = []
  way : ∃ j, Way sent j Oa ∧ j ≤ got.length
  pre : Pre got sent
  len : sent.length ≤ n
  al : acks.length ≤ n
  oa : Oa.length ≤ 256
  dat : ∀ x ∈ sent, x.length ≤ 30
  ack : ∀ x ∈ acks, 0 ≤ x ∧ x ≤ (got.length : Int)
section
variable {n : Nat} {Sa Na Sb Nb : List Int} {Oa Ob : List TO} {sent got : List (List Int)} {acks : List Int}
theorem way_len : ∀ {r : List TO} {j : Nat}, Way sent j r → j + r.length = sent.length
  | [], j, h => h
  | o :: r, j, h => by have := way_len h.2.2.2; simp only [List.length_cons]; omega
theorem Inv2.smA (h : Inv2 n Sa Na Sb Nb Oa Ob sent got acks) : Sm Sa Oa Na := by
  obtain ⟨j, hw, _⟩ := h.way
  refine ⟨by rw [h.sa]; simp, by rw [h.na]; simp, by have := h.oa; omega, fun e he => ?_⟩
  obtain ⟨_, k, _, _, hk⟩ := way_each hw e he
  have := h.dat _ (List.mem_of_getElem? hk)
  omega
theorem Inv2.smB (h : Inv2 n Sa Na Sb Nb Oa Ob sent got acks) : Sm Sb Ob Nb := by
  rw [h.sb, h.nb, h.ob]
  exact ⟨by decide, by simp, by decide, fun _ h => by cases h⟩
theorem Inv2.okA (h : Inv2 n Sa Na Sb Nb Oa Ob sent got acks) (hn : n ≤ 1000) : ∀ x ∈ Sa, okN x := by
  rw [h.sa]
  have := h.len
  intro x hx
  simp at hx
  rcases hx with rfl | rfl
  · exact okN0
  · exact ⟨by omega, by omega⟩
theorem Inv2.okB (h : Inv2 n Sa Na Sb Nb Oa Ob sent got acks) (hn : n ≤ 1000) : ∀ x ∈ Nb, okN x := by
  rw [h.nb]
  have := h.len
  have := h.pre.1
  intro x hx
  simp at hx
  rcases hx with rfl | rfl
  · exact ⟨by omega, by omega⟩
  · exact okN0
/-- Something comes. -/
theorem take_one (h : Inv2 n Sa Na Sb Nb Oa Ob sent got acks) (hn : n ≤ 1000) {o : TO} {k : Nat} (ho : o.2.1 = ((k + 1 : Nat) : Int)) (hs : sent[k]? = some o.2.2) : ∃ got' Nb', law23_take Sb Ob Nb o.1 o.2.1 o.2.2 got = some (Sb, Ob, Nb', got') ∧ Inv2 n Sa Na Sb Nb' Oa Ob sent got' acks ∧ got.length ≤ got'.length ∧ (k ≤ got.length → k + 1 ≤ got'.length) := by
  have hlen := h.len
  have hpre := h.pre.1
  have hk := (List.getElem?_eq_some_iff.1 hs).1
  have hat : sAt Nb 0 = got.length := by rw [h.nb]; rfl
  have hnl : Nb.length = 2 := by rw [h.nb]; rfl
  rw [law23_take_eq, take_spec h.smB (h.okB hn)]
  simp only [Option.bind_some]
  unfold takeS
  rw [if_neg (by rw [hnl]; omega), if_neg (by omega), hat]
  by_cases e : o.2.1 > (got.length : Int) + 1
  · rw [if_pos e]
    exact ⟨got, Nb, rfl, h, Nat.le_refl _, fun hk => by omega⟩
  rw [if_neg e]
  by_cases e2 : o.2.1 ≤ (got.length : Int)
  · rw [if_pos e2]
    exact ⟨got, Nb, rfl, h, Nat.le_refl _, fun hk => by omega⟩
  rw [if_neg e2]
  have hkg : k = got.length := by omega
  have hroom : decide ((ilen got + ilen [o.2.2]) * 24 ≤ room) = true := by
    rw [ilen_eq, ilen_eq]
    exact decide_eq_true (by rw [room_eq]; simp only [List.length_cons, List.length_nil]; omega)
  refine ⟨got ++ [o.2.2], Nb.set (Int.toNat 0) o.2.1, ?_, ?_, by rw [List.length_append]; omega, fun hk => by rw [List.length_append]; simp only [List.length_cons, List.length_nil]; omega⟩
  · simp only []
    rw [bne_no rfl]
    simp only [cond_false, cond_true]
    rw [hroom]
    rfl
  · obtain ⟨j, hw, hj⟩ := h.way
    refine ⟨h.sa, h.na, ?_, h.sb, h.ob, ⟨j, hw, by rw [List.length_append]; omega⟩, pre_take h.pre (by rw [← hkg]; exact hs), h.len, h.al, h.oa, h.dat, fun x hx => ?_⟩
    · rw [h.nb, ho, hkg, List.length_append]; rfl
    · have := h.ack x hx
      rw [List.length_append]; simp only [List.length_cons, List.length_nil]; omega
end
theorem once_l5 {n : Nat} {Sa Na Sb : List Int} {Oa Ob : List TO} {sent : List (List Int)} {acks : List Int} (hn : n ≤ 1000) (hO : Oa.length ≤ 256) : ∀ (r : List TO) (i : Nat) (Nb : List Int) (got : List (List Int)) (j : Nat), Oa.drop i = r → Inv2 n Sa Na Sb Nb Oa Ob sent got acks → Way sent j r → j ≤ got.length →
    law23_BoxOnce_l5 Oa i Sb Ob Nb sent got = some true := by
  intro r
  induction r with
  | nil =>
    intro i Nb got j h hi hw hj
    have h0 := at_nil h
    have hw : j = sent.length := hw
    have hp := hi.pre.1
    have hl := hi.len
    rw [law23_BoxOnce_l5_eq, ilen_eq, ilen_eq, ilen_eq, decide_eq_false (by omega), beq_yes (by omega), begins_spec (by omega) hi.pre, works23]
    rfl
  | cons o r ih =>
    intro i Nb got j h hi hw hj
    obtain ⟨k1, k2, k3⟩ := at_drop h
    obtain ⟨h1, h2, h3, h4⟩ := hw
    obtain ⟨got', Nb', q1, q2, q3, q4⟩ := take_one hi hn h2 h3
    rw [law23_BoxOnce_l5_eq, ilen_eq, decide_eq_true (show (i : Int) < (Oa.length : Int) by omega), decide_eq_true (show (0 : Int) ≤ i by omega)]
    simp only [cond_true, Int.toNat_natCast, k2, Option.bind_some, q1]
    rw [wrap_succ (by omega)]
    exact ih (i + 1) Nb' got' (j + 1) k3 q2 h4 (q4 hj)
end Go.Proofs.Ytdmfjpcobbkppaa.PE
