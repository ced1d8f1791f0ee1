/- What may be stays so; the laws BoxChecks, BoxDoes, BoxStays. -/
import Derived.Test.YtdmfjpcobbkppaaP23e
namespace Go.Proofs.Ytdmfjpcobbkppaa.PE
set_option linter.unusedVariables false
open Classical
theorem chk_congr {S S' : List Int} (hl : S.length = S'.length) : ∀ {r : List TO} {p : Option (Int × Int)} {t : Int}, (∀ u, t < u → sAt S u = sAt S' u) → (∀ x, p = some x → t < x.1) → (∀ o ∈ r, t < o.1) → chk S p r → chk S' p r
  | [], none, _, _, _, _, _ => trivial
  | [], some x, t, h, hp, _, hc => by
    have : x.2 = sAt S x.1 := hc
    show x.2 = sAt S' x.1
    rw [this, h x.1 (hp x rfl)]
  | o :: r, p, t, h, hp, hr, hc => by
    obtain ⟨h1, h2, h3⟩ : bnd S.length o ∧ relP S p o ∧ chk S (some (o.1, o.2.1)) r := by cases p <;> exact hc
    have ih := chk_congr hl h (p := some (o.1, o.2.1)) (fun x hx => by cases hx; exact hr o (by simp)) (fun y hy => hr y (by simp [hy])) h3
    have h2' : relP S' p o := by
      cases p with
      | none => trivial
      | some x =>
        rcases h2 with h2 | ⟨e1, e2⟩
        · exact .inl h2
        · exact .inr ⟨e1, by rw [e2, h x.1 (hp x rfl)]⟩
    have h1' : bnd S'.length o := by rw [← hl]; exact h1
    cases p <;> exact ⟨h1', h2', ih⟩
/-- Sending keeps the order. -/
theorem chk_ins {S : List Int} {t : Int} {d : List Int} (h0 : 0 ≤ t) (h1 : t < S.length) (hd : (d.length : Int) ≤ 65536) (ho : okN (sAt S t)) (hlt : sAt S t < 1099511627776) : ∀ {r : List TO} {p : Option (Int × Int)}, (∀ x, p = some x → 0 ≤ x.1 ∧ x.1 ≤ t) → chk S p r → chk (S.set t.toNat (sAt S t + 1)) p (ins t (t, sAt S t + 1, d) r) := by
  obtain ⟨o1, o2⟩ := ho
  have hset := sAt_set (v := sAt S t + 1) h0 h1
  have hne : ∀ u, 0 ≤ u → u ≠ t → sAt (S.set t.toNat (sAt S t + 1)) u = sAt S u := fun u hu h => sAt_set_ne h0 hu h
  have hw : W64 (sAt S t + 1) = sAt S t + 1 := wrap_i64 (by omega) (by omega)
  have hb : bnd (S.set t.toNat (sAt S t + 1)).length (t, sAt S t + 1, d) := ⟨h0, by rw [List.length_set]; exact h1, by simp only; omega, hd⟩
  -- behind what is settled
  have rel : ∀ p : Option (Int × Int), (∀ x, p = some x → 0 ≤ x.1 ∧ x.1 ≤ t ∧ x.2 = sAt S x.1) → relP (S.set t.toNat (sAt S t + 1)) p (t, sAt S t + 1, d) := by
    intro p hp
    cases p with
    | none => trivial
    | some x =>
      obtain ⟨a, b, c⟩ := hp x rfl
      by_cases e : x.1 = t
      · exact .inl ⟨e.symm, by rw [c, e]; exact hw⟩
      · exact .inr ⟨by simp only; omega, by rw [c, hne _ a e]⟩
  intro r
  induction r with
  | nil =>
    intro p hp hc
    have hr := rel p fun x hx => by subst hx; exact ⟨(hp x rfl).1, (hp x rfl).2, hc⟩
    have hl : chk (S.set t.toNat (sAt S t + 1)) (some (t, sAt S t + 1)) [] := hset.symm
    rw [ins]
    cases p <;> exact ⟨hb, hr, hl⟩
  | cons o r ih =>
    intro p hp hc
    obtain ⟨k1, k2, k3⟩ : bnd S.length o ∧ relP S p o ∧ chk S (some (o.1, o.2.1)) r := by cases p <;> exact hc
    have k1' : bnd (S.set t.toNat (sAt S t + 1)).length o := by rw [List.length_set]; exact k1
    rw [ins]
    by_cases e : o.1 ≤ t
    · rw [if_pos e]
      have ih := ih (p := some (o.1, o.2.1)) (fun x hx => by cases hx; exact ⟨k1.1, e⟩) k3
      have k2' : relP (S.set t.toNat (sAt S t + 1)) p o := by
        cases p with
        | none => trivial
        | some x =>
          rcases k2 with k2 | ⟨a, b⟩
          · exact .inl k2
          · exact .inr ⟨a, by rw [b, hne _ (hp x rfl).1 (by omega)]⟩
      cases p <;> exact ⟨k1', k2', ih⟩
    · rw [if_neg e]
      have hr := rel p fun x hx => by
        subst hx
        obtain ⟨a, b⟩ := hp x rfl
        rcases k2 with ⟨c, _⟩ | ⟨_, c⟩
        · omega
        · exact ⟨a, b, c⟩
      have hgt : ∀ y ∈ r, t < y.1 := fun y hy => by have := (chk_each k3).2 _ rfl y hy; simp only at this; omega
      have hrest : chk (S.set t.toNat (sAt S t + 1)) (some (o.1, o.2.1)) r := chk_congr (by rw [List.length_set]) (t := t) (fun u hu => (hne u (by omega) (by omega)).symm) (fun x hx => by cases hx; simp only; omega) hgt k3
      have hmid : relP (S.set t.toNat (sAt S t + 1)) (some (t, sAt S t + 1)) o := .inr ⟨by simp only; omega, hset.symm⟩
      cases p <;> exact ⟨hb, hr, k1', hmid, hrest⟩
theorem W_pos {q r : Int} (h : 1 ≤ q ∧ q ≤ 9223372036854775807) (e : W64 (q + 1) = r) (hr : 1 ≤ r) : r = q + 1 := by
  rw [W_val h] at e
  split at e <;> omega
/-- Nothing more goes, once one of there stays, or a later one. -/
theorem keep_all {S : List Int} {t q : Int} : ∀ {r : List TO} {x : Int × Int}, (∀ o ∈ r, R64 o.2.1) → 1 ≤ x.2 ∧ x.2 ≤ 9223372036854775807 → (t < x.1 ∨ x.1 = t ∧ q < x.2) → chk S (some x) r → r.filter (keep t q) = r
  | [], _, _, _, _, _ => rfl
  | o :: r, x, hr, hx, h, hc => by
    obtain ⟨k1, k2, k3⟩ : bnd S.length o ∧ relP S (some x) o ∧ chk S (some (o.1, o.2.1)) r := hc
    have ho := hr o (by simp)
    have hk : t < o.1 ∨ o.1 = t ∧ q < o.2.1 := by
      rcases k2 with ⟨a, b⟩ | ⟨a, b⟩
      · have := W_pos hx b k1.2.2.1
        omega
      · omega
    rw [List.filter_cons, keep_yes (by omega), if_pos rfl, keep_all (x := (o.1, o.2.1)) (fun y hy => hr y (by simp [hy])) ⟨k1.2.2.1, ho.2⟩ hk k3]
/-- What is known to be there goes: behind what was taken away. -/
theorem chk_gone {S : List Int} {t q : Int} (hS : q ≤ sAt S t) : ∀ {r : List TO} {d : Int} {p : Option (Int × Int)}, (∀ o ∈ r, R64 o.2.1) → 1 ≤ d → d ≤ q → d ≤ 9223372036854775807 → (∀ x, p = some x → x.1 < t ∧ x.2 = sAt S x.1) → chk S (some (t, d)) r → chk S p (r.filter (keep t q))
  | [], d, p, _, _, _, _, hp, hc => by
    cases p with
    | none => trivial
    | some x => exact (hp x rfl).2
  | o :: r, d, p, hr, hd1, hd2, hd3, hp, hc => by
    obtain ⟨k1, k2, k3⟩ : bnd S.length o ∧ relP S (some (t, d)) o ∧ chk S (some (o.1, o.2.1)) r := hc
    have ho := hr o (by simp)
    have hr' : ∀ y ∈ r, R64 y.2.1 := fun y hy => hr y (by simp [hy])
    by_cases e : o.1 = t ∧ o.2.1 ≤ q
    · rw [List.filter_cons, keep_no e, if_neg (by decide)]
      refine chk_gone hS (d := o.2.1) hr' k1.2.2.1 e.2 ho.2 hp ?_
      rw [← e.1]; exact k3
    · have hk : t < o.1 ∨ o.1 = t ∧ q < o.2.1 := by
        rcases k2 with ⟨a, b⟩ | ⟨a, b⟩
        · simp only at a; omega
        · simp only at a; omega
      rw [List.filter_cons, keep_yes e, if_pos rfl, keep_all (x := (o.1, o.2.1)) hr' ⟨k1.2.2.1, ho.2⟩ hk k3]
      have hrel : relP S p o := by
        cases p with
        | none => trivial
        | some x => exact .inr ⟨by have := (hp x rfl).1; omega, (hp x rfl).2⟩
      cases p <;> exact ⟨k1, hrel, k3⟩
theorem chk_ack {S : List Int} {t q : Int} (hS : q ≤ sAt S t) : ∀ {r : List TO} {p : Option (Int × Int)}, (∀ o ∈ r, R64 o.2.1) → (∀ x, p = some x → x.1 < t) → chk S p r → chk S p (r.filter (keep t q))
  | [], p, _, _, hc => hc
  | o :: r, p, hr, hp, hc => by
    obtain ⟨k1, k2, k3⟩ : bnd S.length o ∧ relP S p o ∧ chk S (some (o.1, o.2.1)) r := by cases p <;> exact hc
    have ho := hr o (by simp)
    have hr' : ∀ y ∈ r, R64 y.2.1 := fun y hy => hr y (by simp [hy])
    by_cases e : o.1 = t ∧ o.2.1 ≤ q
    · rw [List.filter_cons, keep_no e, if_neg (by decide)]
      refine chk_gone hS (d := o.2.1) hr' k1.2.2.1 e.2 ho.2 (fun x hx => ?_) (by rw [← e.1]; exact k3)
      subst hx
      have := hp x rfl
      rcases k2 with ⟨a, _⟩ | ⟨_, a⟩
      · omega
      · exact ⟨this, a⟩
    · rw [List.filter_cons, keep_yes e, if_pos rfl]
      have hrest : chk S (some (o.1, o.2.1)) (r.filter (keep t q)) := by
        by_cases hlt : o.1 < t
        · exact chk_ack hS hr' (fun x hx => by cases hx; exact hlt) k3
        · rw [keep_all (x := (o.1, o.2.1)) hr' ⟨k1.2.2.1, ho.2⟩ (by simp only; omega) k3]
          exact k3
      cases p <;> exact ⟨k1, k2, hrest⟩
theorem v_take {S N : List Int} {O : List TO} (h : V S O N) {f q : Int} (h0 : 0 ≤ f) (hq : okN q) : V S O (N.set f.toNat q) :=
  ⟨h.s1, h.s2, by rw [List.length_set]; exact h.n, h.oS, fun x hx => (List.mem_or_eq_of_mem_set hx).elim (h.oN x) fun e => e ▸ hq, h.o, h.c⟩
theorem v_ack {S N : List Int} {O : List TO} (h : V S O N) (hr : ∀ o ∈ O, R64 o.2.1) {t q : Int} (hq : q ≤ sAt S t) : V S (O.filter (keep t q)) N :=
  ⟨h.s1, h.s2, h.n, h.oS, h.oN, by have := List.length_filter_le (keep t q) O; have := h.o; omega, chk_ack hq hr (fun x hx => by cases hx) h.c⟩
theorem v_send {S N : List Int} {O : List TO} (h : V S O N) {t : Int} {d : List Int} (h0 : 0 ≤ t) (h1 : t < S.length) (hd : (d.length : Int) ≤ 65536) (ho : O.length < 256) (hlt : sAt S t < 1099511627776) : V (S.set t.toNat (sAt S t + 1)) (ins t (t, sAt S t + 1, d) O) N := by
  have hk := okAt h.oS h0 h1
  refine ⟨by rw [List.length_set]; exact h.s1, by rw [List.length_set]; exact h.s2, by rw [List.length_set]; exact h.n, fun x hx => (List.mem_or_eq_of_mem_set hx).elim (h.oS x) fun e => e ▸ ⟨by have := hk.1; omega, by omega⟩, h.oN, by rw [ins_len]; omega, chk_ins h0 h1 hd hk hlt (fun x hx => by cases hx) h.c⟩
theorem check_v {S N : List Int} {O : List TO} (h : V S O N) (hr : ∀ o ∈ O, R64 o.2.1) : box_Check S O N = some 0 := by
  have hs := h.sm
  rw [check_spec ⟨by have := hs.1; omega, by have := hs.2.1; omega, by have := hs.2.2.1; omega, fun e he => by have := hs.2.2.2 e he; omega⟩ hr]
  exact v_iff.2 h
theorem ins_mem {t : Int} {v : TO} : ∀ {O : List TO} {x : TO}, x ∈ ins t v O → x = v ∨ x ∈ O
  | [], x, h => .inl (List.mem_singleton.1 h)
  | o :: r, x, h => by
    rw [ins] at h
    split at h
    · rcases List.mem_cons.1 h with rfl | h
      · exact .inr (by simp)
      · exact (ins_mem h).imp id fun h => by simp [h]
    · rcases List.mem_cons.1 h with rfl | h
      · exact .inl rfl
      · exact .inr h
theorem may_spec {S N : List Int} {O : List TO} (hb : Big S O N) : ∃ b, law23_may S O N = some b ∧ (b = true → V S O N) := by
  obtain ⟨b, h1, h2⟩ := lightB_spec hb
  rw [law23_may_eq, h1, refCheck_spec]
  simp only [Option.bind_some]
  cases b with
  | false => exact ⟨false, rfl, fun h => by cases h⟩
  | true =>
    have hc : ∃ k, checkS S O N = some k := by
      unfold checkS
      split
      · exact ⟨_, rfl⟩
      · split
        · exact ⟨_, rfl⟩
        · unfold res; exact ⟨_, rfl⟩
    obtain ⟨k, hk⟩ := hc
    rw [hk]
    refine ⟨k == 0, rfl, fun h => ?_⟩
    have : k = 0 := by simpa using h
    exact v_iff.1 (by rw [hk, this])
end Go.Proofs.Ytdmfjpcobbkppaa.PE
