/- Jobs: the law that a job is with one at a time. -/
import Derived.Test.YtknmnhkocdnnhaaP19h
namespace Go.Proofs.Ytknmnhkocdnnhaa.PE
set_option linter.unusedVariables false
open Go Go.RowKit Go.Proofs.Ytknmnhkocdnnhaa.Pack
def a19 : ByteArray := ⟨#[97]⟩
def b19 : ByteArray := ⟨#[98]⟩
theorem one_l2 {y0 y1 y2 : Int} {l1 g1 l2 g2 : List J} {i : Nat} {j : J} (hj : g1[i]? = some j) (hn : g2.length ≤ 1000000) : ∀ (r : List J) (q : Nat) (b : Bool), g2.drop q = r → q ≤ g2.length →
    law19_JobsOne_l2 y0 y1 y2 i b q l1 g1 l2 g2 = law19_JobsOne_l2 y0 y1 y2 i (b || r.any fun x => x.1 == j.1) g2.length l1 g1 l2 g2 := by
  intro r
  induction r with
  | nil =>
    intro q b h hq
    have h1 := at_nil h
    rw [List.any_nil, Bool.or_false, show q = g2.length by omega]
  | cons x r ih =>
    intro q b h hq
    obtain ⟨h1, h2, h3⟩ := at_drop h
    have hi := (List.getElem?_eq_some_iff.1 hj).1
    rw [law19_JobsOne_l2_eq, ilen_eq, wrap_succ (by omega)]
    rw [decide_eq_true (show ((q : Nat) : Int) < _ by omega), cond_true]
    cases b with
    | true => rw [cond_true, ih (q + 1) true h3 (by omega), Bool.true_or, Bool.true_or]
    | false =>
      rw [cond_false, cond_true, Int.toNat_natCast, Int.toNat_natCast, h2, Option.bind_some, hj, Option.bind_some, ih (q + 1) _ h3 (by omega), decide_eq_true (show (0 : Int) ≤ (q : Int) by omega), cond_true, decide_eq_true (show (0 : Int) ≤ (i : Int) by omega), cond_true, ilen_eq, decide_eq_true (show (i : Int) < _ by omega), cond_true, List.any_cons, Bool.false_or]
theorem one_l0 {y0 y1 y2 : Int} {l1 g1 l2 g2 : List J} (hn1 : g1.length ≤ 1000000) (hn : g2.length ≤ 1000000)
    (hA : ∀ j ∈ g1, ∃ D, jobs_Done l1 j.1 a19 y1 = some D ∧ (D.2.2.2.2.2.2.2.2 == 0) = decide (y1 < y0))
    (hB : y1 < y0 → ∀ j ∈ g1, (g2.any fun x => x.1 == j.1) = false)
    (hC : y2 = 0 → ∀ j ∈ g1, (g2.any fun x => x.1 == j.1) = true → ∃ D, jobs_Done l2 j.1 a19 y1 = some D ∧ (D.2.2.2.2.2.2.2.2 == 0) = false) :
    ∀ (r : List J) (i : Nat), g1.drop i = r → law19_JobsOne_l0 y0 y1 y2 i l1 g1 l2 g2 = some true := by
  intro r
  induction r with
  | nil =>
    intro i h
    have h1 := at_nil h
    rw [law19_JobsOne_l0_eq, ilen_eq, decide_eq_false (by omega), cond_false, wks]
  | cons j r ih =>
    intro i h
    obtain ⟨h1, h2, h3⟩ := at_drop h
    have hm := List.mem_of_getElem? h2
    have hq := one_l2 (y0 := y0) (y1 := y1) (y2 := y2) (l1 := l1) (l2 := l2) h2 hn g2 0 false rfl (Nat.zero_le _)
    rw [Int.natCast_zero, Bool.false_or] at hq
    rw [law19_JobsOne_l0_eq, ilen_eq, decide_eq_true (by omega), cond_true, hq, law19_JobsOne_l2_eq, ilen_eq, decide_eq_false (by omega), cond_false]
    obtain ⟨D, d1, d2⟩ := hA j hm
    have hnext := ih (i + 1) h3
    rw [show (⟨#[97]⟩ : ByteArray) = a19 from rfl, Int.toNat_natCast, h2, Option.bind_some, d1, Option.bind_some, d2, wrap_succ (by omega), hnext, ilen_eq, decide_eq_true (show (0 : Int) ≤ (i : Int) by omega), decide_eq_true (show (i : Int) < _ by omega)]
    have hl : ∀ (o : Bool), (bif y2 == 0 then bif (g2.any fun x => x.1 == j.1) then (jobs_Done l2 j.1 a19 y1).bind fun v : List J × Int × Int × Int × ByteArray × Int × ByteArray × Int × Int => bif v.2.2.2.2.2.2.2.2 == 0 then some false else some true else some true else some true) = some true := fun _ => by
      by_cases e : y2 = 0
      · rw [beq_yes e, cond_true]
        cases ha : (g2.any fun x => x.1 == j.1) with
        | false => rfl
        | true =>
          obtain ⟨E, e1, e2⟩ := hC e j hm ha
          rw [e1, cond_true, Option.bind_some, e2]
          rfl
      · rw [beq_no e]; rfl
    by_cases k : y1 < y0
    · rw [decide_eq_true k, hB k j hm]
      cases (y2 == 0) <;> rfl
    · rw [decide_eq_false k]
      exact hl true
theorem ok_lend {j : J} {w : ByteArray} {u : Int} (h : okJ j = true) (ht : j.2.2.2.2.1 > 0) (hw : nameS w = true) (he : E0 w = false) (h0 : 0 ≤ u) (h1 : u ≤ 1099511627776) : okJ (lendJ j w u) = true := by
  obtain ⟨a, b, c, kd, tr, s, v⟩ := j
  obtain ⟨f1, f2, f3, f4⟩ := ok_fields h
  have hrg := okJ_range h
  have g1 : tr > 0 := ht
  have g2 : tr ≤ 9 := hrg.2.2.2.1
  rw [lendJ, okJ, f1, f2, f3, f4, in_yes (a := tr) (by omega) g2, in_yes h0 h1, he, hw, decide_eq_true ht]
  rfl
theorem free_tries {kind : ByteArray} {now : Int} {j : J} (h : freeS kind now j = true) : j.2.2.2.2.1 > 0 := by
  rw [freeS, Bool.and_eq_true, Bool.and_eq_true, decide_eq_true_eq] at h
  exact h.2.1
theorem lendGo_rising {kind w : ByteArray} {now u : Int} (hw : nameS w = true) (he : E0 w = false) (h0 : 0 ≤ u) (h1 : u ≤ 1099511627776) : ∀ (r : List J) (n : Nat) (last : Int), rising last r = true → rising last (lendGo kind w now u n r).2 = true
  | [], _, _, _ => rfl
  | j :: r, n, last, h => by
    simp only [rising, Bool.and_eq_true, decide_eq_true_eq] at h
    rw [lendGo]
    cases hf : (decide (0 < n) && freeS kind now j) with
    | true =>
      rw [Bool.and_eq_true] at hf
      have := lendGo_rising (kind := kind) (now := now) hw he h0 h1 r (n - 1) j.1 h.2.2
      rw [cond_true, rising, ok_lend h.1 (free_tries hf.2) hw he h0 h1, Bool.true_and, Bool.and_eq_true, decide_eq_true_eq]
      exact ⟨h.2.1, this⟩
    | false =>
      have := lendGo_rising (kind := kind) (now := now) hw he h0 h1 r n j.1 h.2.2
      rw [cond_false, rising, h.1, Bool.true_and, Bool.and_eq_true, decide_eq_true_eq]
      exact ⟨h.2.1, this⟩
theorem lendGo_mem {kind w : ByteArray} {now u : Int} : ∀ (r : List J) (n : Nat) (y : J), y ∈ (lendGo kind w now u n r).1 → y ∈ (lendGo kind w now u n r).2 ∧ ∃ x ∈ r, freeS kind now x = true ∧ y = lendJ x w u
  | [], _, y, h => by cases h
  | j :: r, n, y, h => by
    rw [lendGo] at h ⊢
    cases hf : (decide (0 < n) && freeS kind now j) with
    | true =>
      rw [hf, cond_true] at h
      rw [Bool.and_eq_true] at hf
      rw [cond_true]
      rcases List.mem_cons.1 h with rfl | h
      · exact ⟨List.mem_cons_self .., j, List.mem_cons_self .., hf.2, rfl⟩
      · obtain ⟨p, x, hx, q⟩ := lendGo_mem r (n - 1) y h
        exact ⟨List.mem_cons_of_mem _ p, x, List.mem_cons_of_mem _ hx, q⟩
    | false =>
      rw [hf, cond_false] at h
      rw [cond_false]
      obtain ⟨p, x, hx, q⟩ := lendGo_mem r n y h
      exact ⟨List.mem_cons_of_mem _ p, x, List.mem_cons_of_mem _ hx, q⟩
theorem rising_uniq {l : List J} {last : Int} (hr : rising last l = true) {x y : J} (hx : x ∈ l) (hy : y ∈ l) (h : x.1 = y.1) : x = y := by
  obtain ⟨p, hp⟩ := List.getElem?_of_mem hx
  obtain ⟨q, hq⟩ := List.getElem?_of_mem hy
  rcases Nat.lt_trichotomy p q with e | e | e
  · have := rising_lt hr _ _ _ _ hp hq e; omega
  · subst e; rw [hp] at hq; cases hq; rfl
  · have := rising_lt hr _ _ _ _ hq hp e; omega
theorem get_mem {l : List J} {last : Int} (hr : rising last l = true) {x : J} (hx : x ∈ l) : get x.1 l = some x := by
  rw [← find_get hr]
  cases hf : l.find? (fun j => j.1 == x.1) with
  | none =>
    have := List.find?_eq_none.1 hf x hx
    simp at this
  | some y =>
    have h1 := List.mem_of_find?_eq_some hf
    have h2 := List.find?_some hf
    rw [rising_uniq hr h1 hx (eq_of_beq h2)]
theorem done_code {l : List J} {t now : Int} {who : ByteArray} (hl : l.length ≤ 1000) (hr : rising 0 l = true) : ∃ D, jobs_Done l t who now = some D ∧ D.2.2.2.2.2.2.2.2 = hasS l t who now := by
  refine ⟨_, done_spec hl hr, ?_⟩
  rw [doneS]
  by_cases e : hasS l t who now = 0
  · obtain ⟨j, hj⟩ := hasS_zero e
    rw [bne_no e, hj, e]; rfl
  · rw [bne_yes e]; rfl
theorem nameS_a : nameS a19 = true := by kernel_rfl
theorem nameS_b : nameS b19 = true := by kernel_rfl
theorem E0_a : E0 a19 = false := by kernel_rfl
theorem E0_b : E0 b19 = false := by kernel_rfl
theorem ba_ne : (b19.toList == a19.toList) = false := by kernel_rfl
theorem lendS_cases (l : List J) (kind w : ByteArray) (now u k : Int) : (∃ c, lendS l kind w now u k = ([], [], c) ∧ c ≠ 0) ∨ (lendS l kind w now u k = ((lendGo kind w now u k.toNat l).2, (lendGo kind w now u k.toNat l).1, 0) ∧ 0 ≤ now ∧ now < u ∧ u ≤ 1099511627776) := by
  rw [lendS]
  cases nameS kind with
  | false => exact .inl ⟨1, rfl, by decide⟩
  | true =>
  cases nameS w with
  | false => exact .inl ⟨1, rfl, by decide⟩
  | true =>
  by_cases k1 : now < 0
  · rw [decide_eq_true k1]; exact .inl ⟨2, rfl, by decide⟩
  by_cases k2 : u ≤ now
  · rw [decide_eq_false k1, decide_eq_true k2]; exact .inl ⟨2, rfl, by decide⟩
  by_cases k3 : u > 1099511627776
  · rw [decide_eq_false k1, decide_eq_false k2, decide_eq_true k3]; exact .inl ⟨2, rfl, by decide⟩
  rw [decide_eq_false k1, decide_eq_false k2, decide_eq_false k3]
  cases inR k 1 8 with
  | false => exact .inl ⟨2, rfl, by decide⟩
  | true => exact .inr ⟨rfl, by omega, by omega, by omega⟩
theorem jobsOne_true {l : List J} {kind : ByteArray} {now u later : Int} : law19_JobsOne l kind now u later = some true := by
  obtain ⟨v, h1, h2⟩ := may19_spec l
  rw [law19_JobsOne_eq, h1, Option.bind_some, wks, isize_eq]
  cases v with
  | false => rfl
  | true =>
  obtain ⟨hl, hr⟩ := h2 rfl
  have hl1 := hl.1
  rw [Bool.not_true, cond_false]
  by_cases k1 : (kind.size : Int) > 60
  · rw [decide_eq_true k1]; rfl
  rw [decide_eq_false k1, cond_false, show (⟨#[97]⟩ : ByteArray) = a19 from rfl, show (⟨#[98]⟩ : ByteArray) = b19 from rfl, lend_spec (by omega) (by omega) (by decide), Option.bind_some]
  rcases lendS_cases l kind a19 now u 8 with ⟨c, e, hc⟩ | ⟨e, q1, q2, q3⟩
  · rw [e]
    dsimp only
    rw [bne_yes hc]
    rfl
  · rw [e]
    dsimp only
    rw [bne_no rfl, cond_false]
    by_cases k2 : later < now
    · rw [decide_eq_true k2]; rfl
    by_cases k3 : later > 1099511627776
    · rw [decide_eq_false k2, decide_eq_true k3]; rfl
    rw [decide_eq_false k2, decide_eq_false k3, cond_false, cond_false]
    have n1 := lendGo_len kind a19 now u l (Int.toNat 8)
    have r1 := lendGo_rising (kind := kind) (now := now) nameS_a E0_a (by omega) q3 l (Int.toNat 8) 0 hr
    have m1 := lendGo_mem (kind := kind) (w := a19) (now := now) (u := u) l (Int.toNat 8)
    generalize (lendGo kind a19 now u (Int.toNat 8) l).2 = L1 at *
    generalize (lendGo kind a19 now u (Int.toNat 8) l).1 = G1 at *
    rw [lend_spec (by omega) (by omega) (by decide), Option.bind_some]
    have hA : ∀ j ∈ G1, ∃ D, jobs_Done L1 j.1 a19 later = some D ∧ (D.2.2.2.2.2.2.2.2 == 0) = decide (later < u) := fun j hj => by
      obtain ⟨p, x, _, _, rfl⟩ := m1 j hj
      obtain ⟨D, d1, d2⟩ := done_code (l := L1) (t := (lendJ x a19 u).1) (now := later) (who := a19) (by omega) r1
      refine ⟨D, d1, ?_⟩
      rw [d2, hasS, get_mem r1 p]
      show ((bif E0 a19 then (11 : Int) else bif !(a19.toList == a19.toList) then 11 else bif decide (later ≥ u) then 11 else 0) == 0) = _
      rw [E0_a, beq_self_eq_true]
      by_cases k : later < u
      · rw [decide_eq_true k, decide_eq_false (by omega)]; rfl
      · rw [decide_eq_false k, decide_eq_true (by omega)]; rfl
    have fin : ∀ G2 L2 c2, G2.length ≤ 1000000 → _ → _ → law19_JobsOne_l0 u later c2 0 L1 G1 L2 G2 = some true := fun G2 L2 c2 hn hB hC => one_l0 (by omega) hn hA hB hC G1 0 rfl
    rcases lendS_cases L1 kind b19 later 1099511627776 8 with ⟨c, e2, hc⟩ | ⟨e2, _, _, _⟩
    · rw [e2]
      exact fin [] [] c (by decide) (fun _ _ _ => rfl) (fun h => absurd h hc)
    · rw [e2]
      have n2 := lendGo_len kind b19 later 1099511627776 L1 (Int.toNat 8)
      have r2 := lendGo_rising (kind := kind) (now := later) nameS_b E0_b (by decide) (Int.le_refl 1099511627776) L1 (Int.toNat 8) 0 r1
      have m2 := lendGo_mem (kind := kind) (w := b19) (now := later) (u := 1099511627776) L1 (Int.toNat 8)
      refine fin _ _ 0 (Nat.le_trans n2.1 (by omega)) (fun hlt j hj => ?_) (fun _ j hj hany => ?_)
      · rw [List.any_eq_false]
        intro y hy hyj
        obtain ⟨_, x, hx, hfree, rfl⟩ := m2 y hy
        obtain ⟨p, z, _, _, rfl⟩ := m1 j hj
        have hxz : x = lendJ z a19 u := rising_uniq r1 hx p (eq_of_beq hyj)
        subst hxz
        have hfree' : (z.2.2.2.1.toList == kind.toList && (decide (z.2.2.2.2.1 > 0) && (E0 a19 || decide (u ≤ later)))) = true := hfree
        rw [E0_a, decide_eq_false (show ¬ u ≤ later by omega)] at hfree'
        simp at hfree'
      · rw [List.any_eq_true] at hany
        obtain ⟨y, hy, hyj⟩ := hany
        obtain ⟨p, x, _, _, rfl⟩ := m2 y hy
        obtain ⟨D, d1, d2⟩ := done_code (t := j.1) (now := later) (who := a19) (show _ ≤ 1000 by rw [n2.2]; omega) r2
        refine ⟨D, d1, ?_⟩
        rw [d2, hasS, ← eq_of_beq hyj, get_mem r2 p]
        show ((bif E0 a19 then (11 : Int) else bif !(b19.toList == a19.toList) then 11 else bif decide (later ≥ 1099511627776) then 11 else 0) == 0) = _
        rw [E0_a, ba_ne]
        rfl
end Go.Proofs.Ytknmnhkocdnnhaa.PE
