/- Logs: the laws. -/
import Derived.Test.YtbgbpdpaamlinaaP13c
namespace Go.Proofs.Ytbgbpdpaamlinaa.PE
set_option linter.unusedVariables false
theorem lg_of {b bt : Int} {l : Es} (hs : Sm l) (h : chk b bt l = true) : Lg b bt l := by
  simp -implicitDefEqProofs only [chk, Bool.and_eq_true, decide_eq_true_eq] at h
  exact ⟨hs, hs.1, h.1.1.1.1.1, h.1.1.1.1.2⟩
theorem may_spec {b bt : Int} {l : Es} (hb : Big l) : ∃ v, law13_may b bt l = some v ∧ (v = true → Lg b bt l ∧ l.length ≤ 300) := by
  obtain ⟨k, h1, h2⟩ := weight_spec hb
  rw [law13_may_eq, h1]
  simp -implicitDefEqProofs only [Option.bind_some, Bool.cond_decide]
  by_cases hk : k ≤ 300
  · obtain ⟨hs, hl⟩ := sm_of_wt (l := l) (by have := h2 hk; omega)
    rw [if_pos hk, refCheck_spec hs.1]
    refine ⟨_, rfl, fun h => ⟨?_, hl⟩⟩
    cases hc : chk b bt l with
    | true => exact lg_of hs hc
    | false => rw [hc] at h; cases h
  · rw [if_neg hk]
    exact ⟨false, rfl, fun h => by cases h⟩
theorem fits_l0 {t : Int} {es : Es} (hs : es.length ≤ 300) : ∀ (r : Es) (i : Nat) (t' : Int), es.drop i = r → ∃ v, law13_fits_l0 t es t' i = some v := by
  intro r
  induction r with
  | nil =>
    intro i t' hd
    have h1 := at_nil hd
    rw [law13_fits_l0_eq, ilen_eq]
    simp -implicitDefEqProofs only [Bool.cond_decide]
    rw [if_neg (by omega)]
    exact ⟨_, rfl⟩
  | cons x r ih =>
    intro i t' hd
    obtain ⟨h1, h2, h3⟩ := at_drop hd
    rw [law13_fits_l0_eq, ilen_eq]
    simp -implicitDefEqProofs only [Bool.cond_decide, Int.toNat_natCast, h2, Option.bind_some, if_pos (show (i : Int) < es.length by omega), if_pos (show (0 : Int) ≤ i by omega)]
    rw [wrap_succ (by omega)]
    obtain ⟨v, hv⟩ := ih (i + 1) x.1 h3
    rw [hv]
    by_cases k1 : x.1 < t'
    · rw [if_pos k1]; exact ⟨_, rfl⟩
    rw [if_neg k1]
    by_cases k2 : x.1 < 1
    · rw [if_pos k2]; exact ⟨_, rfl⟩
    rw [if_neg k2]
    by_cases k3 : x.1 > 1000000
    · rw [if_pos k3]; exact ⟨_, rfl⟩
    rw [if_neg k3]
    exact ⟨_, rfl⟩
theorem fits_spec {i t : Int} {es : Es} (hb : Big es) : ∃ v, law13_fits i t es = some v ∧ (v = true → 0 ≤ i ∧ i ≤ 1000000 ∧ Sm es ∧ es.length ≤ 300) := by
  rw [law13_fits_eq]
  simp -implicitDefEqProofs only [Bool.cond_decide, ilen_eq]
  by_cases k1 : i < 0
  · rw [if_pos k1]; exact ⟨false, rfl, fun h => by cases h⟩
  rw [if_neg k1]
  by_cases k2 : i > 1000000
  · rw [if_pos k2]; exact ⟨false, rfl, fun h => by cases h⟩
  rw [if_neg k2]
  by_cases k3 : (es.length : Int) > 300
  · rw [if_pos k3]; exact ⟨false, rfl, fun h => by cases h⟩
  rw [if_neg k3]
  obtain ⟨k, h1, h2⟩ := weight_spec hb
  rw [h1]
  simp -implicitDefEqProofs only [Option.bind_some]
  by_cases k4 : k > 300
  · rw [if_pos k4]; exact ⟨false, rfl, fun h => by cases h⟩
  rw [if_neg k4]
  obtain ⟨hs, hl⟩ := sm_of_wt (l := es) (by have := h2 (by omega); omega)
  obtain ⟨v, hv⟩ := fits_l0 (t := t) (es := es) (by omega) es 0 t rfl
  exact ⟨v, hv, fun _ => ⟨by omega, by omega, hs, by omega⟩⟩
theorem works_true : law13_works = some true := by
  have h : Lg 2 1 [(1, []), (2, [])] := ⟨⟨by simp, by simp⟩, by simp, by omega, by omega⟩
  have p1 := put_spec (i := 3) (t := 1) (es := [(3, []), (3, [])]) h ⟨by simp, by simp⟩ (by omega)
  have p2 := put_spec (i := 4) (t := 3) (es := []) h ⟨by simp, by simp⟩ (by omega)
  rw [law13_works_eq, p1, Option.bind_some, p2, Option.bind_some, term_spec h, Option.bind_some, compact_spec h, Option.bind_some, last_spec h, lastTerm_spec h, newer_spec h, newer_spec h, check_spec h.len, copy_spec h.sm]
  simp -implicitDefEqProofs only [Option.bind_some, same_spec h.len]
  decide +kernel
theorem logsChecks_true {b bt c u : Int} {l m : Es} (hl : Big l) (hm : Big m) : law13_LogsChecks b bt l c u m = some true := by
  obtain ⟨k, h1, h2⟩ := weight_spec hl
  obtain ⟨k', h1', h2'⟩ := weight_spec hm
  rw [law13_LogsChecks_eq, h1, works_true]
  simp -implicitDefEqProofs only [Option.bind_some, Bool.cond_decide, h1']
  by_cases hk : k > 300
  · rw [if_pos hk]
  rw [if_neg hk]
  by_cases hk' : k' > 300
  · rw [if_pos hk']
  rw [if_neg hk']
  obtain ⟨hs, _⟩ := sm_of_wt (l := l) (by have := h2 (by omega); omega)
  rw [check_spec hs.1, refCheck_spec hs.1, same_spec hs.1, refSame_spec hs.1, copy_spec hs]
  simp [refSame_spec hs.1, eqv_refl]
theorem put_go_len : ∀ (r l : Es) (k : Nat), (putGo l k r).length ≤ l.length + r.length
  | [], l, k => by simp [putGo]
  | x :: r, l, k => by
    rw [putGo]
    split
    · have := put_go_len r l (k + 1); rw [List.length_cons]; omega
    · rw [List.length_append, List.length_take, List.length_cons]; omega
theorem put_go_mem : ∀ (r l : Es) (k : Nat) (e : TE), e ∈ putGo l k r → e ∈ l ∨ e ∈ r
  | [], l, k, e, h => .inl (by simpa [putGo] using h)
  | x :: r, l, k, e, h => by
    rw [putGo] at h
    split at h
    · rcases put_go_mem r l (k + 1) e h with h | h
      · exact .inl h
      · exact .inr (List.mem_cons_of_mem _ h)
    · rcases List.mem_append.1 h with h | h
      · exact .inl (List.mem_of_mem_take h)
      · exact .inr h
theorem putAt_len (b bt : Int) (l : Es) (i t : Int) (es : Es) : (putAt b bt l i t es).1.length ≤ l.length + es.length := by
  unfold putAt
  split
  · simp
  · split
    · exact put_go_len _ _ _
    · simp
theorem put_len (b bt : Int) (l : Es) (i t : Int) (es : Es) : (put b bt l i t es).1.length ≤ l.length + es.length := by
  unfold put
  split
  · split
    · simp
    · have := putAt_len b bt l b bt (es.drop (b - i).toNat); rw [List.length_drop] at this; omega
  · exact putAt_len _ _ _ _ _ _
theorem logsPuts_true {b bt i t : Int} {l es : Es} (hl : Big l) (he : Big es) : law13_LogsPuts b bt l i t es = some true := by
  obtain ⟨v, h1, h2⟩ := may_spec (b := b) (bt := bt) hl
  obtain ⟨u, k1, k2⟩ := fits_spec (i := i) (t := t) he
  rw [law13_LogsPuts_eq, h1, works_true, k1]
  simp -implicitDefEqProofs only [Option.bind_some]
  cases v with
  | false => rfl
  | true =>
    cases u with
    | false => rfl
    | true =>
      obtain ⟨hg, hl3⟩ := h2 rfl
      obtain ⟨i0, i1, hs, he3⟩ := k2 rfl
      have := put_len b bt l i t es
      rw [put_spec hg hs (by omega), refPut_spec hg hs (by omega)]
      simp [refSame_spec (show (put b bt l i t es).1.length ≤ 1000000 by omega), eqv_refl]
theorem logsAsks_true {b bt i most t : Int} {l : Es} (hl : Big l) (hm : most ≤ 9223372036854775807) : law13_LogsAsks b bt l i most t = some true := by
  obtain ⟨v, h1, h2⟩ := may_spec (b := b) (bt := bt) hl
  rw [law13_LogsAsks_eq, h1, works_true]
  simp -implicitDefEqProofs only [Option.bind_some]
  cases v with
  | false => rfl
  | true =>
    obtain ⟨hg, hl3⟩ := h2 rfl
    have hf : (from_ b l i most).length ≤ 1000000 := by
      unfold from_
      split
      · simp
      · rw [List.length_take, List.length_drop]; omega
    rw [term_spec hg, refTerm_spec hg, refLast_spec hg, last_spec hg, lastTerm_spec hg, from_spec hg _ _ hm, refFrom_spec hg, newer_spec hg, refNewer_spec hg]
    simp [refTerm_spec hg, entries_spec hf, eqv_refl]
theorem reset_len (b bt : Int) (l : Es) (i t : Int) : (reset b bt l i t).2.2.length ≤ l.length := by
  unfold reset
  split <;> simp
theorem compact_len (b bt : Int) (l : Es) (i : Int) : (compact b bt l i).2.2.1.length ≤ l.length := by
  unfold compact
  split <;> simp
theorem logsCompacts_true {b bt i t e : Int} {l : Es} {d : List Int} (hl : Big l) : law13_LogsCompacts b bt l i t e d = some true := by
  obtain ⟨v, h1, h2⟩ := may_spec (b := b) (bt := bt) hl
  rw [law13_LogsCompacts_eq, h1, works_true]
  simp -implicitDefEqProofs only [Option.bind_some, Bool.cond_decide, ilen_eq, room_eq]
  cases v with
  | false => rfl
  | true =>
    obtain ⟨hg, hl3⟩ := h2 rfl
    rw [Bool.not_true, cond_false]
    by_cases hd : (d.length : Int) > 500
    · rw [if_pos hd]
    · rw [if_neg hd, compact_spec hg, refCompact_spec hg, behind_spec hg (by omega), reset_spec hg, refReset_spec hg]
      have c1 := compact_len b bt l i
      have c2 := reset_len b bt l i t
      simp -implicitDefEqProofs only [Option.bind_some, List.nil_append, List.length_cons, List.length_nil]
      rw [if_pos (by omega), if_pos (by omega), refSame_spec (by omega), refSame_spec (by omega), refSame_spec (by simp; omega)]
      simp [eqv_refl]
theorem put_go_drop : ∀ (r l : Es) (k d : Nat), d ≤ k → k ≤ l.length → (putGo l k r).drop d = putGo (l.drop d) (k - d) r
  | [], l, k, d, h, _ => rfl
  | x :: r, l, k, d, h, hk => by
    rw [putGo, putGo, List.getElem?_drop, show d + (k - d) = k by omega]
    split
    · rename_i h'
      have hk' : k + 1 ≤ l.length := by
        by_cases hk' : k + 1 ≤ l.length
        · exact hk'
        · rw [List.getElem?_eq_none (by omega)] at h'
          cases h'
      rw [put_go_drop r l (k + 1) d (by omega) hk', show k + 1 - d = k - d + 1 by omega]
    · rw [List.drop_append_of_le_length (by rw [List.length_take]; omega), List.drop_take]
theorem put_go_get : ∀ (r l : Es) (k j : Nat), j < k → k ≤ l.length → (putGo l k r)[j]? = l[j]?
  | [], l, k, j, _, _ => rfl
  | x :: r, l, k, j, h, hk => by
    rw [putGo]
    split
    · rename_i h'
      by_cases hk' : k + 1 ≤ l.length
      · exact put_go_get r l (k + 1) j (by omega) hk'
      · rw [List.getElem?_eq_none (by omega)] at h'
        cases h'
    · rw [List.getElem?_append_left (by rw [List.length_take]; omega), List.getElem?_take_of_lt h]
theorem put_go_at : ∀ (r l : Es) (k j : Nat) (e : TE), k ≤ l.length → r[j]? = some e → ((putGo l k r)[k + j]?).map (·.1) = some e.1
  | [], l, k, j, e, _, h => by simp at h
  | x :: r, l, k, j, e, hk, h => by
    rw [putGo]
    split
    · rename_i h'
      have hk' : k + 1 ≤ l.length := by
        by_cases hk' : k + 1 ≤ l.length
        · exact hk'
        · rw [List.getElem?_eq_none (by omega)] at h'
          cases h'
      cases j with
      | zero =>
        simp -implicitDefEqProofs only [List.getElem?_cons_zero, Option.some.injEq] at h
        subst h
        rw [show k + 0 = k from rfl, put_go_get r l (k + 1) k (by omega) hk']
        exact h'
      | succ j =>
        rw [show k + (j + 1) = k + 1 + j by omega]
        exact put_go_at r l (k + 1) j e hk' (by simpa using h)
    · rw [List.getElem?_append_right (by rw [List.length_take]; omega), List.length_take, show k + j - min k l.length = j by omega, h]
      rfl
end Go.Proofs.Ytbgbpdpaamlinaa.PE
