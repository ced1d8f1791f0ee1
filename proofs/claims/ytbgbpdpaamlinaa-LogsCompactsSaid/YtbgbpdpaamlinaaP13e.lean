/- Logs: what is short takes the same on; what fits makes alike. -/
import Derived.Test.YtbgbpdpaamlinaaP13d
namespace Go.Proofs.Ytbgbpdpaamlinaa.PE
set_option linter.unusedVariables false
theorem put_go_sm {l es : Es} {k : Nat} (hl : Sm l) (he : Sm es) (hn : l.length + es.length ≤ 1000000) : Sm (putGo l k es) :=
  ⟨by have := put_go_len es l k; omega, fun e h => (put_go_mem es l k e h).elim (hl.2 e) (he.2 e)⟩
theorem term_drop {b bt i : Int} {l : Es} (h : (term b bt l i).2 = true) {j : Int} (hj : i ≤ j) : term i (term b bt l i).1 (l.drop (i - b).toNat) j = term b bt l j := by
  obtain ⟨r1, r2⟩ := term_range h
  by_cases e : j = i
  · subst e
    rw [term_base, ← h]
  · rw [term, if_neg e, if_neg (by omega), List.getElem?_drop, show (i - b).toNat + (j - i - 1).toNat = (j - b - 1).toNat by omega]
    rw [show term b bt l j = (match l[(j - b - 1).toNat]? with | some e => (e.1, true) | none => (0, false)) by rw [term, if_neg (by omega), if_neg (by omega)]; rfl]
    rfl
theorem logsShort_true {b bt i f t : Int} {l es : Es} (hl : Big l) (he : Big es) : law13_LogsShort b bt l i f t es = some true := by
  obtain ⟨v, h1, h2⟩ := may_spec (b := b) (bt := bt) hl
  obtain ⟨u, k1, k2⟩ := fits_spec (i := f) (t := t) he
  rw [law13_LogsShort_eq, h1, works_true, k1]
  simp -implicitDefEqProofs only [Option.bind_some]
  cases v with
  | false => rfl
  | true =>
    cases u with
    | false => rfl
    | true =>
      obtain ⟨hg, hl3⟩ := h2 rfl
      obtain ⟨f0, f1, hs, he3⟩ := k2 rfl
      simp -implicitDefEqProofs only [Bool.not_true, cond_false, Bool.cond_decide]
      by_cases c1 : f < i
      · rw [if_pos c1]
      rw [if_neg c1, compact_spec hg, Option.bind_some, compact]
      cases c2 : (term b bt l i).2 with
      | false => rfl
      | true =>
        obtain ⟨r1, r2⟩ := term_range c2
        have g0 := hg.b0
        have g1 := hg.b1
        have hc : Lg i (term b bt l i).1 (l.drop (i - b).toNat) := ⟨sm_drop hg.sm _, (sm_drop hg.sm _).1, by omega, by omega⟩
        rw [if_neg (by simp)]
        simp -implicitDefEqProofs only [bne_no (rfl : (0 : Int) = 0), cond_false, last_spec hg, last_spec hc, lastTerm_spec hg, lastTerm_spec hc, Option.bind_some, put_spec hg hs (show -4611686018427387904 ≤ f by omega), put_spec hc hs (show -4611686018427387904 ≤ f by omega)]
        have e1 : i + ((l.drop (i - b).toNat).length : Int) = b + l.length := by rw [List.length_drop]; omega
        rw [e1, term_drop c2 (by omega), bne_no rfl, cond_false, bne_no rfl, cond_false, put, put, if_neg (by omega), if_neg c1, putAt, putAt, term_drop c2 (by omega)]
        cases c3 : (term b bt l f).2 with
        | false => rfl
        | true =>
          obtain ⟨q1, q2⟩ := term_range c3
          simp -implicitDefEqProofs only [Bool.true_eq_false, if_false]
          by_cases c4 : (term b bt l f).1 = t
          · rw [if_pos c4, if_pos c4]
            have hx : Lg b bt (putGo l (f - b).toNat es) := ⟨put_go_sm hg.sm hs (by omega), (put_go_sm hg.sm hs (by omega)).1, hg.b0, hg.b1⟩
            have ht : term b bt (putGo l (f - b).toNat es) i = term b bt l i := by
              by_cases e : i = b
              · subst e; rw [term_base, term_base]
              · rw [term, term, if_neg e, if_neg e, if_neg (by omega), if_neg (by omega), put_go_get es l _ _ (by omega) (by omega)]
            rw [compact_spec hx, Option.bind_some, compact, ht, c2, if_neg (by simp), put_go_drop es l _ _ (by omega) (by omega), show (f - b).toNat - (i - b).toNat = (f - i).toNat by omega]
            have hd : (putGo (l.drop (i - b).toNat) (f - i).toNat es).length ≤ 1000000 := by
              have := put_go_len es (l.drop (i - b).toNat) (f - i).toNat
              rw [List.length_drop] at this
              omega
            rw [refSame_spec hd]
            simp [eqv_refl]
          · rw [if_neg c4, if_neg c4]
            rfl
theorem alike_l2 {b bt c ct i : Int} {l x : Es} (hl : Lg b bt l) (hx : Lg c ct x) (hi : i ≤ 1099511627776 + 1000000) (H : ∀ j, b + 1 ≤ j → j ≤ i → (term c ct x j).1 = (term b bt l j).1) : ∀ (n : Nat) (j : Int), b + 1 ≤ j → j + n = i + 1 → law13_LogsAlike_l2 i j b bt l c ct x = some true := by
  have g0 := hl.b0
  intro n
  induction n with
  | zero =>
    intro j h1 h2
    rw [law13_LogsAlike_l2_eq]
    simp -implicitDefEqProofs only [Bool.cond_decide]
    rw [if_neg (by omega), works_true]
    rfl
  | succ n ih =>
    intro j h1 h2
    rw [law13_LogsAlike_l2_eq]
    simp -implicitDefEqProofs only [Bool.cond_decide]
    rw [if_pos (by omega), refTerm_spec hx, refTerm_spec hl, Option.bind_some, Option.bind_some, bne_no (H j h1 (by omega)), cond_false, wrap_i64 (by omega) (by omega), ih (j + 1) (by omega) (by omega)]
theorem alike_l0 {b bt c ct d dt i e : Int} {l m x : Es} (hl : Lg b bt l) (hm : Lg c ct m) (hx : Lg d dt x) (hi : i ≤ 1099511627776 + 1000000) (hib : b ≤ i) (he : e ≤ 1099511627776 + 2000000) (H : ∀ j, b + 1 ≤ j → j ≤ i → (term d dt x j).1 = (term b bt l j).1)
    (K : ∀ j, i + 1 ≤ j → j ≤ e → (term d dt x j).2 = true ∧ (term c ct m j).2 = true ∧ (term d dt x j).1 = (term c ct m j).1) : ∀ (n : Nat) (j : Int), i + 1 ≤ j → j + n = e + 1 → law13_LogsAlike_l0 i e j b bt l c ct m d dt x = some true := by
  have g0 := hl.b0
  have g1 := hl.b1
  intro n
  induction n with
  | zero =>
    intro j h1 h2
    rw [law13_LogsAlike_l0_eq]
    simp -implicitDefEqProofs only [Bool.cond_decide]
    rw [if_neg (by omega), wrap_i64 (by omega) (by omega), alike_l2 hl hx hi H (i - b).toNat (b + 1) (by omega) (by omega)]
  | succ n ih =>
    intro j h1 h2
    obtain ⟨k1, k2, k3⟩ := K j h1 (by omega)
    rw [law13_LogsAlike_l0_eq]
    simp -implicitDefEqProofs only [Bool.cond_decide]
    rw [if_pos (by omega), refTerm_spec hx, refTerm_spec hm, Option.bind_some, Option.bind_some, k1, k2, Bool.not_true, cond_false, cond_false, bne_no k3, cond_false, wrap_i64 (by omega) (by omega), ih (j + 1) (by omega) (by omega)]
theorem logsAlike_true {b bt c ct i most : Int} {l m : Es} (hl : Big l) (hm : Big m) (hmost : most ≤ 9223372036854775807) : law13_LogsAlike b bt l c ct m i most = some true := by
  obtain ⟨v, h1, h2⟩ := may_spec (b := b) (bt := bt) hl
  obtain ⟨u, k1, k2⟩ := may_spec (b := c) (bt := ct) hm
  rw [law13_LogsAlike_eq, h1, works_true, k1]
  simp -implicitDefEqProofs only [Option.bind_some]
  cases v with
  | false => rfl
  | true =>
    cases u with
    | false => rfl
    | true =>
      obtain ⟨hg, hl3⟩ := h2 rfl
      obtain ⟨hh, hm3⟩ := k2 rfl
      have g0 := hg.b0
      have g1 := hg.b1
      have g2 := hh.b0
      have g3 := hh.b1
      simp -implicitDefEqProofs only [Bool.not_true, cond_false, Bool.cond_decide]
      by_cases c1 : i < b
      · rw [if_pos c1]
      rw [if_neg c1]
      by_cases c2 : i < c
      · rw [if_pos c2]
      rw [if_neg c2, refTerm_spec hh, Option.bind_some, refTerm_spec hg, Option.bind_some]
      cases c3 : (term c ct m i).2 with
      | false => rfl
      | true =>
        cases c4 : (term b bt l i).2 with
        | false => rfl
        | true =>
          obtain ⟨r1, r2⟩ := term_range c3
          obtain ⟨r3, r4⟩ := term_range c4
          rw [Bool.not_true, cond_false, cond_false]
          by_cases c5 : (term c ct m i).1 = (term b bt l i).1
          · rw [bne_no c5, cond_false, wrap_i64 (by omega) (by omega), from_spec hh _ _ hmost, Option.bind_some]
            have hes : Sm (from_ c m (i + 1) most) := by
              unfold from_
              rw [if_neg (by omega)]
              exact sm_take (sm_drop hh.sm _) _
            have hel : (from_ c m (i + 1) most).length ≤ 300 := by
              unfold from_
              rw [if_neg (by omega), List.length_take, List.length_drop]
              omega
            have hget : ∀ (j : Nat) (e : TE), (from_ c m (i + 1) most)[j]? = some e → m[(i - c).toNat + j]? = some e := by
              intro j e hj
              unfold from_ at hj
              rw [if_neg (by omega)] at hj
              have hlt := (List.getElem?_eq_some_iff.1 hj).1
              rw [List.length_take] at hlt
              rw [List.getElem?_take_of_lt (by omega), List.getElem?_drop, show (i + 1 - c - 1).toNat = (i - c).toNat by omega] at hj
              exact hj
            generalize from_ c m (i + 1) most = es at hes hel hget
            rw [put_spec hg hes (by omega), Option.bind_some, put, if_neg c1, putAt, c4, if_neg (by simp), if_pos c5.symm]
            simp -implicitDefEqProofs only [Bool.not_true, cond_false]
            rw [ilen_eq, wrap_i64 (by omega) (by omega), bne_no rfl, cond_false]
            have hx : Lg b bt (putGo l (i - b).toNat es) := ⟨put_go_sm hg.sm hes (by omega), (put_go_sm hg.sm hes (by omega)).1, hg.b0, hg.b1⟩
            refine alike_l0 hg hh hx (by omega) (by omega) (by omega) (fun j j1 j2 => ?_) (fun j j1 j2 => ?_) es.length (i + 1) (by omega) (by omega)
            · rw [term, term, if_neg (by omega), if_neg (by omega), if_neg (by omega), if_neg (by omega), put_go_get es l _ _ (by omega) (by omega)]
            · obtain ⟨n, rfl⟩ : ∃ n : Nat, j = i + 1 + n := ⟨(j - i - 1).toNat, by omega⟩
              have hn : n < es.length := by omega
              have e1 := List.getElem?_eq_getElem hn
              have e2 := put_go_at es l (i - b).toNat n _ (by omega) e1
              have e3 := hget n _ e1
              have e4 : term c ct m (i + 1 + n) = (es[n].1, true) := by
                rw [term, if_neg (by omega), if_neg (by omega), show (i + 1 + (n : Int) - c - 1).toNat = (i - c).toNat + n by omega, e3]
              have e5 : term b bt (putGo l (i - b).toNat es) (i + 1 + n) = (es[n].1, true) := by
                rw [term, if_neg (by omega), if_neg (by omega), show (i + 1 + (n : Int) - b - 1).toNat = (i - b).toNat + n by omega]
                obtain ⟨y, hy1, hy2⟩ := Option.map_eq_some_iff.1 e2
                rw [hy1]
                simp only [hy2]
              rw [e4, e5]
              exact ⟨rfl, rfl, rfl⟩
          · rw [bne_yes c5, cond_true]
end Go.Proofs.Ytbgbpdpaamlinaa.PE
