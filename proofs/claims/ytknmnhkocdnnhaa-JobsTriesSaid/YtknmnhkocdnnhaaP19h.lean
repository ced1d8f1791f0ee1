/- Jobs: the law of the tries. -/
import Derived.Test.YtknmnhkocdnnhaaP19g
namespace Go.Proofs.Ytknmnhkocdnnhaa.PE
set_option linter.unusedVariables false
open Go Go.RowKit Go.Proofs.Ytknmnhkocdnnhaa.Pack
theorem E0_emp {s : ByteArray} (h : (s.toList == (⟨#[]⟩ : ByteArray).toList) = true) : s = ⟨#[]⟩ := by
  rw [toList_data, toList_data] at h
  have h2 := eq_of_beq h
  cases s with
  | mk d =>
    cases d with
    | mk l =>
      have : l = [] := h2
      rw [this]
theorem len1 {j : J} {n : Nat} (h : 1 ≤ n) : [j].length ≤ n := h
theorem nameS_w : nameS w19 = true := by kernel_rfl
theorem E0_w : (w19.toList == (⟨#[]⟩ : ByteArray).toList) = false := by kernel_rfl
theorem E0_e : ((⟨#[]⟩ : ByteArray).toList == (⟨#[]⟩ : ByteArray).toList) = true := beq_self_eq_true _
def curJ (a b c : Int) (kd : ByteArray) (tr : Int) : J := (a, b, c, kd, tr, ⟨#[]⟩, 0)
def busyJ (a b c : Int) (kd : ByteArray) (tr u : Int) : J := (a, b, c, kd, tr, w19, u)
theorem ok_fields {a b c tr u : Int} {kd s : ByteArray} (h : okJ (a, b, c, kd, tr, s, u) = true) : inR a 1 1099511627776 = true ∧ inR b 1 1099511627776 = true ∧ inR c 1 1099511627776 = true ∧ nameS kd = true := by
  simp only [okJ, Bool.and_eq_true] at h
  exact ⟨h.1, h.2.1, h.2.2.1, h.2.2.2.2.2.1⟩
theorem in_yes {a b c : Int} (h1 : b ≤ a) (h2 : a ≤ c) : inR a b c = true := by rw [inR, decide_eq_true h1, decide_eq_true h2]; rfl
theorem ok_cur {a b c tr : Int} {kd : ByteArray} (ha : inR a 1 1099511627776 = true) (hb : inR b 1 1099511627776 = true) (hc : inR c 1 1099511627776 = true) (hk : nameS kd = true) (h0 : 0 ≤ tr) (h9 : tr ≤ 9) : rising 0 [curJ a b c kd tr] = true := by
  have h1 : 1 ≤ a := by rw [inR, Bool.and_eq_true, decide_eq_true_eq] at ha; exact ha.1
  rw [rising, rising, curJ, decide_eq_true (show (0 : Int) < a by omega), okJ, ha, hb, hc, hk, in_yes h0 h9, in_yes (a := 0) (b := 0) (c := 1099511627776) (by decide) (by decide), E0, E0_e]
  rfl
theorem ok_busy {a b c tr u : Int} {kd : ByteArray} (ha : inR a 1 1099511627776 = true) (hb : inR b 1 1099511627776 = true) (hc : inR c 1 1099511627776 = true) (hk : nameS kd = true) (h0 : 0 < tr) (h9 : tr ≤ 9) (hu : 0 ≤ u) (hu2 : u ≤ 1099511627776) : rising 0 [busyJ a b c kd tr u] = true := by
  have h1 : 1 ≤ a := by rw [inR, Bool.and_eq_true, decide_eq_true_eq] at ha; exact ha.1
  rw [rising, rising, busyJ, decide_eq_true (show (0 : Int) < a by omega), okJ, ha, hb, hc, hk, in_yes (by omega) h9, in_yes hu hu2, E0, E0_w, nameS_w, decide_eq_true (show tr > 0 from h0)]
  rfl
theorem get_one (j : J) : get j.1 [j] = some j := by
  have h : pos j.1 [j] = 0 := by rw [pos, List.findIdx_cons, decide_eq_true (Int.le_refl _)]; rfl
  rw [get, h]
  show (if j.1 = j.1 then some j else none) = _
  rw [if_pos rfl]
theorem put_one (j : J) (w : List J) : putS [j] j.1 w = w := by
  rw [putS, List.flatMap_cons, if_pos rfl, List.flatMap_nil, List.append_nil]
theorem lend_cur {a b c tr : Int} {kd : ByteArray} {n : Int} (hk : nameS kd = true) (hn : 0 ≤ n) (hn2 : n ≤ 100) :
    lendS [curJ a b c kd tr] kd w19 n (n + 1) 1 = if tr > 0 then ([busyJ a b c kd tr (n + 1)], [busyJ a b c kd tr (n + 1)], 0) else ([curJ a b c kd tr], [], 0) := by
  rw [lendS, hk, nameS_w, decide_eq_false (show ¬ n < 0 by omega), decide_eq_false (show ¬ n + 1 ≤ n by omega), decide_eq_false (show ¬ n + 1 > 1099511627776 by omega), in_yes (by decide) (by decide), lendGo, freeS, curJ]
  simp only [beq_self_eq_true, Bool.true_and, Bool.true_or, Bool.and_true]
  by_cases h : tr > 0
  · rw [decide_eq_true h, if_pos h]; rfl
  · rw [decide_eq_false h, if_neg h]; rfl
theorem fail_busy {a b c tr u n : Int} {kd : ByteArray} (hu : n < u) (h0 : 0 < tr) (h9 : tr ≤ 9) : failS [busyJ a b c kd tr u] a w19 n = ([curJ a b c kd (tr - 1)], tupI (curJ a b c kd (tr - 1)) 0) := by
  have g : get a [busyJ a b c kd tr u] = some (busyJ a b c kd tr u) := get_one (busyJ a b c kd tr u)
  have p : ∀ w, putS [busyJ a b c kd tr u] a w = w := fun w => put_one (busyJ a b c kd tr u) w
  have hh : hasS [busyJ a b c kd tr u] a w19 n = 0 := by
    rw [hasS, g]
    show (bif w19.toList == (⟨#[]⟩ : ByteArray).toList then (11 : Int) else bif !(w19.toList == w19.toList) then 11 else bif decide (n ≥ u) then 11 else 0) = 0
    rw [E0_w, beq_self_eq_true, decide_eq_false (show ¬ n ≥ u by omega)]
    rfl
  have hf : failJ (busyJ a b c kd tr u) = curJ a b c kd (tr - 1) := by
    rw [failJ, busyJ, curJ]
    show (a, b, c, kd, IntKind.i64.wrap (tr - 1), (⟨#[]⟩ : ByteArray), (0 : Int)) = _
    rw [wrap_i64 (by omega) (by omega)]
  rw [failS, hh, g, bne_no rfl, cond_false]
  dsimp only
  rw [p, hf]
theorem again_cur {a b c k : Int} {kd : ByteArray} (h1 : 1 ≤ k) (h9 : k ≤ 9) : againS [curJ a b c kd 0] a k = ([curJ a b c kd k], 0) := by
  have g : get a [curJ a b c kd 0] = some (curJ a b c kd 0) := get_one (curJ a b c kd 0)
  have p : ∀ w, putS [curJ a b c kd 0] a w = w := fun w => put_one (curJ a b c kd 0) w
  rw [againS, in_yes h1 h9, g, Bool.not_true, cond_false]
  dsimp only
  rw [p]
  rfl
theorem tries_r20 {t k a b c : Int} {kd : ByteArray} {tr n : Int} {s : ByteArray} {u : Int} (ha : inR a 1 1099511627776 = true) (hb : inR b 1 1099511627776 = true) (hc : inR c 1 1099511627776 = true) (hk : nameS kd = true) (hk0 : 0 ≤ k) (hk1 : k ≤ 255) (hn : n = tr) (ht : t = a) :
    law19_JobsTries_r20 t k n a b c kd tr s u [curJ a b c kd 0] = some true := by
  subst hn ht
  have e : IntKind.i64.wrap (1 + (IntKind.i64.wrap k).tmod 9) = 1 + k % 9 := by
    rw [wrap_i64 (x := k) (by omega) (by omega), Int.tmod_eq_emod_of_nonneg hk0, wrap_i64 (by omega) (by omega)]
  rw [law19_JobsTries_r20_eq, bne_no rfl, cond_false, e, again_spec (len1 (by decide)) (ok_cur ha hb hc hk (by decide) (by decide)), again_cur (by omega) (by omega), Option.bind_some, bne_no rfl, cond_false,
    get_spec (len1 (by decide)) (ok_cur ha hb hc hk (by omega) (by omega)), Option.bind_some, getS, show get t [curJ t b c kd (1 + k % 9)] = some (curJ t b c kd (1 + k % 9)) from get_one (curJ t b c kd (1 + k % 9)), wks]
  dsimp only [tup, curJ]
  rw [beq_self_eq_true, E0_e]
  rfl
theorem tries_l0 {t k a b c : Int} {kd : ByteArray} {tr : Int} {s : ByteArray} {u : Int} (ha : inR a 1 1099511627776 = true) (hb : inR b 1 1099511627776 = true) (hc : inR c 1 1099511627776 = true) (hk : nameS kd = true) (hks : kd.size ≤ 60) (hk0 : 0 ≤ k) (hk1 : k ≤ 255) (h0 : 0 ≤ tr) (h9 : tr ≤ 9) (ht : t = a) :
    ∀ (d n : Nat), tr = (n : Int) + d → law19_JobsTries_l0 t k n n a b c kd tr s u [curJ a b c kd (tr - n)] = some true := by
  intro d
  induction d with
  | zero =>
    intro n hn
    rw [law19_JobsTries_l0_eq, decide_eq_true (by omega), cond_true, wrap_i64 (by omega) (by omega), show (⟨#[119]⟩ : ByteArray) = w19 from rfl, lend_spec (len1 (by decide)) (by omega) (by decide), lend_cur hk (by omega) (by omega), if_neg (by omega), Option.bind_some, bne_no rfl, cond_false, ilen_eq, show tr - (n : Int) = 0 by omega]
    dsimp only [List.length_nil]
    rw [beq_yes (show ((0 : Nat) : Int) = 0 from rfl), cond_true]
    exact tries_r20 ha hb hc hk hk0 hk1 (by omega) ht
  | succ d ih =>
    intro n hn
    rw [law19_JobsTries_l0_eq, decide_eq_true (by omega), cond_true, wrap_i64 (by omega) (by omega), show (⟨#[119]⟩ : ByteArray) = w19 from rfl, lend_spec (len1 (by decide)) (by omega) (by decide), lend_cur hk (by omega) (by omega), if_pos (by omega), Option.bind_some, bne_no rfl, cond_false, ilen_eq]
    dsimp only
    rw [beq_no (show ¬ (([busyJ a b c kd (tr - n) (n + 1)].length : Nat) : Int) = 0 by simp), cond_false,
      fail_spec (len1 (by decide)) (ok_busy ha hb hc hk (by omega) (by omega) (by omega) (by omega)), ht, fail_busy (by omega) (by omega) (by omega), Option.bind_some]
    dsimp only [tupI]
    rw [bne_no rfl, cond_false]
    have := ih (n + 1) (by omega)
    rw [ht, show tr - ((n + 1 : Nat) : Int) = tr - n - 1 by omega, show ((n + 1 : Nat) : Int) = (n : Int) + 1 by omega] at this
    exact this
theorem jobsTries_true {l : List J} {t k : Int} (hk0 : 0 ≤ k) (hk1 : k ≤ 255) : law19_JobsTries l t k = some true := by
  obtain ⟨v, h1, h2⟩ := may19_spec l
  rw [law19_JobsTries_eq, h1, Option.bind_some, wks]
  cases v with
  | false => rfl
  | true =>
  obtain ⟨hl, hr⟩ := h2 rfl
  have hl1 := hl.1
  rw [Bool.not_true, cond_false, get_spec (by omega) hr, Option.bind_some, getS]
  cases hg : get t l with
  | none => rfl
  | some j =>
    obtain ⟨g1, g2⟩ := get_some hg
    have hm := List.mem_of_getElem? g1
    have hok := rising_ok hr j hm
    have hsz := (hl.2 j hm).1
    obtain ⟨a, b, c, kd, tr, s, u⟩ := j
    dsimp only [tup] at hsz g2 ⊢
    rw [Bool.not_true, cond_false]
    cases he : (s.toList == (⟨#[]⟩ : ByteArray).toList) with
    | false => rfl
    | true =>
      have hs := E0_emp he
      subst hs
      obtain ⟨f1, f2, f3, f4⟩ := ok_fields hok
      have hrg := okJ_range hok
      have hu : u = 0 := by
        simp only [okJ, E0, he, Bool.and_eq_true, cond_true] at hok
        exact eq_of_beq hok.2.2.2.2.2.2
      subst hu
      have h0 : 0 ≤ tr := hrg.2.2.1
      have h9 : tr ≤ 9 := hrg.2.2.2.1
      have := tries_l0 (tr := tr) (s := ⟨#[]⟩) (u := 0) (t := t) (k := k) f1 f2 f3 f4 hsz hk0 hk1 h0 h9 g2.symm tr.toNat 0 (by omega)
      rw [Int.natCast_zero, Int.sub_zero] at this
      exact this
end Go.Proofs.Ytknmnhkocdnnhaa.PE
