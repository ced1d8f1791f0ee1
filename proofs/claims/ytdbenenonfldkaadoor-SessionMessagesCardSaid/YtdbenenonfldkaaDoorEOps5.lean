/- Arithmetic, comparisons, conversions of values, held against the model's. -/
import Derived.Test.YtdbenenonfldkaaDoorEOps4
namespace Go.Proofs.YtdbenenonfldkaaDoor.PE
set_option linter.unusedVariables false
open Go.RowKit
variable {P : Program} {w : World} {F : Nat → Prop} {g : Nat → Loc} {mine : Nat → Prop} {σ : St} {a : Act} {ob : Nat → Option Ob}
theorem bytes_data (s : ByteArray) : s.toList = s.data.toList := ByteArray.toList_eq s
/-- Of two whole numbers. -/
theorem binInt_sound {op : BinOp} {t : TypeId} {k k' : IntKind} {m n : Int} {r : AV} {H : Nat → Option Ob} (hq : (binQ P op t (.int k m) (.int k' n)).val H = some r) :
    ∃ z, (binOp op t (.int k m) (.int k' n)).run P w = .ok z w ∧ R w F g ob r z := by
  by_cases h1 : op = .shl
  · subst h1
    simp only [binQ, val_br_some, val_fail_some, and_false, false_or, val_ret_some, decide_eq_false_iff_not] at hq
    obtain ⟨h0, rfl⟩ := hq
    refine ⟨.int k (k.wrap (m * 2 ^ min n.toNat k.bits)), ?_, rfl⟩
    simp [binOp, Op.shift, h0]
  by_cases h2 : op = .shr
  · subst h2
    simp only [binQ, val_br_some, val_fail_some, and_false, false_or, val_ret_some, decide_eq_false_iff_not] at hq
    obtain ⟨h0, rfl⟩ := hq
    refine ⟨.int k (m.fdiv (2 ^ min n.toNat k.bits)), ?_, rfl⟩
    simp [binOp, Op.shift, h0]
  have hk : k = k' := by
    unfold binQ at hq
    cases op <;> first | exact absurd rfl h1 | exact absurd rfl h2 | skip
    all_goals
      simp only [] at hq
      split at hq
      · cases hq
      · assumption
  subst hk
  have he : decEq k k = .isTrue rfl := by
    cases hd : decEq k k with
    | isTrue _ => rfl
    | isFalse hn => exact absurd rfl hn
  unfold binQ at hq
  cases op <;> first | exact absurd rfl h1 | exact absurd rfl h2 | skip
  case quo =>
    simp only [he, val_br_some, val_fail_some, and_false, false_or, val_ret_some, decide_eq_false_iff_not] at hq
    obtain ⟨h0, rfl⟩ := hq
    refine ⟨.int k (k.wrap (m.tdiv n)), ?_, rfl⟩
    simp [binOp, Op.intDiv, h0]
  case rem =>
    simp only [he, val_br_some, val_fail_some, and_false, false_or, val_ret_some, decide_eq_false_iff_not] at hq
    obtain ⟨h0, rfl⟩ := hq
    refine ⟨.int k (m.tmod n), ?_, rfl⟩
    simp [binOp, Op.intDiv, h0]
  all_goals
    simp only [he, val_ret_some] at hq
    subst hq
    exact ⟨_, by first | (simp [binOp, Op.intArith, Op.intBits, Op.intCmp]; done) | (simp [binOp, Op.intArith, Op.intBits, Op.intCmp]; rfl), rfl⟩
theorem binStr_sound {op : BinOp} {t : TypeId} {x y : ByteArray} {r : AV} {H : Nat → Option Ob} (hq : (binQ P op t (.str x) (.str y)).val H = some r) :
    ∃ z, (binOp op t (.string x) (.string y)).run P w = .ok z w ∧ R w F g ob r z := by
  unfold binQ at hq
  cases op <;> simp only [val_fail_some] at hq
  case add =>
    simp only [val_br_some, val_fail_some, and_false, or_false, val_ret_some, decide_eq_true_eq, isize_eq] at hq
    obtain ⟨h0, rfl⟩ := hq
    unfold room at h0
    have h1 : ¬ ((x.size + y.size : Nat) : Int) > IntKind.i64.max := by
      have : IntKind.i64.max = 9223372036854775807 := by decide
      rw [this]; omega
    refine ⟨_, ?_, rfl⟩
    simp only [binOp, Op.stringOp]
    rw [if_neg h1]
    rfl
  all_goals
    simp only [val_ret_some] at hq
    subst hq
    exact ⟨_, by first | (simp [binOp, Op.stringOp]; done) | (simp [binOp, Op.stringOp]; rfl), rfl⟩
/-- Of two floats. -/
theorem cmp_dec (a b : Int) : ((some (compare a b) == some Ordering.eq) = decide (a = b)) ∧ ((some (compare a b) == some Ordering.lt) = decide (a < b)) ∧ ((some (compare a b) == some Ordering.gt) = decide (b < a)) := by
  rcases Int.lt_trichotomy a b with h | h | h
  · rw [Int.compare_eq_lt.2 h, decide_eq_false (by omega), decide_eq_true h, decide_eq_false (by omega)]; exact ⟨rfl, rfl, rfl⟩
  · subst h; rw [Int.compare_eq_eq.2 rfl, decide_eq_true rfl, decide_eq_false (by omega)]; exact ⟨rfl, rfl, rfl⟩
  · rw [Int.compare_eq_gt.2 h, decide_eq_false (by omega), decide_eq_false (by omega), decide_eq_true h]; exact ⟨rfl, rfl, rfl⟩
theorem binFlt_sound {op : BinOp} {t : TypeId} {m n : Int} {b c : Nat} (hb : Fl b m) (hc : Fl c n) {r : AV} {H : Nat → Option Ob} (hq : (binQ P op t (.flt m) (.flt n)).val H = some r) :
    ∃ z, (binOp op t (.float .f64 b) (.float .f64 c)).run P w = .ok z w ∧ R w F g ob r z := by
  have ho : FloatKind.f64.format.order b c = some (compare m n) := fl_order hb hc
  obtain ⟨o1, o2, o3⟩ := cmp_dec m n
  unfold binQ at hq
  cases op <;> simp only [val_fail_some] at hq
  case add =>
    simp only [val_br_some, val_fail_some, and_false, or_false, val_ret_some] at hq
    obtain ⟨h0, rfl⟩ := hq
    obtain ⟨x, e, hx⟩ := fl_add hb hc (whole_abs h0)
    exact ⟨_, run_float_arith w .add t .f64 b c x e, x, rfl, hx⟩
  case sub =>
    simp only [val_br_some, val_fail_some, and_false, or_false, val_ret_some] at hq
    obtain ⟨h0, rfl⟩ := hq
    obtain ⟨x, e, hx⟩ := fl_sub hb hc (whole_abs h0)
    exact ⟨_, run_float_arith w .sub t .f64 b c x e, x, rfl, hx⟩
  case mul =>
    simp only [val_br_some, val_fail_some, and_false, or_false, val_ret_some] at hq
    obtain ⟨h0, rfl⟩ := hq
    obtain ⟨x, e, hx⟩ := fl_mul hb hc (whole_abs h0)
    exact ⟨_, run_float_arith w .mul t .f64 b c x e, x, rfl, hx⟩
  case eql =>
    rw [val_ret_some] at hq; subst hq
    exact ⟨.bool (decide (m = n)), by rw [binOp_float_cmp_eql, ho, o1]; rfl, rfl⟩
  case neq =>
    rw [val_ret_some] at hq; subst hq
    exact ⟨.bool (!decide (m = n)), by rw [binOp_float_cmp_neq, ho]; simp only [bne, o1]; rfl, rfl⟩
  case lss =>
    rw [val_ret_some] at hq; subst hq
    exact ⟨.bool (decide (m < n)), by rw [binOp_float_cmp_lss, ho, o2]; rfl, rfl⟩
  case leq =>
    rw [val_ret_some] at hq; subst hq
    refine ⟨.bool (decide (m ≤ n)), ?_, rfl⟩
    have e : (decide (m < n) || decide (m = n)) = decide (m ≤ n) := by rw [← Bool.decide_or]; exact decide_eq_decide.2 (by omega)
    rw [binOp_float_cmp_leq, ho, o1, o2, e]; rfl
  case gtr =>
    rw [val_ret_some] at hq; subst hq
    exact ⟨.bool (decide (n < m)), by rw [binOp_float_cmp_gtr, ho, o3]; rfl, rfl⟩
  case geq =>
    rw [val_ret_some] at hq; subst hq
    refine ⟨.bool (decide (n ≤ m)), ?_, rfl⟩
    have e : (decide (n < m) || decide (m = n)) = decide (n ≤ m) := by rw [← Bool.decide_or]; exact decide_eq_decide.2 (by omega)
    rw [binOp_float_cmp_geq, ho, o1, o3, e]; rfl
/-- Of two complex numbers. -/
theorem binCpx_sound {op : BinOp} {t : TypeId} {m n p q : Int} {a b c d : Nat} (ha : Fl a m) (hb : Fl b n) (hc : Fl c p) (hd : Fl d q) {r : AV} {H : Nat → Option Ob} (hq : (binQ P op t (.cpx m n) (.cpx p q)).val H = some r) :
    ∃ z, (binOp op t (.complex .f64 a b) (.complex .f64 c d)).run P w = .ok z w ∧ R w F g ob r z := by
  unfold binQ at hq
  cases op <;> simp only [val_fail_some] at hq
  case mul =>
    simp only [val_br_some, val_fail_some, and_false, or_false, val_ret_some, Bool.and_eq_true] at hq
    obtain ⟨⟨⟨⟨⟨⟨h1, h2⟩, h3⟩, h4⟩, h5⟩, h6⟩, rfl⟩ := hq
    obtain ⟨ac, e1, k1⟩ := fl_mul ha hc (whole_abs h1)
    obtain ⟨bd, e2, k2⟩ := fl_mul hb hd (whole_abs h2)
    obtain ⟨re, e3, k3⟩ := fl_sub k1 k2 (whole_abs h3)
    obtain ⟨ad, e4, k4⟩ := fl_mul ha hd (whole_abs h4)
    obtain ⟨bc, e5, k5⟩ := fl_mul hb hc (whole_abs h5)
    obtain ⟨im, e6, k6⟩ := fl_add k4 k5 (whole_abs h6)
    refine ⟨_, run_complex_mul w t a b c d re im ?_, re, im, rfl, k3, k6⟩
    have f1 : floatBits .mul .f64 a c = some ac := e1
    have f2 : floatBits .mul .f64 b d = some bd := e2
    have f3 : floatBits .sub .f64 ac bd = some re := e3
    have f4 : floatBits .mul .f64 a d = some ad := e4
    have f5 : floatBits .mul .f64 b c = some bc := e5
    have f6 : floatBits .add .f64 ad bc = some im := e6
    simp only [cMulBits, f1, f2, f3, f4, f5, f6, Option.bind_some]
  case eql =>
    rw [val_ret_some] at hq; subst hq
    have h1 : FloatKind.f64.format.order a c = some (compare m p) := fl_order ha hc
    have h2 : FloatKind.f64.format.order b d = some (compare n q) := fl_order hb hd
    refine ⟨.bool (decide (m = p) && decide (n = q)), ?_, rfl⟩
    rw [run_eql_complex, h1, h2, (cmp_dec m p).1, (cmp_dec n q).1]
  case neq =>
    rw [val_ret_some] at hq; subst hq
    have h1 : FloatKind.f64.format.order a c = some (compare m p) := fl_order ha hc
    have h2 : FloatKind.f64.format.order b d = some (compare n q) := fl_order hb hd
    refine ⟨.bool (!(decide (m = p) && decide (n = q))), ?_, rfl⟩
    rw [run_neq_complex, h1, h2, (cmp_dec m p).1, (cmp_dec n q).1]
theorem un_sound {op : UnOp} {v r : AV} {x : Value} (hv : R w F g ob v x) {H : Nat → Option Ob} (hq : (unQ op v).val H = some r) : ∃ z, (Op.unary op x).run P w = .ok z w ∧ R w F g ob r z := by
  unfold unQ at hq
  split at hq
  · cases (show _ = _ from hv)
    rw [val_ret_some] at hq; subst hq
    exact ⟨.int _ _, by simp [Op.unary, Op.intArith], rfl⟩
  · obtain ⟨b, rfl, hb⟩ := hv
    rw [val_ret_some] at hq; subst hq
    exact ⟨.float .f64 (Op.negFloat .f64 b), rfl, _, rfl, fl_neg hb⟩
  · cases (show _ = _ from hv)
    rw [val_ret_some] at hq; subst hq
    rename_i k n
    refine ⟨_, ?_, rfl⟩
    simp only [Op.unary, Op.intBits]
    cases k.signed <;> rfl
  · cases (show _ = _ from hv)
    rw [val_ret_some] at hq; subst hq
    exact ⟨.bool _, by simp [Op.unary], rfl⟩
  · cases hq
theorem foldl_bytes (ns : List Int) (s : ByteArray) : ns.foldl (fun r n => r.push (UInt8.ofNat n.toNat)) s = ⟨s.data ++ (ns.map fun n => UInt8.ofNat n.toNat).toArray⟩ := by
  induction ns generalizing s with
  | nil => simp
  | cons n r ih =>
    rw [List.foldl_cons, ih]
    congr 1
    apply Array.ext'
    simp [ByteArray.push]
theorem bytes_cells {l : List Int} {arr : Array Value} {off : Nat} (hsz : off + l.length ≤ arr.size) (h : ∀ i y, l[i]? = some y → Rd w F (.int .u8) y (cut arr (off + i * 1) 1)) : cut arr off l.length = l.map (Value.int .u8) := by
  apply List.ext_getElem?
  intro i
  by_cases hi : i < l.length
  · have h1 := h i l[i] (by simp [hi])
    have h2 : cut arr (off + i * 1) 1 = [.int .u8 l[i]] := h1
    rw [Nat.mul_one, cut_one (by omega)] at h2
    simp only [List.cons.injEq, and_true] at h2
    unfold cut
    rw [List.getElem?_take, if_pos hi, List.getElem?_drop, Array.getElem?_toList, Array.getElem?_eq_getElem (by omega), h2]
    simp [hi]
  · rw [List.getElem?_eq_none (by rw [cut_length hsz]; omega), List.getElem?_eq_none (by simpa using hi)]
theorem bytes_sound {x : Value} {l : List Int} (h : ElAt w F (.int .u8) x l) : (Conv.bytesToString x).run P w = .ok (.string (strOf l)) w := by
  obtain ⟨A, n, c, rfl, rfl, h3, h4, h5⟩ := h
  cases A with
  | none =>
    have := h4 rfl
    have : l = [] := List.length_eq_zero_iff.1 (by omega)
    subst this
    rfl
  | some ad =>
    by_cases hl : l = []
    · subst hl
      have := run_bytesToString (P := P) w ad 0 c [] (by simp [loadCells, loadCellsFrom])
      exact this
    · obtain ⟨b, off, arr, T, fr, e, k1, k2, k3⟩ := h5 hl
      cases e
      have hsz : off + l.length ≤ arr.size := by simpa [Ty.cells] using k2
      have hc := bytes_cells hsz k3
      have := run_bytesToString (P := P) w ⟨b, off, none⟩ l.length c l (by rw [run_loadCells' k1 hsz, hc])
      rw [this, foldl_bytes]
      simp [strOf]
theorem index_sound {t : TypeId} {v i r : AV} {x y : Value} (hv : R w F g ob v x) (hi : R w F g ob i y) {H : Nat → Option Ob} (hq : (indexQ P t v i).val H = some r) :
    ∃ z, (Instr.index t x y).run P w = .ok z w ∧ R w F g ob r z := by
  unfold indexQ at hq
  split at hq
  · rename_i s k n hu
    cases (show _ = _ from hv); cases (show _ = _ from hi)
    simp only [val_br_some, val_opt_some, val_ret_some, val_fail_some, and_false, or_false, decide_eq_true_eq] at hq
    obtain ⟨h0, b, hb, rfl⟩ := hq
    have hlt : n.toNat < s.size := (Array.getElem?_eq_some_iff.mp hb).1
    refine ⟨_, ?_, rfl⟩
    rw [run_index_string w t s k n hu, dif_pos ⟨h0, by omega⟩]
    have : s[n.toNat]'hlt = b := by
      have := (Array.getElem?_eq_some_iff.mp hb).2
      exact this
    rw [this]
  · rename_i len el cs k n hu
    cases (show _ = _ from hi)
    obtain ⟨vs, rfl, hr⟩ := hv
    rw [val_guard_some] at hq
    obtain ⟨hd1, hq⟩ := hq
    obtain ⟨d, hd⟩ := isSomeT_spec hd1
    simp only [val_br_some, val_fail_some, and_false, or_false, decide_eq_true_eq] at hq
    obtain ⟨h0, h1, hq⟩ := hq
    obtain ⟨z, hz, hR⟩ := part_run (P := P) (w := w) hr hq
    refine ⟨z, ?_, hR⟩
    have hb : 0 ≤ n ∧ n < (len : Int) := ⟨h0, h1⟩
    simp [Instr.index, asIntOf, run_underlying hu, hb, run_sizeOf' hd, hz]
  · cases hq
end Go.Proofs.YtdbenenonfldkaaDoor.PE
