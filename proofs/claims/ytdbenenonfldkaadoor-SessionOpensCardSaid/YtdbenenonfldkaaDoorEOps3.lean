/- Slices that are read: elements, lengths, cuts, indexes; arithmetic and comparisons. -/
import Derived.Test.YtdbenenonfldkaaDoorEOps2
namespace Go.Proofs.YtdbenenonfldkaaDoor.PE
set_option linter.unusedVariables false
open Go.RowKit
variable {P : Program} {w : World} {F : Nat → Prop} {g : Nat → Loc} {mine : Nat → Prop} {σ : St} {a : Act}
theorem ilen_eq {β : Type} (l : List β) : ilen l = (l.length : Int) := by
  induction l with
  | nil => rfl
  | cons x r ih =>
    have : ilen (x :: r) = ilen r + 1 := rfl
    rw [this, ih, List.length_cons]; omega
theorem isize_eq (s : ByteArray) : isize s = (s.size : Int) := by
  unfold isize
  rw [ilen_eq]
  rfl
/-- A slice value whose elements read as this list. -/
def ElAt (w : World) (F : Nat → Prop) (e : Ty) (x : Value) (l : List e.den) : Prop :=
  ∃ A n c, x = .slice A n c ∧ n = l.length ∧ n ≤ c ∧ (A = none → c = 0) ∧
    (l ≠ [] → ∃ b off arr T fr, A = some ⟨b, off, none⟩ ∧ w.heap[b]? = some (.cells arr T fr) ∧ off + l.length * e.cells ≤ arr.size ∧ ∀ i y, l[i]? = some y → Rd w F e y (cut arr (off + i * e.cells) e.cells))
theorem ElAt.of_rd {e : Ty} {l : List e.den} {x : Value} (h : Rd w F (.slice e) l [x]) : ElAt w F e x l := by
  obtain ⟨A, n, c, h1, h2, h3, h4, h5⟩ := h
  simp only [List.cons.injEq, and_true] at h1
  refine ⟨A, n, c, h1, h2, h3, h4, fun hl => ?_⟩
  cases A with
  | none =>
    have := h4 rfl
    exact absurd (List.length_eq_zero_iff.1 (by omega)) hl
  | some ad =>
    obtain ⟨k1, k2, arr, T, fr, k3, k4, k5⟩ := h5 ad rfl hl
    exact ⟨ad.block, ad.off, arr, T, fr, by rw [← k2], k3, k4, k5⟩
theorem castRow_self {e : Ty} (h : e = e) (l : List e.den) : castRow h l = l := rfl
/-- A row object's elements, from a place on. -/
theorem row_el (h : Rel w F g mine σ a) {id : Nat} {e : Ty} {l : List e.den} {cm : Nat} {frz : Bool} (ho : σ.ob id = some (.row e l cm frz)) {off len : Nat} {x : Value}
    (hs : SlAt (g id) off len x) (hle : off + len ≤ l.length) : ElAt w F e x ((l.drop off).take len) := by
  obtain ⟨A, rfl, s1, s2, s3⟩ := hs
  obtain ⟨k1, k2, _, k4, k5⟩ := h.ob id _ ho
  have hlen : ((l.drop off).take len).length = len := by simp; omega
  refine ⟨A, len, _, rfl, hlen.symm, by omega, fun hA => ?_, fun hne => ?_⟩
  · cases hb : (g id).blk with
    | none => rw [k4 hb]; omega
    | some b =>
      by_cases hc : (g id).cap - off = 0
      · exact hc
      · rw [s2 b hb hc] at hA; cases hA
  · have hpos : 0 < len := by
      rcases Nat.eq_zero_or_pos len with h0 | h0
      · exfalso; apply hne; rw [h0]; simp
      · exact h0
    cases hb : (g id).blk with
    | none => have := k4 hb; omega
    | some b =>
      obtain ⟨c, T, fr, q1, q2, q3, _, _, q6⟩ := k5 b hb
      refine ⟨b, off * e.cells, c, T, fr, by rw [← k1]; exact s2 b hb (by omega), q1, ?_, fun i y hy => ?_⟩
      · rw [hlen, ← Nat.add_mul, q2]; exact Nat.mul_le_mul_right _ (by omega)
      · have hi : i < len := by rw [← hlen]; exact (List.getElem?_eq_some_iff.mp hy).1
        rw [List.getElem?_take, if_pos hi, List.getElem?_drop] at hy
        have := q6 (off + i) y hy
        rwa [Nat.add_mul] at this
theorem elems_sound (h : Rel w F g mine σ a) {e : Ty} {v : AV} {x : Value} (hv : R w F g σ.ob v x) {l : List e.den} (hq : (Q.elems e v).val σ.ob = some l) : ElAt w F e x l := by
  cases v with
  | nils =>
    simp only [Q.elems, val_ret_some] at hq
    subst hq
    cases (show _ = _ from hv)
    exact ⟨none, 0, 0, rfl, rfl, Nat.le_refl _, fun _ => rfl, fun h => absurd rfl h⟩
  | fz e' l' full nn =>
    simp only [Q.elems] at hq
    split at hq
    · rename_i he hh
      subst he
      simp only [val_ret_some, castRow_self] at hq
      subst hq
      exact ElAt.of_rd hv.1
    · cases hq
  | sl id off len =>
    simp only [Q.elems, val_ask_some] at hq
    split at hq
    · rename_i e' l' cm frz ho
      split at hq
      · rename_i he hh
        subst he
        simp only [val_br_some, val_ret_some, val_fail_some, castRow_self, and_false, or_false] at hq
        obtain ⟨hle, rfl⟩ := hq
        exact row_el h ho hv (Nat.le_of_ble_eq_true hle)
      · cases hq
    · cases hq
  | ow id =>
    simp only [Q.elems, val_ask_some] at hq
    split at hq
    · rename_i e' l' cm frz ho
      split at hq
      · rename_i he hh
        subst he
        simp only [val_ret_some, castRow_self] at hq
        subst hq
        have := row_el h ho (hv.2 l'.length (by rw [ho]; rfl)) (by omega)
        simpa using this
      · cases hq
    · cases hq
  | _ => cases hq
theorem fz_slice {e : Ty} {l : List e.den} {full nn : Bool} {ob : Nat → Option Ob} {x : Value} (hv : R w F g ob (.fz e l full nn) x) : ∃ A n c, x = .slice A n c ∧ n = l.length := by
  obtain ⟨⟨A, n, c, e1, e2, _⟩, _⟩ := hv
  simp only [List.cons.injEq, and_true] at e1
  exact ⟨A, n, c, e1, e2⟩
theorem len_sound {t ty : TypeId} {v r : AV} {x : Value} (hv : R w F g σ.ob v x) (hq : (lenQ P t v).val σ.ob = some r) :
    ∃ y, (Builtin.len_ #[t] ty #[x]).run P w = .ok y w ∧ R w F g σ.ob r y := by
  unfold lenQ at hq
  split at hq
  · rename_i s hu
    rw [val_ret_some] at hq; subst hq
    cases (show _ = _ from hv)
    exact ⟨_, by simp [Builtin.len_, run_underlying hu]; rfl, by rw [isize_eq]; rfl⟩
  · rename_i e' e l full nn hu
    rw [val_ret_some] at hq; subst hq
    obtain ⟨A, n, c, rfl, rfl⟩ := fz_slice hv
    exact ⟨_, by simp [Builtin.len_, run_underlying hu]; rfl, by rw [ilen_eq]; rfl⟩
  · rename_i e' id off len hu
    rw [val_ret_some] at hq; subst hq
    obtain ⟨A, rfl, _⟩ := hv
    exact ⟨_, by simp [Builtin.len_, run_underlying hu]; rfl, rfl⟩
  · rename_i e' id hu
    rw [val_ask_some] at hq
    split at hq
    · rename_i e l cm frz ho
      rw [val_ret_some] at hq; subst hq
      obtain ⟨A, rfl, _⟩ := hv.2 l.length (by rw [ho]; rfl)
      exact ⟨_, by simp [Builtin.len_, run_underlying hu]; rfl, by rw [ilen_eq]; rfl⟩
    · cases hq
    · cases hq
  · rename_i e' hu
    rw [val_ret_some] at hq; subst hq
    cases (show _ = _ from hv)
    exact ⟨_, by simp [Builtin.len_, run_underlying hu]; rfl, rfl⟩
  · rename_i n e v hu
    rw [val_ret_some] at hq; subst hq
    exact ⟨_, by simp [Builtin.len_, run_underlying hu]; rfl, rfl⟩
  · cases hq
theorem minMax_sound {mx : Bool} {v u r : AV} {x y : Value} {ob : Nat → Option Ob} (hv : R w F g ob v x) (hu : R w F g ob u y) {H : Nat → Option Ob} (hq : (minMaxQ mx [v, u]).val H = some r) :
    ∃ z, (if mx then Builtin.max2 x y else Builtin.min2 x y).run P w = .ok z w ∧ R w F g ob r z := by
  unfold minMaxQ at hq
  split at hq
  · rename_i k m k' m' he
    simp only [List.cons.injEq, and_true] at he
    obtain ⟨rfl, rfl⟩ := he
    cases (show _ = _ from hv); cases (show _ = _ from hu)
    split at hq
    · rename_i hk _
      subst hk
      rw [val_ret_some] at hq; subst hq
      cases mx
      · exact ⟨_, rfl, rfl⟩
      · exact ⟨_, rfl, rfl⟩
    · cases hq
  · cases hq
theorem addOff_sound {v r : AV} {x : Value} {n : Nat} {ob : Nat → Option Ob} (hv : R w F g ob v x) {H : Nat → Option Ob} (hq : (addOff v n).val H = some r) :
    ∃ b o, x = .pointer (some ⟨b, o, none⟩) ∧ R w F g ob r (.pointer (some ⟨b, o + n, none⟩)) := by
  cases v with
  | ptr id off =>
    simp only [addOff, val_ret_some] at hq; subst hq
    obtain ⟨b, h1, rfl⟩ := hv
    exact ⟨b, off, rfl, b, h1, rfl⟩
  | eptr id i off =>
    simp only [addOff, val_ret_some] at hq; subst hq
    obtain ⟨b, h1, rfl⟩ := hv
    exact ⟨b, _, rfl, b, h1, by rw [Nat.add_assoc]⟩
  | fptr t y off =>
    simp only [addOff, val_ret_some] at hq; subst hq
    obtain ⟨ad, rfl, h2⟩ := hv
    exact ⟨ad.block, _, rfl, ad, by rw [Nat.add_assoc], h2⟩
  | _ => cases hq
theorem add_addr (b o n : Nat) : (⟨b, o, none⟩ : Addr).add n = ⟨b, o + n, none⟩ := by
  by_cases h : n = 0 <;> simp [Addr.add, h]
theorem field_sound {s : TypeId} {fs : Array Field} {f : Nat} {fd : Field} {v r : AV} {x : Value} {ob : Nat → Option Ob} (hu : P.underlying s = some (.struct fs)) (hf : fs.toList[f]? = some fd)
    (hv : R w F g ob v x) {H : Nat → Option Ob} (hq : (guardQ (isSomeT P fd.type && !(Nat.beq (P.cellsOf fd.type) 0)) (addOff v fd.offset)).val H = some r) : ∃ y, (Instr.fieldAt s x f).run P w = .ok y w ∧ R w F g ob r y := by
  rw [val_guard_some, Bool.and_eq_true] at hq
  obtain ⟨⟨h1, h2⟩, hq⟩ := hq
  obtain ⟨d, hd⟩ := isSomeT_spec h1
  have hne : ¬ P.cellsOf fd.type = 0 := fun e => by rw [e] at h2; cases h2
  obtain ⟨b, o, rfl, hr⟩ := addOff_sound hv hq
  refine ⟨_, ?_, hr⟩
  rw [Array.getElem?_toList] at hf
  unfold Instr.fieldAt
  simp only [Sem.run_bind, run_underlying hu, Result.andThen_ok, hf, sureAddr_run, fieldPlace, run_sizeOf' hd, hne, if_false, add_addr]
  rfl
theorem fz_elem {e : Ty} {l : List e.den} {full nn : Bool} {ob : Nat → Option Ob} {x : Value} (hv : R w F g ob (.fz e l full nn) x) {i : Nat} {y : e.den} (hy : l[i]? = some y) :
    ∃ ad n c, x = .slice (some ad) n c ∧ n = l.length ∧ ad.spot = none ∧ R w F g ob (.fptr e y 0) (.pointer (some ⟨ad.block, ad.off + i * e.cells, none⟩)) := by
  obtain ⟨⟨A, n, c, e1, e2, e3, e4, e5⟩, _⟩ := hv
  simp only [List.cons.injEq, and_true] at e1
  subst e1
  have hi : i < l.length := (List.getElem?_eq_some_iff.mp hy).1
  have hne : l ≠ [] := fun h => by rw [h] at hi; simp at hi
  cases A with
  | none => have := e4 rfl; omega
  | some ad =>
    obtain ⟨k1, k2, arr, T, fr, k3, k4, k5⟩ := e5 ad rfl hne
    refine ⟨ad, n, c, rfl, e2, k2, ⟨ad.block, ad.off + i * e.cells, none⟩, rfl, k1, arr, T, fr, k3, ?_, k5 i y hy⟩
    have : (i + 1) * e.cells ≤ l.length * e.cells := Nat.mul_le_mul_right _ hi
    rw [Nat.succ_mul] at this
    show ad.off + i * e.cells + e.cells ≤ arr.size
    omega
theorem run_bounds {n : Nat} {k : IntKind} {i : Int} {x : Sem Value} (h0 : 0 ≤ i) (h1 : i < n) {α : Type} (f : α) : (if 0 ≤ i ∧ i < (n : Int) then f else (f : α)) = f := by simp
theorem indexAddr_sound (h : Rel w F g mine σ a) {t : TypeId} {v i r : AV} {x y : Value} (hv : R w F g σ.ob v x) (hi : R w F g σ.ob i y) (hq : (indexAddrQ P t v i).val σ.ob = some r) :
    ∃ z, (Instr.indexAt t x y).run P w = .ok z w ∧ R w F g σ.ob r z := by
  unfold indexAddrQ at hq
  split at hq
  · rename_i el e l full nn k n hu
    cases (show _ = _ from hi)
    rw [val_guard_some] at hq
    obtain ⟨hg, hq⟩ := hq
    simp only [val_br_some, val_opt_some, val_ret_some, val_fail_some, and_false, or_false, decide_eq_true_eq] at hq
    obtain ⟨h0, e1, he1, rfl⟩ := hq
    obtain ⟨ad, m, c, rfl, hm, hs, hR⟩ := fz_elem hv he1
    have hlt : n.toNat < l.length := (List.getElem?_eq_some_iff.mp he1).1
    obtain ⟨d, hd⟩ := isSomeT_spec (Bool.and_eq_true _ _ ▸ hg).1
    have hsz : P.cellsOf el = e.cells := Nat.eq_of_beq_eq_true (Bool.and_eq_true _ _ ▸ hg).2
    refine ⟨_, ?_, hR⟩
    have hb : 0 ≤ n ∧ n < (m : Int) := ⟨h0, by omega⟩
    have hadd : ad.add (n.toNat * e.cells) = ⟨ad.block, ad.off + n.toNat * e.cells, none⟩ := by
      obtain ⟨ab, ao, sp⟩ := ad
      simp only at hs
      subst hs
      exact add_addr _ _ _
    simp only [Instr.indexAt, Sem.run_bind, asIntOf, Sem.run_pure, Result.andThen_ok, run_underlying hu, hb, and_self, if_true, run_sizeOf' hd, hsz, hadd]
  · rename_i el id off len k n hu
    cases (show _ = _ from hi)
    rw [val_guard_some] at hq
    obtain ⟨hg, hq⟩ := hq
    obtain ⟨d, hd⟩ := isSomeT_spec (Bool.and_eq_true _ _ ▸ hg).1
    simp only [val_br_some, val_ask_some, val_fail_some, and_false, or_false, decide_eq_true_eq] at hq
    obtain ⟨h0, h1, hq⟩ := hq
    obtain ⟨A, rfl, s1, s2, s3⟩ := hv
    have hc : (g id).cap - off ≠ 0 := by omega
    have key : ∀ b, (g id).blk = some b → (Instr.indexAt t (.slice A len ((g id).cap - off)) (.int k n)).run P w = .ok (.pointer (some ⟨b, off * (g id).sz + n.toNat * P.cellsOf el, none⟩)) w := by
      intro b hb
      have hA := s2 b hb hc
      subst hA
      have hb' : 0 ≤ n ∧ n < (len : Int) := ⟨h0, h1⟩
      simp [Instr.indexAt, asIntOf, run_underlying hu, hb', run_sizeOf' hd, add_addr]
    split at hq
    · rename_i e l cm frz ho
      simp only [val_guard_some, val_ret_some] at hq
      obtain ⟨hsz, rfl⟩ := hq
      have hsz := Nat.eq_of_beq_eq_true hsz
      obtain ⟨k1, k2, _, k4, k5⟩ := h.ob id _ ho
      cases hb : (g id).blk with
      | none => have := k4 hb; omega
      | some b => exact ⟨_, key b hb, b, hb, by rw [k1, hsz, Nat.add_zero, Nat.add_mul]⟩
    · rename_i cs ho
      simp only [val_guard_some, val_ret_some] at hq
      obtain ⟨hsz, rfl⟩ := hq
      have hsz := Nat.eq_of_beq_eq_true hsz
      obtain ⟨b, c, T, fr, k1, _, _, _, _, _, _, k7⟩ := h.ob id _ ho
      exact ⟨_, key b k1, b, k1, by rw [k7, hsz, Nat.mul_one, Nat.mul_one]⟩
    · cases hq
  · rename_i el id k n hu
    cases (show _ = _ from hi)
    rw [val_guard_some] at hq
    obtain ⟨hg, hq⟩ := hq
    obtain ⟨d, hd⟩ := isSomeT_spec (Bool.and_eq_true _ _ ▸ hg).1
    simp only [val_br_some, val_ask_some, val_fail_some, and_false, or_false, decide_eq_true_eq] at hq
    obtain ⟨h0, hq⟩ := hq
    split at hq
    · rename_i e l cm frz ho
      simp only [val_guard_some, val_br_some, val_ret_some, val_fail_some, and_false, or_false, decide_eq_true_eq, ilen_eq] at hq
      obtain ⟨hsz, h1, rfl⟩ := hq
      have hsz := Nat.eq_of_beq_eq_true hsz
      obtain ⟨A, rfl, s1, s2, s3⟩ := hv.2 l.length (by rw [ho]; rfl)
      obtain ⟨k1, k2, _, k4, k5⟩ := h.ob id _ ho
      cases hb : (g id).blk with
      | none => have := k4 hb; omega
      | some b =>
        have hA := s2 b hb (by omega)
        subst hA
        have hb' : 0 ≤ n ∧ n < (l.length : Int) := ⟨h0, h1⟩
        exact ⟨_, by simp [Instr.indexAt, asIntOf, run_underlying hu, hb', run_sizeOf' hd, add_addr]; rfl, b, hb, by rw [k1, hsz]; simp⟩
    · cases hq
  · rename_i v len el k n hu
    cases (show _ = _ from hi)
    rw [val_guard_some] at hq
    obtain ⟨hg, hq⟩ := hq
    obtain ⟨d, hd⟩ := isSomeT_spec (Bool.and_eq_true _ _ ▸ hg).1
    simp only [val_br_some, val_fail_some, and_false, or_false, decide_eq_true_eq] at hq
    obtain ⟨h0, h1, hq⟩ := hq
    obtain ⟨b, o, rfl, hR⟩ := addOff_sound hv hq
    have hb' : 0 ≤ n ∧ n < (len : Int) := ⟨h0, h1⟩
    refine ⟨_, ?_, hR⟩
    simp [Instr.indexAt, asIntOf, run_underlying hu, hb', run_sizeOf' hd, add_addr, sureAddr_run]
  · cases hq
end Go.Proofs.YtdbenenonfldkaaDoor.PE
