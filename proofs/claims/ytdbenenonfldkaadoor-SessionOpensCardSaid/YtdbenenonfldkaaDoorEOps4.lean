/- Cuts, indexes of texts, arithmetic and comparisons, held against the model's. -/
import Derived.Test.YtdbenenonfldkaaDoorEOps3
namespace Go.Proofs.YtdbenenonfldkaaDoor.PE
set_option linter.unusedVariables false
open Go.RowKit
variable {P : Program} {w : World} {F : Nat → Prop} {g : Nat → Loc} {mine : Nat → Prop} {σ : St} {a : Act} {ob : Nat → Option Ob}
def Bnd (d : Int) (v : Option Value) (n : Int) : Prop := (v = none ∧ n = d) ∨ ∃ k, v = some (.int k n)
def ROpt (w : World) (F : Nat → Prop) (g : Nat → Loc) (ob : Nat → Option Ob) : Option AV → Option Value → Prop
  | none, v => v = none
  | some a, v => ∃ x, v = some x ∧ R w F g ob a x
theorem bnd_of {d : Int} {lo : Option AV} {lv : Option Value} {n : Int} (hr : ROpt w F g ob lo lv) (hb : boundOf d lo = some n) : Bnd d lv n := by
  cases lo with
  | none =>
    simp only [boundOf, Option.some.injEq] at hb
    exact .inl ⟨hr, hb.symm⟩
  | some v =>
    obtain ⟨x, rfl, hx⟩ := hr
    cases v with
    | int k m =>
      simp only [boundOf, Option.some.injEq] at hb
      subst hb
      exact .inr ⟨k, by rw [show x = .int k m from hx]⟩
    | _ => simp [boundOf] at hb
theorem run_cut {t el : TypeId} (hu : P.underlying t = some (.slice el)) {d : TypeDesc} (hd : P.underlying el = some d) {A : Option Addr} {len cap : Nat} {lv hv : Option Value} {lo hi : Int}
    (hl : Bnd 0 lv lo) (hh : Bnd len hv hi) (h0 : 0 ≤ lo) (h1 : lo ≤ hi) (h2 : hi ≤ cap) :
    (Instr.sliceAt t (.slice A len cap) lv hv none).run P w = .ok (.slice (if cap = lo.toNat then A else A.map (·.add (lo.toNat * P.cellsOf el))) (hi.toNat - lo.toNat) (cap - lo.toNat)) w := by
  have hhn : ((hi.toNat : Nat) : Int) = hi := Int.toNat_of_nonneg (by omega)
  have sb : ∀ (k : IntKind) (code : BoundsCode), (Instr.sliceBound (.int k lo) hi.toNat code).run P w = .ok lo.toNat w := fun k code => run_sliceBound w k lo _ code h0 (by omega)
  have sh : ∀ (k : IntKind) (code : BoundsCode), (Instr.sliceBound (.int k hi) cap code).run P w = .ok hi.toNat w := fun k code => run_sliceBound w k hi _ code (by omega) h2
  rcases hl with ⟨rfl, rfl⟩ | ⟨kl, rfl⟩ <;> rcases hh with ⟨rfl, rfl⟩ | ⟨kh, rfl⟩
  · simp [Instr.sliceAt, Instr.slice, Instr.sliceBounds, run_underlying hu, run_sizeOf' hd]
  · simp [Instr.sliceAt, Instr.slice, Instr.sliceBounds, run_underlying hu, run_sizeOf' hd, sh]
  · have := sb kl .sliceB
    simp only [Int.toNat_natCast] at this
    simp [Instr.sliceAt, Instr.slice, Instr.sliceBounds, run_underlying hu, run_sizeOf' hd, this]
  · simp [Instr.sliceAt, Instr.slice, Instr.sliceBounds, run_underlying hu, run_sizeOf' hd, sh, sb]
theorem run_cut3 {t el : TypeId} (hu : P.underlying t = some (.slice el)) {d : TypeDesc} (hd : P.underlying el = some d) {A : Option Addr} {len cap : Nat} {lv : Option Value} {kh km : IntKind} {lo hi mx : Int}
    (hl : Bnd 0 lv lo) (h0 : 0 ≤ lo) (h1 : lo ≤ hi) (h2 : hi ≤ mx) (h3 : mx ≤ cap) :
    (Instr.sliceAt t (.slice A len cap) lv (some (.int kh hi)) (some (.int km mx))).run P w = .ok (.slice (if mx.toNat = lo.toNat then A else A.map (·.add (lo.toNat * P.cellsOf el))) (hi.toNat - lo.toNat) (mx.toNat - lo.toNat)) w := by
  have hhn : ((hi.toNat : Nat) : Int) = hi := Int.toNat_of_nonneg (by omega)
  have hmn : ((mx.toNat : Nat) : Int) = mx := Int.toNat_of_nonneg (by omega)
  have sb : ∀ (k : IntKind) (code : BoundsCode), (Instr.sliceBound (.int k lo) hi.toNat code).run P w = .ok lo.toNat w := fun k code => run_sliceBound w k lo _ code h0 (by omega)
  have sh : ∀ (k : IntKind) (code : BoundsCode), (Instr.sliceBound (.int k hi) mx.toNat code).run P w = .ok hi.toNat w := fun k code => run_sliceBound w k hi _ code (by omega) (by omega)
  have sm : ∀ (k : IntKind) (code : BoundsCode), (Instr.sliceBound (.int k mx) cap code).run P w = .ok mx.toNat w := fun k code => run_sliceBound w k mx _ code (by omega) h3
  rcases hl with ⟨rfl, rfl⟩ | ⟨kl, rfl⟩
  · simp [Instr.sliceAt, Instr.slice, Instr.sliceBounds, run_underlying hu, run_sizeOf' hd, sh, sm]
  · simp [Instr.sliceAt, Instr.slice, Instr.sliceBounds, run_underlying hu, run_sizeOf' hd, sh, sb, sm]
theorem RowAt.cut {e : Ty} {A : Addr} {l : List e.den} (h : RowAt w F (Rd w F e) e.cells A l) {lo hi : Nat} (h1 : lo ≤ hi) (h2 : hi ≤ l.length) (hsp : A.spot = none) :
    RowAt w F (Rd w F e) e.cells (A.add (lo * e.cells)) ((l.take hi).drop lo) := by
  obtain ⟨k1, k2, arr, T, fr, k3, k4, k5⟩ := h
  have hA : A.add (lo * e.cells) = ⟨A.block, A.off + lo * e.cells, none⟩ := by
    obtain ⟨ab, ao, sp⟩ := A
    simp only at hsp
    subst hsp
    exact add_addr _ _ _
  rw [hA]
  have hlen : ((l.take hi).drop lo).length = hi - lo := by simp; omega
  refine ⟨k1, rfl, arr, T, fr, k3, ?_, fun i x hx => ?_⟩
  · rw [hlen]
    have : lo * e.cells + (hi - lo) * e.cells ≤ l.length * e.cells := by rw [← Nat.add_mul]; exact Nat.mul_le_mul_right _ (by omega)
    show A.off + lo * e.cells + _ ≤ _
    omega
  · have hi' : i < hi - lo := by rw [← hlen]; exact (List.getElem?_eq_some_iff.mp hx).1
    rw [List.getElem?_drop, List.getElem?_take, if_pos (by omega)] at hx
    have := k5 _ _ hx
    rw [Nat.add_mul, ← Nat.add_assoc] at this
    exact this
theorem fz_cut {e : Ty} {l : List e.den} {full nn : Bool} {A : Option Addr} {n c m : Nat} (hv : R w F g ob (.fz e l full nn) (.slice A n c)) {lo hi : Nat} (h1 : lo ≤ hi) (h2 : hi ≤ l.length) (h3 : hi ≤ m) (hm : m ≤ c) {full' : Bool} (hf : full' = true → m = hi) :
    R w F g ob (.fz e ((l.take hi).drop lo) full' nn) (.slice (if m = lo then A else A.map (·.add (lo * e.cells))) (hi - lo) (m - lo)) := by
  obtain ⟨⟨A', n', c', e1, e2, e3, e4, e5⟩, h6⟩ := hv
  simp only [List.cons.injEq, and_true, Value.slice.injEq] at e1
  obtain ⟨rfl, rfl, rfl⟩ := e1
  have hlen : ((l.take hi).drop lo).length = hi - lo := by simp; omega
  refine ⟨⟨_, _, _, rfl, hlen.symm, by omega, fun hA => ?_, fun ad had hne => ?_⟩, fun A1 n1 c1 he => ?_⟩
  · by_cases hq : m = lo
    · omega
    · rw [if_neg hq] at hA
      cases A with
      | none => have := e4 rfl; omega
      | some ad => cases hA
  · have hlt : lo < hi := by
      rcases Nat.lt_or_ge lo hi with h' | h'
      · exact h'
      · exfalso; apply hne; apply List.length_eq_zero_iff.1; omega
    rw [if_neg (by omega)] at had
    cases A with
    | none => cases had
    | some a0 =>
      simp only [Option.map_some, Option.some.injEq] at had
      subst had
      have hl : l ≠ [] := fun h => by rw [h] at h2; simp at h2; omega
      have hrow := e5 a0 rfl hl
      exact hrow.cut h1 h2 hrow.2.1
  · simp only [Value.slice.injEq] at he
    obtain ⟨rfl, rfl, rfl⟩ := he
    refine ⟨fun hf' => by rw [hf hf'], fun hn => ?_⟩
    have := (h6 A n c rfl).2 hn
    by_cases hq : m = lo
    · rw [if_pos hq]; exact this
    · rw [if_neg hq]
      cases A with
      | none => exact absurd rfl this
      | some ad => simp
theorem sl_cut {L : Loc} {off len : Nat} {A : Option Addr} {n c : Nat} (hv : SlAt L off len (.slice A n c)) {lo hi : Nat} (h1 : lo ≤ hi) (h2 : off + hi ≤ L.cap) :
    SlAt L (off + lo) (hi - lo) (.slice (if c = lo then A else A.map (·.add (lo * L.sz))) (hi - lo) (c - lo)) := by
  obtain ⟨A', e1, s1, s2, s3⟩ := hv
  simp only [Value.slice.injEq] at e1
  obtain ⟨rfl, rfl, rfl⟩ := e1
  refine ⟨_, by rw [show L.cap - off - lo = L.cap - (off + lo) by omega], by omega, fun b hb hc => ?_, fun hb => ?_⟩
  · rw [if_neg (by omega), s2 b hb (by omega)]
    simp only [Option.map_some, add_addr, Nat.add_mul]
  · rw [s3 hb]; simp
theorem slice_sound (h : Rel w F g mine σ a) {t : TypeId} {v r : AV} {x : Value} (hv : R w F g σ.ob v x) {lo hi mx : Option AV} {lv hv' mv : Option Value}
    (hl : ROpt w F g σ.ob lo lv) (hh : ROpt w F g σ.ob hi hv') (hm : ROpt w F g σ.ob mx mv) (hq : (sliceQ P t v lo hi mx).val σ.ob = some r) :
    ∃ y, (Instr.sliceAt t x lv hv' mv).run P w = .ok y w ∧ R w F g σ.ob r y := by
  unfold sliceQ at hq
  split at hq
  · -- a text
    rename_i s hu
    cases (show _ = _ from hv); cases (show _ = _ from hm)
    split at hq
    · rename_i p q hp hq'
      simp only [val_br_some, val_ret_some, val_fail_some, and_false, or_false, decide_eq_true_eq, isize_eq] at hq
      obtain ⟨h0, h1, h2, rfl⟩ := hq
      have b1 := bnd_of hl hp
      rw [isize_eq] at hq'
      have b2 := bnd_of hh hq'
      have hhn : ((q.toNat : Nat) : Int) = q := Int.toNat_of_nonneg (by omega)
      have sb : ∀ (k : IntKind) (code : BoundsCode), (Instr.sliceBound (.int k p) q.toNat code).run P w = .ok p.toNat w := fun k code => run_sliceBound w k p _ code h0 (by omega)
      have sh : ∀ (k : IntKind) (code : BoundsCode), (Instr.sliceBound (.int k q) s.size code).run P w = .ok q.toNat w := fun k code => run_sliceBound w k q _ code (by omega) h2
      refine ⟨_, ?_, rfl⟩
      rcases b1 with ⟨rfl, rfl⟩ | ⟨kl, rfl⟩ <;> rcases b2 with ⟨rfl, rfl⟩ | ⟨kh, rfl⟩
      · simp [Instr.sliceAt, Instr.slice, Instr.sliceBounds, run_underlying hu]
      · simp [Instr.sliceAt, Instr.slice, Instr.sliceBounds, run_underlying hu, sh]
      · have := sb kl .sliceB
        simp only [Int.toNat_natCast] at this
        simp [Instr.sliceAt, Instr.slice, Instr.sliceBounds, run_underlying hu, this]
      · simp [Instr.sliceAt, Instr.slice, Instr.sliceBounds, run_underlying hu, sh, sb]
    · cases hq
  · -- data
    rename_i el e l full nn hu
    cases (show _ = _ from hm)
    split at hq
    · rename_i p q hp hq'
      simp only [val_guard_some, val_br_some, val_ret_some, val_fail_some, and_false, or_false, decide_eq_true_eq, ilen_eq, Bool.and_eq_true] at hq
      obtain ⟨⟨hd1, hsz⟩, h0, h1, h2, rfl⟩ := hq
      obtain ⟨d, hd⟩ := isSomeT_spec hd1
      have hsz := Nat.eq_of_beq_eq_true hsz
      have b1 := bnd_of hl hp
      rw [ilen_eq] at hq'
      have b2 := bnd_of hh hq'
      obtain ⟨A, n, c, rfl, rfl⟩ := fz_slice hv
      have hnc : l.length ≤ c := by
        obtain ⟨⟨_, _, _, e1, _, e3, _⟩, _⟩ := hv
        simp only [List.cons.injEq, and_true, Value.slice.injEq] at e1
        obtain ⟨rfl, rfl, rfl⟩ := e1
        exact e3
      refine ⟨_, run_cut hu hd b1 b2 h0 h1 (by omega), ?_⟩
      rw [hsz]
      refine fz_cut hv (by omega) (by omega) (by omega) (Nat.le_refl _) fun hf => ?_
      simp only [Bool.and_eq_true, Option.isNone_iff_eq_none] at hf
      have hcn := ((hv.2 _ _ _ rfl).1 hf.1)
      rw [hf.2] at hq'
      simp only [boundOf, Option.some.injEq] at hq'
      omega
    · cases hq
  · -- data, with a bound of its capacity
    rename_i el e l full nn m hu
    split at hq
    · rename_i p q c' hp hq' hc'
      simp only [val_guard_some, val_br_some, val_ret_some, val_fail_some, and_false, or_false, decide_eq_true_eq, ilen_eq, Bool.and_eq_true] at hq
      obtain ⟨⟨⟨hd1, hsz⟩, hisS⟩, h0, h1, h2, h3, rfl⟩ := hq
      obtain ⟨d, hd⟩ := isSomeT_spec hd1
      have hsz := Nat.eq_of_beq_eq_true hsz
      have b1 := bnd_of hl hp
      have b3 := bnd_of hm hc'
      obtain ⟨mx', rfl, _⟩ := hm
      rcases b3 with ⟨e0, _⟩ | ⟨km, e0⟩
      · cases e0
      cases e0
      cases hi with
      | none => simp at hisS
      | some hi' =>
        have b2 := bnd_of hh hq'
        obtain ⟨hx, rfl, _⟩ := hh
        rcases b2 with ⟨e0, _⟩ | ⟨kh, e0⟩
        · cases e0
        cases e0
        obtain ⟨A, n, c, rfl, rfl⟩ := fz_slice hv
        have hnc : l.length ≤ c := by
          obtain ⟨⟨_, _, _, e1, _, e3, _⟩, _⟩ := hv
          simp only [List.cons.injEq, and_true, Value.slice.injEq] at e1
          obtain ⟨rfl, rfl, rfl⟩ := e1
          exact e3
        refine ⟨_, run_cut3 hu hd b1 h0 h1 h2 (by omega), ?_⟩
        rw [hsz]
        exact fz_cut hv (by omega) (by omega) (by omega) (by omega) fun hf => by
          have := of_decide_eq_true hf; omega
    · cases hq
  · -- nil
    rename_i el hu
    cases (show _ = _ from hm); cases (show _ = _ from hv)
    split at hq
    · rename_i p q hp hq'
      simp only [val_guard_some, val_br_some, val_ret_some, val_fail_some, and_false, or_false, decide_eq_true_eq] at hq
      obtain ⟨hd1, rfl, rfl, rfl⟩ := hq
      obtain ⟨d, hd⟩ := isSomeT_spec hd1
      have b1 := bnd_of hl hp
      have b2 := bnd_of hh hq'
      exact ⟨_, run_cut (len := 0) hu hd b1 b2 (by omega) (by omega) (by omega), by simp [R]⟩
    · cases hq
  · -- a row of one's own, from a place on
    rename_i el id off len hu
    cases (show _ = _ from hm)
    split at hq
    · rename_i p q hp hq'
      rw [val_guard_some, Bool.and_eq_true] at hq
      obtain ⟨⟨hd1, _⟩, hq⟩ := hq
      obtain ⟨d, hd⟩ := isSomeT_spec hd1
      rw [val_ask_some] at hq
      split at hq
      · rename_i e l cm frz ho
        simp only [val_guard_some, val_br_some, val_ret_some, val_fail_some, and_false, or_false, decide_eq_true_eq, decide_eq_false_iff_not] at hq
        obtain ⟨hsz, h0, h1, hq⟩ := hq
        have hsz := Nat.eq_of_beq_eq_true hsz
        obtain ⟨k1, k2, k3, k4, k5⟩ := h.ob id _ ho
        have b1 := bnd_of hl hp
        have b2 := bnd_of hh hq'
        have hv2 := hv
        obtain ⟨A, rfl, s1, s2, s3⟩ := hv2
        have key : q ≤ (((g id).cap - off : Nat) : Int) → r = .sl id (off + p.toNat) (q.toNat - p.toNat) → ∃ y, (Instr.sliceAt t (.slice A len ((g id).cap - off)) lv hv' none).run P w = .ok y w ∧ R w F g σ.ob r y := by
          rintro hle rfl
          refine ⟨_, run_cut hu hd b1 b2 h0 h1 hle, ?_⟩
          rw [hsz, ← k1]
          exact sl_cut hv (by omega) (by omega)
        rcases hq with ⟨hle, rfl⟩ | ⟨_, hle, rfl⟩
        · exact key (by omega) rfl
        · exact key (by omega) rfl
      · cases hq
    · cases hq
  · -- a row of one's own, whole
    rename_i el id hu
    cases (show _ = _ from hm)
    rw [val_ask_some] at hq
    split at hq
    · rename_i e l cm frz ho
      split at hq
      · rename_i p q hp hq'
        simp only [val_guard_some, val_br_some, val_ret_some, val_fail_some, and_false, or_false, decide_eq_true_eq, decide_eq_false_iff_not, ilen_eq, Bool.and_eq_true] at hq
        obtain ⟨⟨hd1, hsz⟩, h0, h1, hq⟩ := hq
        obtain ⟨d, hd⟩ := isSomeT_spec hd1
        have hsz := Nat.eq_of_beq_eq_true hsz
        obtain ⟨k1, k2, k3, k4, k5⟩ := h.ob id _ ho
        have b1 := bnd_of hl hp
        rw [ilen_eq] at hq'
        have b2 := bnd_of hh hq'
        have hv2 := hv.2 l.length (by rw [ho]; rfl)
        have hv3 := hv2
        obtain ⟨A, rfl, s1, s2, s3⟩ := hv3
        have key : q ≤ (((g id).cap - 0 : Nat) : Int) → r = .sl id p.toNat (q.toNat - p.toNat) → ∃ y, (Instr.sliceAt t (.slice A l.length ((g id).cap - 0)) lv hv' none).run P w = .ok y w ∧ R w F g σ.ob r y := by
          rintro hle rfl
          refine ⟨_, run_cut hu hd b1 b2 h0 h1 hle, ?_⟩
          rw [hsz, ← k1]
          have := sl_cut hv2 (lo := p.toNat) (hi := q.toNat) (by omega) (by omega)
          rwa [Nat.zero_add] at this
        rcases hq with ⟨hle, rfl⟩ | ⟨_, hle, rfl⟩
        · exact key (by omega) rfl
        · exact key (by omega) rfl
      · cases hq
    · cases hq
  · -- .. only looked whether it may be
    rename_i el id m hu
    rw [val_ask_some] at hq
    split at hq
    · rename_i e l cm frz ho
      split at hq
      · rename_i p q c' hp hq' hc'
        simp only [val_guard_some, val_br_some, val_ret_some, val_fail_some, and_false, or_false, decide_eq_true_eq, ilen_eq, Bool.and_eq_true] at hq
        obtain ⟨⟨hd1, hisS⟩, h0, h1, h2, h3, rfl⟩ := hq
        obtain ⟨d, hd⟩ := isSomeT_spec hd1
        have b1 := bnd_of hl hp
        have b3 := bnd_of hm hc'
        obtain ⟨mx', rfl, _⟩ := hm
        rcases b3 with ⟨e0, _⟩ | ⟨km, e0⟩
        · cases e0
        cases e0
        cases hi with
        | none => simp at hisS
        | some hi' =>
          have b2 := bnd_of hh hq'
          obtain ⟨hx, rfl, _⟩ := hh
          rcases b2 with ⟨e0, _⟩ | ⟨kh, e0⟩
          · cases e0
          cases e0
          obtain ⟨A, rfl, s1, _⟩ := hv.2 l.length (by rw [ho]; rfl)
          exact ⟨_, run_cut3 hu hd b1 h0 h1 h2 (by omega), trivial⟩
      · cases hq
    · cases hq
  · rename_i el id off len m hu
    split at hq
    · rename_i p q c' hp hq' hc'
      simp only [val_guard_some, val_br_some, val_ret_some, val_fail_some, and_false, or_false, decide_eq_true_eq, ilen_eq, Bool.and_eq_true] at hq
      obtain ⟨⟨hd1, hisS⟩, h0, h1, h2, h3, rfl⟩ := hq
      obtain ⟨d, hd⟩ := isSomeT_spec hd1
      have b1 := bnd_of hl hp
      have b3 := bnd_of hm hc'
      obtain ⟨mx', rfl, _⟩ := hm
      rcases b3 with ⟨e0, _⟩ | ⟨km, e0⟩
      · cases e0
      cases e0
      cases hi with
      | none => simp at hisS
      | some hi' =>
        have b2 := bnd_of hh hq'
        obtain ⟨hx, rfl, _⟩ := hh
        rcases b2 with ⟨e0, _⟩ | ⟨kh, e0⟩
        · cases e0
        cases e0
        obtain ⟨A, rfl, s1, _⟩ := hv
        exact ⟨_, run_cut3 hu hd b1 h0 h1 h2 (by omega), trivial⟩
    · cases hq
  · cases hq
end Go.Proofs.YtdbenenonfldkaaDoor.PE
