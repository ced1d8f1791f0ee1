/- slices.Insert of one element: its contract, put together. -/
import Derived.Test.YtdmfjpcobbkppaaEInsC
namespace Go.Proofs.Ytdmfjpcobbkppaa.PE
set_option linter.unusedVariables false
open Go.RowKit
variable {w w' : World} {F F' : Nat → Prop} {g g' : Nat → Loc} {mine : Nat → Prop}
theorem ov_false {w : World} {b2 b off c2 lb cb : Nat} {cA cB : Array Value} {TA TB : TypeId} {fA fB : Nat × Nat} (hA : w.heap[b2]? = some (.cells cA TA fA)) (hf : NoFr fA (cA.size + 1)) (hB : w.heap[b]? = some (.cells cB TB fB)) (hB0 : cB.size ≠ 0) (hne : b2 ≠ b) :
    (callFunc 52 #[.slice (some ⟨b2, 0, none⟩) 1 c2, .slice (some ⟨b, off, none⟩) lb cb]).run Try.prog w = .ok (.value (.bool false)) w := by
  have fz : ∀ k, k < cA.size + 1 → w.frozen? ⟨b2, k, none⟩ = false := fun k hk => by
    obtain ⟨lo, hi⟩ := fA
    have := hf k hk
    simp only [World.frozen?, hA]
    simp only [Bool.and_eq_false_iff, decide_eq_false_iff_not]
    simp only at this
    by_cases h1 : lo ≤ k
    · right; intro h2; exact this ⟨h1, h2⟩
    · left; exact h1
  rw [run_callFunc_extern Try.func52 (by kernel_rfl) (by kernel_rfl) (by kernel_rfl) (e := Extern.SlicesOverlaps.overlaps #[23, 23] #[4]) (by kernel_rfl),
    Lib.run_overlaps_apart w 23 4 53 Try.underlying23 3 (fun w => run_sizeOf' Try.underlying53) ⟨b2, 0, none⟩ ⟨b, off, none⟩ 1 c2 lb cb hne TA TB cA.size cB.size (by simp [World.shape?, hA]) (by simp [World.shape?, hB]) hB0 (fz 0 (by omega)) (fz cA.size (by omega))]
  rfl
theorem insEl : elemTy Try.prog 23 = some (53, insE) := by kernel_rfl
theorem insBy : Try.prog.bytesOf 53 = 40 := by kernel_rfl
abbrev insRm : List Mode := [(false, [(true, .slice insE)])]
def insPost (mine : Nat → Prop) (w : World) (F : Nat → Prop) (nid : Nat) (r : List insE.den) : Ending → World → Prop := fun e w' => ∃ v F' g' vs, e = .returned v ∧ Step mine w F w' F' ∧ (∀ b, F' b → b < w'.heap.size) ∧ Hand w' F' g' mine nid insRm [⟨.slice insE, r⟩] vs ∧ v = packV vs
theorem ins_fin {σ : St} {a : Act} {w1 : World} {F1 : Nat → Prop} {g1 : Nat → Loc} (h : Rel w1 F1 g1 mine σ a) (st : Step mine w F w1 F1) {id cm : Nat} {r : List insE.den} (ho : σ.ob id = some (.row insE r cm false)) {v : Value} (hv : R w1 F1 g1 σ.ob (.ow id) v) (nid : Nat) : insPost mine w F nid r (.returned v) w1 := by
  obtain ⟨F2, g2, st2, low, hand⟩ := hand_row h ho hv nid
  exact ⟨v, F2, g2, [v], rfl, st.trans st2, low, hand, rfl⟩
/-- A row moved up, and one written. -/
theorem list_shift {α : Type} {l vs : List α} {k : Nat} (hk : k < l.length) (hv : vs.length = 1) : (l.take (k + 1) ++ l.drop k).take k ++ vs.take (l.length + 1 - k) ++ (l.take (k + 1) ++ l.drop k).drop (k + min vs.length (l.length + 1 - k)) = l.take k ++ vs ++ l.drop k := by
  have h1 : (l.take (k + 1)).length = k + 1 := by rw [List.length_take]; omega
  have e1 : (l.take (k + 1) ++ l.drop k).take k = l.take k := by rw [List.take_append_of_le_length (by omega), List.take_take, Nat.min_eq_left (by omega)]
  have e2 : vs.take (l.length + 1 - k) = vs := List.take_of_length_le (by omega)
  have e3 : (l.take (k + 1) ++ l.drop k).drop (k + 1) = l.drop k := List.drop_left' h1
  rw [e1, e2, hv, Nat.min_eq_left (by omega), e3]
theorem list_grow {α : Type} {l vs : List α} {k : Nat} (z : α) (hk : k < l.length) (hv : vs.length = 1) :
    ((l.take k ++ List.replicate (l.length + 1 - k) z).take k ++ vs.take (l.length + 1 - k) ++ (l.take k ++ List.replicate (l.length + 1 - k) z).drop (k + min vs.length (l.length + 1 - k))).take (k + 1) ++ ((l.drop k).take (l.length - k)).take (l.length + 1 - (k + 1)) ++
      ((l.take k ++ List.replicate (l.length + 1 - k) z).take k ++ vs.take (l.length + 1 - k) ++ (l.take k ++ List.replicate (l.length + 1 - k) z).drop (k + min vs.length (l.length + 1 - k))).drop (k + 1 + min ((l.drop k).take (l.length - k)).length (l.length + 1 - (k + 1))) = l.take k ++ vs ++ l.drop k := by
  have h1 : (l.take k).length = k := by rw [List.length_take]; omega
  have h2 : (l.drop k).length = l.length - k := List.length_drop
  have e1 : (l.take k ++ List.replicate (l.length + 1 - k) z).take k = l.take k := by rw [List.take_append_of_le_length (by omega), List.take_of_length_le (by omega)]
  have e2 : vs.take (l.length + 1 - k) = vs := List.take_of_length_le (by omega)
  have e3 : (l.drop k).take (l.length - k) = l.drop k := List.take_of_length_le (by omega)
  rw [e1, e2, e3, h2, hv, Nat.min_eq_left (by omega), show l.length + 1 - (k + 1) = l.length - k by omega, e3, Nat.min_self]
  have h3 : ((l.take k ++ List.replicate (l.length + 1 - k) z).drop (k + 1)).length = l.length - k := by rw [List.length_drop, List.length_append, h1, List.length_replicate]; omega
  have h4 : (l.take k ++ vs).length = k + 1 := by rw [List.length_append, h1, hv]
  have e6 : (l.take k ++ vs ++ (l.take k ++ List.replicate (l.length + 1 - k) z).drop (k + 1)).drop (k + 1 + (l.length - k)) = [] := List.drop_eq_nil_of_le (by rw [List.length_append, h3, h4]; omega)
  rw [e6, List.append_nil, List.take_append_of_le_length (by omega), List.take_of_length_le (by omega)]
theorem ins_core {ob : Nat → Option Ob} {l vs r : List insE.den} {i : Int} (h : Rel w F g mine { tm := fun _ => .top, ob := ob } ⟨#[undef], []⟩) (o0 : ob 0 = some (.row insE l 0 false)) (o1 : ob 1 = some (.row insE vs 0 false))
    {x0 x2 : Value} (r0 : R w F g ob (.ow 0) x0) (r2 : R w F g ob (.ow 1) x2) (hs : insS 40 l i vs = some r) (nid : Nat) : Calls Try.prog 42 #[x0, .int .i64 i, x2] w (insPost mine w F nid r) := by
  rw [insS] at hs
  cases hb : (Nat.beq vs.length 1 && (decide (0 ≤ i) && (decide (i ≤ ilen l) && decide ((ilen l + 1) * ((40 : Nat) : Int) ≤ room)))) with
  | false => rw [hb] at hs; cases hs
  | true =>
  rw [hb, cond_true] at hs
  cases hs
  simp only [Bool.and_eq_true, decide_eq_true_eq, ilen_eq] at hb
  obtain ⟨hv1, hi0, hil, hroom⟩ := hb
  have hv1 : vs.length = 1 := Nat.eq_of_beq_eq_true hv1
  obtain ⟨k, rfl⟩ := Int.eq_ofNat_of_zero_le hi0
  rw [Int.toNat_natCast]
  have hk : k ≤ l.length := by omega
  have hn63 : l.length ≤ 1000000000000000 := by unfold room at hroom; omega
  have hroom' : ((l.length + 1 : Nat) : Int) * ((Try.prog.bytesOf 53 : Nat) : Int) ≤ room := by rw [insBy, Int.natCast_add]; exact hroom
  obtain ⟨B2, e2, t1, t2, t3⟩ := r2.2 1 (by rw [o1]; simp [lenOf, hv1])
  subst e2
  obtain ⟨ka1, ka2, ka3, ka4, ka5⟩ := h.ob 1 _ o1
  cases hb2 : (g 1).blk with
  | none => have := ka4 hb2; omega
  | some b2 =>
  have hB2 := t2 b2 hb2 (by omega)
  rw [Nat.zero_mul] at hB2
  subst hB2
  have S0 := r0.2 l.length (by rw [o0]; rfl)
  have hsrc : ∀ ob' : Nat → Option Ob, ob' 1 = some (.row insE vs 0 false) → (Q.src Try.prog insE 23 (.ow 1)).val ob' = some vs := fun ob' e => by
    have hd : decEq insE insE = .isTrue rfl := by
      cases decEq insE insE with
      | isTrue _ => rfl
      | isFalse h => exact absurd rfl h
    simp [Q.src, Try.underlying23, Q.elems, Q.val, e, hd, castRow_self]
  by_cases hkl : k = l.length
  · -- at the end
    subst hkl
    obtain ⟨x, w1, F1, g1, hrun, st, hR, _⟩ := good_run (append_row (P := Try.prog) (ty := 23) h insEl o0 (n := l.length) (Nat.le_refl _) S0 r2 (hsrc ob o1) (by rw [hv1]; exact hroom') (by omega) (d := some 0) (fun e he => by cases he; decide))
    obtain ⟨A, e0, s1, s2, s3⟩ := S0
    subst e0
    refine (ins_end A l.length _ ⟨b2, 0, none⟩ _ w w1 x hrun).mono fun e w' he => ?_
    obtain ⟨rfl, rfl⟩ := he
    have hv := hR.tm 0
    refine ins_fin hR st (id := 0) (cm := max (max 0 l.length) (l.length + vs.length)) (r := l.take l.length ++ vs ++ l.drop l.length) ?_ ?_ nid
    · rw [List.drop_length, List.append_nil]; rfl
    · exact hv
  · have hkn : k < l.length := by omega
    obtain ⟨kb1, kb2, kb3, kb4, kb5⟩ := h.ob 0 _ o0
    cases hb0 : (g 0).blk with
    | none => have := kb4 hb0; omega
    | some b =>
    obtain ⟨A, e0, s1, s2, s3⟩ := S0
    subst e0
    have hA0 := s2 b hb0 (by omega)
    rw [Nat.zero_mul] at hA0
    subst hA0
    have hsz : (g 0).sz = 3 := kb1
    have sl0 : ∀ off len, off + len ≤ (g 0).cap → SlAt (g 0) off len (.slice (some ⟨b, off * 3, none⟩) len ((g 0).cap - off)) := fun off len hle => ⟨_, rfl, hle, fun b' hb' _ => by rw [hb0] at hb'; cases hb'; rw [hsz], fun hn => by rw [hb0] at hn; cases hn⟩
    by_cases hcap : (g 0).cap < l.length + 1
    · -- a new row
      have S0k : SlAt (g 0) 0 k (.slice (some ⟨b, 0, none⟩) k (g 0).cap) := by
        have := sl0 0 k (by omega)
        rw [Nat.zero_mul] at this
        exact this
      obtain ⟨x, w1, F1, g1, hrun1, st1, hR1, kp1⟩ := good_run (grow_zeros (P := Try.prog) (ty := 23) (nid := 2) h insEl Try.underlying3 o0 (n := k) hk S0k (k := l.length + 1 - k) (by omega) (by omega) (by rw [show k + (l.length + 1 - k) = l.length + 1 by omega]; exact hroom') (by omega) (d := some 0) (fun e he => by cases he; decide))
      have hg0 : g1 0 = g 0 := (kp1 0 (by simp)).1
      have hg1 : g1 1 = g 1 := (kp1 1 (by simp)).1
      have hx : R w1 F1 g1 _ (.ow 2) x := hR1.tm 0
      have P2 : (({ v := .ow 2, sets := [(2, some (.row insE (l.take k ++ List.replicate (l.length + 1 - k) (zeroOf insE)) (k + (l.length + 1 - k)) false))], kills := [2] } : Upd).app ({ tm := fun _ => .top, ob := ob } : St) (some 0)).ob 2 = some (.row insE (l.take k ++ List.replicate (l.length + 1 - k) (zeroOf insE)) (k + (l.length + 1 - k)) false) := rfl
      have P1 : (({ v := .ow 2, sets := [(2, some (.row insE (l.take k ++ List.replicate (l.length + 1 - k) (zeroOf insE)) (k + (l.length + 1 - k)) false))], kills := [2] } : Upd).app ({ tm := fun _ => .top, ob := ob } : St) (some 0)).ob 1 = some (.row insE vs 0 false) := by
        show (ob 1).map (Ob.kill [2]) = _
        rw [o1]; rfl
      have P0 : (({ v := .ow 2, sets := [(2, some (.row insE (l.take k ++ List.replicate (l.length + 1 - k) (zeroOf insE)) (k + (l.length + 1 - k)) false))], kills := [2] } : Upd).app ({ tm := fun _ => .top, ob := ob } : St) (some 0)).ob 0 = some (.row insE l 0 false) := by
        show (ob 0).map (Ob.kill [2]) = _
        rw [o0]; rfl
      generalize (({ v := .ow 2, sets := [(2, some (.row insE (l.take k ++ List.replicate (l.length + 1 - k) (zeroOf insE)) (k + (l.length + 1 - k)) false))], kills := [2] } : Upd).app ({ tm := fun _ => .top, ob := ob } : St) (some 0)) = σ1 at *
      have hlz : (l.take k ++ List.replicate (l.length + 1 - k) (zeroOf insE)).length = l.length + 1 := by rw [List.length_append, List.length_take, List.length_replicate]; omega
      obtain ⟨A2, e2, y1, y2, y3⟩ := hx.2 (l.length + 1) (by rw [P2]; simp only [lenOf, hlz])
      subst e2
      obtain ⟨m1, m2, m3, m4, m5⟩ := hR1.ob 2 _ P2
      cases hN : (g1 2).blk with
      | none => have := m4 hN; omega
      | some N =>
      have hA2 := y2 N hN (by omega)
      rw [Nat.zero_mul] at hA2
      subst hA2
      have hsz2 : (g1 2).sz = 3 := m1
      have sl2 : ∀ off len, off + len ≤ (g1 2).cap → SlAt (g1 2) off len (.slice (some ⟨N, off * 3, none⟩) len ((g1 2).cap - off)) := fun off len hle => ⟨_, rfl, hle, fun b' hb' _ => by rw [hN] at hb'; cases hb'; rw [hsz2], fun hn => by rw [hN] at hn; cases hn⟩
      have rb : R w1 F1 g1 σ1.ob (.ow 1) (.slice (some ⟨b2, 0, none⟩) 1 ((g 1).cap - 0)) := ⟨⟨_, _, _, rfl⟩, fun n hn => by
        rw [P1] at hn
        simp only [lenOf, Option.some.injEq, hv1] at hn
        subst hn
        rw [hg1]
        exact ⟨_, rfl, t1, t2, t3⟩⟩
      obtain ⟨u1, w2, F2, g2, hrun2, st2, hR2, kp2⟩ := good_run (copy_row (P := Try.prog) (ty := 3) (t := 23) (u := 23) (id := 2) (off := k) (len := l.length + 1 - k) (v := .ow 1) (hR1.bare ⟨#[undef], []⟩) insEl P2 (by omega) (sl2 k (l.length + 1 - k) (by omega)) rb (hsrc _ P1) rfl (d := none) (fun e he => nomatch he))
      have hg2 : ∀ id, g2 id = g1 id := fun id => (kp2 id (by simp)).1
      obtain ⟨ob2, hob2⟩ : ∃ ob2, ob2 = (({ v := .int .i64 ((min vs.length (l.length + 1 - k) : Nat) : Int), sets := [(2, some (.row insE ((l.take k ++ List.replicate (l.length + 1 - k) (zeroOf insE)).take k ++ vs.take (l.length + 1 - k) ++ (l.take k ++ List.replicate (l.length + 1 - k) (zeroOf insE)).drop (k + min vs.length (l.length + 1 - k))) (k + (l.length + 1 - k)) false))] } : Upd).app ({ tm := fun _ => .top, ob := σ1.ob } : St) none).ob := ⟨_, rfl⟩
      have hb2' := hR2.bare ⟨#[undef], []⟩
      rw [← hob2] at hb2'
      have Q2 : ob2 2 = some (.row insE ((l.take k ++ List.replicate (l.length + 1 - k) (zeroOf insE)).take k ++ vs.take (l.length + 1 - k) ++ (l.take k ++ List.replicate (l.length + 1 - k) (zeroOf insE)).drop (k + min vs.length (l.length + 1 - k))) (k + (l.length + 1 - k)) false) := by rw [hob2]; rfl
      have Q0 : ob2 0 = some (.row insE l 0 false) := by rw [hob2]; exact P0
      have hsrc0 : (Q.src Try.prog insE 23 (.sl 0 k (l.length - k))).val ob2 = some ((l.drop k).take (l.length - k)) := by
        have hd : decEq insE insE = .isTrue rfl := by
          cases decEq insE insE with
          | isTrue _ => rfl
          | isFalse h => exact absurd rfl h
        simp [Q.src, Try.underlying23, Q.elems, Q.val, Q0, hd, castRow_self, Nat.ble_eq_true_of_le (show k + (l.length - k) ≤ l.length by omega)]
      have hl2 : ((l.take k ++ List.replicate (l.length + 1 - k) (zeroOf insE)).take k ++ vs.take (l.length + 1 - k) ++ (l.take k ++ List.replicate (l.length + 1 - k) (zeroOf insE)).drop (k + min vs.length (l.length + 1 - k))).length = l.length + 1 := by
        simp only [List.length_append, List.length_take, List.length_drop, List.length_replicate, hv1]
        omega
      obtain ⟨u2, w3, F3, g3, hrun3, st3, hR3, kp3⟩ := good_run (copy_row (P := Try.prog) (ty := 3) (t := 23) (u := 23) (id := 2) (off := k + 1) (len := l.length + 1 - (k + 1)) (v := .sl 0 k (l.length - k)) hb2'.drew' insEl Q2 (by omega) (by rw [hg2]; exact sl2 (k + 1) (l.length + 1 - (k + 1)) (by omega)) (y := .slice (some ⟨b, k * 3, none⟩) (l.length - k) ((g 0).cap - k)) (by show SlAt (g2 0) k (l.length - k) _; rw [hg2, hg0]; exact sl0 k (l.length - k) (by omega)) hsrc0 rfl (d := none) (fun e he => nomatch he))
      have hg3 : g3 2 = g1 2 := ((kp3 2 (by simp)).1).trans (hg2 2)
      refine (ins_grow b l.length (g 0).cap k N (g1 2).cap ⟨b2, 0, none⟩ _ w w1 w2 w3 u1 u2 hkn (by omega) hcap hn63 (by omega) ?_ hrun2 hrun3).mono fun e w' he => ?_
      · have e3 : k + (l.length + 1 - k) = l.length + 1 := by omega
        have e4 : ((l.length : Int) + 1 - (k : Int)) = ((l.length + 1 - k : Nat) : Int) := by omega
        rw [e4]
        exact hrun1
      · obtain ⟨rfl, rfl⟩ := he
        refine ins_fin hR3 (st1.trans (st2.trans ((⟨rfl, rfl, rfl, Nat.le_refl _, fun _ _ _ => rfl, fun _ _ => rfl, fun _ h => h, fun _ h => .inl h⟩ : Step mine w2 F2 w2.drew F2).trans st3))) (id := 2) (cm := k + (l.length + 1 - k)) ?_ ?_ nid
        · rw [← list_grow (zeroOf insE) hkn hv1]; rfl
        · refine ⟨⟨_, _, _, rfl⟩, fun n hn => ?_⟩
          have e1 : lenOf (some (.row insE (((l.take k ++ List.replicate (l.length + 1 - k) (zeroOf insE)).take k ++ vs.take (l.length + 1 - k) ++ (l.take k ++ List.replicate (l.length + 1 - k) (zeroOf insE)).drop (k + min vs.length (l.length + 1 - k))).take (k + 1) ++ ((l.drop k).take (l.length - k)).take (l.length + 1 - (k + 1)) ++ ((l.take k ++ List.replicate (l.length + 1 - k) (zeroOf insE)).take k ++ vs.take (l.length + 1 - k) ++ (l.take k ++ List.replicate (l.length + 1 - k) (zeroOf insE)).drop (k + min vs.length (l.length + 1 - k))).drop (k + 1 + min ((l.drop k).take (l.length - k)).length (l.length + 1 - (k + 1)))) (k + (l.length + 1 - k)) false)) = some n := hn
          rw [list_grow (zeroOf insE) hkn hv1] at e1
          simp only [lenOf, Option.some.injEq, List.length_append, List.length_take, List.length_drop, hv1] at e1
          have e2 : n = l.length + 1 := by omega
          subst e2
          rw [hg3]
          have := sl2 0 (l.length + 1) (by omega)
          rw [Nat.zero_mul] at this
          exact this
    · -- there is room
      obtain ⟨c0, T0, f0, q1, q2, q3, _⟩ := kb5 b hb0
      obtain ⟨c1, T1, f1, p1, p2, p3, _⟩ := ka5 b2 hb2
      have hne : b2 ≠ b := fun e => by
        have := h.uniq 1 0 _ _ b o1 o0 rfl rfl (by rw [hb2, e]) hb0
        cases this
      have hov : ∀ lb cb, (callFunc 52 #[.slice (some ⟨b2, 0, none⟩) 1 ((g 1).cap - 0), .slice (some ⟨b, (k + 1) * 3, none⟩) lb cb]).run Try.prog w = .ok (.value (.bool false)) w := fun lb cb =>
        ov_false p1 p3 q1 (by rw [q2]; show (g 0).cap * 3 ≠ 0; omega) hne
      obtain ⟨u1, w1, hrun1, st1, hR1⟩ := shift_copy (P := Try.prog) (ty := 3) h.drew' insEl o0 hb0 hkn (by omega) (sl0 (k + 1) (l.length - k) (by omega)) (sl0 k (l.length + 1 - k) (by omega)) (d := none) (fun e he => nomatch he)
      have rb : ∀ ob' : Nat → Option Ob, ob' 1 = some (.row insE vs 0 false) → R w1 F g ob' (.ow 1) (.slice (some ⟨b2, 0, none⟩) 1 ((g 1).cap - 0)) := fun ob' e => ⟨⟨_, _, _, rfl⟩, fun n hn => by
        rw [e] at hn
        simp only [lenOf, Option.some.injEq, hv1] at hn
        subst hn
        exact ⟨_, rfl, t1, t2, t3⟩⟩
      have P1 : (setOb ((({ tm := fun _ => .top, ob := ob } : St).kill [0]).ob) [(0, some (.row insE (l.take (k + 1) ++ l.drop k) 0 false))]) 1 = some (.row insE vs 0 false) := by
        show (ob 1).map (Ob.kill [0]) = _
        rw [o1]; rfl
      obtain ⟨u2, w2, F2, g2, hrun2, st2, hR2, kp2⟩ := good_run (copy_row (P := Try.prog) (ty := 3) (t := 23) (u := 23) (id := 0) (off := k) (len := l.length + 1 - k) (l := l.take (k + 1) ++ l.drop k) (cm := 0) (v := .ow 1) (hR1.bare ⟨#[undef], []⟩) insEl rfl
        (by rw [List.length_append, List.length_take, List.length_drop]; omega) (x := .slice (some ⟨b, k * 3, none⟩) (l.length + 1 - k) ((g 0).cap - k)) (sl0 k (l.length + 1 - k) (by omega)) (rb _ P1) (hsrc _ P1) rfl (d := none) (fun e he => nomatch he))
      have hg2 : g2 0 = g 0 := (kp2 0 (by simp)).1
      refine (ins_shift b l.length (g 0).cap k ⟨b2, 0, none⟩ _ w w1 w2 u1 u2 hkn (by omega) hn63 hov (by rw [show l.length + 1 - (k + 1) = l.length - k by omega]; exact hrun1) hrun2).mono fun e w' he => ?_
      obtain ⟨rfl, rfl⟩ := he
      refine ins_fin hR2 ((⟨rfl, rfl, rfl, Nat.le_refl _, fun _ _ _ => rfl, fun _ _ => rfl, fun _ h => h, fun _ h => .inl h⟩ : Step mine w F w.drew F).trans (st1.trans st2)) (id := 0) (cm := 0) ?_ ?_ nid
      · rw [← list_shift hkn hv1]; rfl
      · refine ⟨⟨_, _, _, rfl⟩, fun n hn => ?_⟩
        have e1 : lenOf (some (.row insE ((l.take (k + 1) ++ l.drop k).take k ++ vs.take (l.length + 1 - k) ++ (l.take (k + 1) ++ l.drop k).drop (k + min vs.length (l.length + 1 - k))) 0 false)) = some n := hn
        rw [list_shift hkn hv1] at e1
        simp only [lenOf, Option.some.injEq, List.length_append, List.length_take, List.length_drop, hv1] at e1
        have e2 : n = l.length + 1 := by omega
        subst e2
        rw [hg2]
        have := sl0 0 (l.length + 1) (by omega)
        rw [Nat.zero_mul] at this
        exact this
theorem insF_ex : ∃ f : List insE.den → Int → List insE.den → Option (List insE.den), f = insS 40 := ⟨_, rfl⟩
noncomputable def insF : List insE.den → Int → List insE.den → Option (List insE.den) := insF_ex.choose
theorem insF_eq : insF = insS 40 := insF_ex.choose_spec
noncomputable def insF_mk : List insE.den → List DV := fun r => [⟨.slice insE, r⟩]
noncomputable def insF_sig : Sig := { pm := [(false, [(true, .slice insE)]), (false, [(false, .int .i64)]), (false, [(true, .slice insE)])], rm := insRm, f := fun
  | [⟨.slice (.pair (.int .i64) (.pair (.int .i64) (.slice (.int .u8)))), l⟩, ⟨.int .i64, i⟩, ⟨.slice (.pair (.int .i64) (.pair (.int .i64) (.slice (.int .u8)))), vs⟩] => .yes (List insE.den) (insF l i vs) insF_mk
  | _ => .no }
theorem insF_ok : SigOk Try.prog 42 insF_sig := by
  refine ⟨⟨_, _, Try.func42, rfl, by kernel_rfl⟩, fun w F g mine dvs vals β o mk x hf ho hh hl hup nid => ?_⟩
  unfold insF_sig at hf
  dsimp only at hf
  split at hf
  · rename_i l i vs
    cases hf
    rw [insF_eq] at ho
    have hv : RAll w F g (setOb noOb [(0, some (.row insE l 0 false)), (1, some (.row insE vs 0 false))]) [.ow 0, .int .i64 i, .ow 1] vals.toList := hh.vals
    obtain ⟨x0, s0, e0, r0, x1, s1, e1, r1, x2, s2, e2, r2, e3⟩ := hv
    subst e3; subst e2; subst e1
    cases (show x1 = _ from r1)
    have hvals : vals = #[x0, .int .i64 i, x2] := by cases vals; simpa using e0
    subst hvals
    exact ins_core (ob := setOb noOb [(0, some (.row insE l 0 false)), (1, some (.row insE vs 0 false))]) ⟨fun _ => trivial, hh.ob, hh.uniq, hl, hup⟩ rfl rfl r0 r2 ho nid
  · cases hf
end Go.Proofs.Ytdmfjpcobbkppaa.PE
