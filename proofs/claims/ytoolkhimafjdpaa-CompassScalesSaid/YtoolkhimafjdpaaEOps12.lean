/- Appending: the whole operation. -/
import Derived.Test.YtoolkhimafjdpaaEOps11
namespace Go.Proofs.Ytoolkhimafjdpaa.PE
set_option linter.unusedVariables false
open Go.RowKit
variable {P : Program} {w w' : World} {F F' : Nat → Prop} {g g' : Nat → Loc} {mine : Nat → Prop} {σ : St} {a : Act}
theorem append_row (h : Rel w F g mine σ a) {id : Nat} {e : Ty} {l vs : List e.den} {cm : Nat} {t u ty el : TypeId} (ht : elemTy P t = some (el, e)) (ho : σ.ob id = some (.row e l cm false)) {n : Nat} (hn : n ≤ l.length) {x y : Value}
    (hs : SlAt (g id) 0 n x) {v : AV} (hv : R w F g σ.ob v y) (hq : (Q.src P e u v).val σ.ob = some vs) (hroom : ((n + vs.length : Nat) : Int) * (P.bytesOf el : Int) ≤ room) (h63 : n + vs.length ≤ 9223372036854775807) {d : Option Nat} (hd : ∀ e, d = some e → e < a.tmps.size) :
    Good w F g mine σ a ((do pure (Next.value (← Builtin.append_ #[t, u] ty #[x, y])) : Sem Next).run P w) { v := .ow id, sets := [(id, some (.row e (l.take n ++ vs) (max (max cm l.length) (n + vs.length)) false))], kills := [id] } d := by
  obtain ⟨new, du, hu, hdu, hlen, hnew, hels⟩ := src_sound h hv hq
  have hones := hels.ones (elemTy_spec ht).2.choose_spec.choose_spec.choose_spec.2.2.2.2.2.1
  obtain ⟨A, rfl, s1, s2, s3⟩ := hs
  simp only [Nat.sub_zero, Nat.zero_mul] at *
  obtain ⟨k1, k2, kc, k4, k5⟩ := h.ob id _ ho
  have hl0 : (l.take n ++ vs).length = n + vs.length := by simp; omega
  obtain ⟨hut, dd, i, z, hdd, hi, hz, hzs, hcz, hc1, his, _⟩ := elemTy_spec ht
  by_cases hfit : n + vs.length ≤ (g id).cap
  · -- there is room
    cases hb : (g id).blk with
    | none =>
      have h0 := k4 hb
      have hn0 : n = 0 := by omega
      have hv0 : vs = [] := List.length_eq_zero_iff.1 (by omega)
      subst hn0; subst hv0
      have hcm : max (max cm l.length) (0 + ([] : List e.den).length) = 0 := by simp only [List.length_nil]; omega
      rw [hcm, s3 hb, h0]
      obtain ⟨g', hR, hK⟩ := h.virt id e (.ow id) (.slice none 0 0) d hd (fun g' ob' e1 e2 => ⟨⟨_, _, _, rfl⟩, fun m hm => by rw [e2] at hm; cases hm; rw [e1]; exact ⟨none, rfl, by simp, (fun b hb => nomatch hb), fun _ => rfl⟩⟩)
      have hrun := run_fits (ty := ty) (P := P) (w := w) (A := none) (n := 0) (cap := 0) ht hu hdu hlen (by simp) (hnew w rfl) (w1 := w) (fun _ h => nomatch h) (fun _ => rfl)
      exact ⟨_, _, w, F, g', bind_value hrun, .inl rfl, Step.refl _ _ _, hR, hK⟩
    | some b =>
      obtain ⟨c, T, fr, q1, q2, q3, q4⟩ := els_of_el h ho hb
      have hold := q4 n hn
      have hcap : n * e.cells ≤ c.size := by rw [q3]; exact Nat.mul_le_mul_right _ (by omega)
      have hsz : n * e.cells + new.toList.length ≤ c.size := by rw [hels.1, q3, ← Nat.add_mul]; exact Nat.mul_le_mul_right _ hfit
      have hw1 : ∃ w1, w1 = putBlk w b (.cells (putVals c (n * e.cells) new.toList) T fr) := ⟨_, rfl⟩
      obtain ⟨w1, hw1⟩ := hw1
      have hrun : (Builtin.append_ #[t, u] ty #[.slice A n (g id).cap, y]).run P w = .ok (.slice A (n + vs.length) (g id).cap) w1 := by
        refine run_fits ht hu hdu hlen hfit (hnew w rfl) (fun ad had => ?_) (fun hA => ?_)
        · by_cases hc0 : (g id).cap = 0
          · have : new.toList = [] := List.length_eq_zero_iff.1 (by rw [hels.1, show vs.length = 0 from (by omega), Nat.zero_mul])
            rw [this] at hw1 ⊢
            rw [putVals_nil, putBlk_id q1] at hw1
            rw [hw1]; rfl
          · have := s2 b hb hc0
            rw [had] at this
            cases this
            rw [add_addr, Nat.zero_add, hw1]
            have := run_storeCells' (P := P) (b := b) (off := n * e.cells) new.toList 0 c w q1 q2.of (by simpa using hsz) hones
            simpa using this
        · by_cases hc0 : (g id).cap = 0
          · have : new.toList = [] := List.length_eq_zero_iff.1 (by rw [hels.1, show vs.length = 0 from (by omega), Nat.zero_mul])
            rw [this, putVals_nil, putBlk_id q1] at hw1
            exact hw1
          · rw [s2 b hb hc0] at hA; cases hA
      obtain ⟨hnF, hmine, _⟩ := own_not_F h ho rfl hb
      obtain ⟨st, hR, hK⟩ := h.write ho rfl (o' := .row e (l.take n ++ vs) (max (max cm l.length) (n + vs.length)) false) rfl hb q1 (c' := putVals c (n * e.cells) new.toList) [id] (.inr rfl) (.ow id) (.slice A (n + vs.length) (g id).cap) d hd
        (fun ob' e1 e2 => ⟨k1, by rw [hl0]; exact hfit, by omega, k4, fun b' hb' => by
          rw [hb] at hb'; cases hb'
          refine ⟨_, T, fr, putBlk_same q1, by rw [putVals_size hsz]; exact q3, by rw [putVals_size hsz]; exact q2, (fun h => nomatch h), fun _ => ⟨hmine, hnF⟩, fun j z hz => ?_⟩
          have := els_append hold hels (c.toList.drop (n * e.cells + new.toList.length)) j z hz
          have hcut : cut (putVals c (n * e.cells) new.toList) (j * e.cells) e.cells = ((c.toList.take (n * e.cells) ++ new.toList ++ c.toList.drop (n * e.cells + new.toList.length)).drop (j * e.cells)).take e.cells := by unfold putVals; rw [cut_toArray]
          rw [hcut]
          exact this.step (fun k hk => putBlk_other (fun e => hnF (by rw [← e]; exact hk))) fun _ hk => hk⟩)
        (fun ob' e1 e2 => ⟨⟨_, _, _, rfl⟩, fun m hm => by
          rw [e2] at hm
          simp only [lenOf, Option.some.injEq] at hm
          subst hm
          rw [hl0]
          exact ⟨A, rfl, by omega, fun b' hb' hc0 => by rw [Nat.zero_mul]; exact s2 b' hb' (by omega), s3⟩⟩)
      exact ⟨_, _, w1, F, g, bind_value hrun, .inl rfl, by rw [hw1]; exact st, by rw [hw1]; exact hR, hK⟩
  · -- a new row
    have hgr : (g id).cap < n + vs.length := by omega
    have hold : ∃ old : Array Value, Els w F e (l.take n) old.toList ∧ ∀ w2 : World, w2.heap = w.heap → (Builtin.firstCells e.cells n (.slice A n (g id).cap)).run P w2 = .ok old w2 := by
      cases hb : (g id).blk with
      | none =>
        have h0 := k4 hb
        have hn0 : n = 0 := by omega
        subst hn0
        rw [s3 hb]
        exact ⟨#[], ⟨by simp, fun i y hy => by simp at hy⟩, fun _ _ => rfl⟩
      | some b =>
        obtain ⟨c, T, fr, q1, q2, q3, q4⟩ := els_of_el h ho hb
        refine ⟨(cut c 0 (n * e.cells)).toArray, by have := q4 n hn; simpa [cut] using this, fun w2 hw2 => ?_⟩
        by_cases hc0 : (g id).cap = 0
        · have hn0 : n = 0 := by omega
          subst hn0
          cases A with
          | none => simp [Builtin.firstCells, cut]
          | some ad => simp [Builtin.firstCells, loadCells, loadCellsFrom, cut]
        · rw [s2 b hb hc0]
          simp only [Builtin.firstCells]
          have hcap : n * e.cells ≤ c.size := by rw [q3]; exact Nat.mul_le_mul_right _ (by omega)
          exact run_loadCells' (w := w2) (by rw [hw2]; exact q1) (by omega)
    obtain ⟨old, hold1, hold2⟩ := hold
    obtain ⟨cap', rest, w1, c1, c2, c3, c4⟩ := run_grow (ty := ty) ht hu hdu hlen hgr hroom hold2 hnew h63
    refine Good.row h hd (l := l.take n ++ vs) (cap := cap') (bind_value (by rw [hl0]; exact c3)) c4 ?_ (by rw [hl0]; exact c1) (nofr_zero _) (by omega) (fun j z hz => ?_)
    · simp only [Array.size_append, c2]
      have e1 : old.size = n * e.cells := by have := hold1.1; rw [Array.length_toList, List.length_take, Nat.min_eq_left hn] at this; exact this
      have e2 : new.size = vs.length * e.cells := by have := hels.1; rw [Array.length_toList] at this; exact this
      rw [e1, e2, ← Nat.add_mul, ← Nat.add_mul]
      congr 1
      omega
    · have := els_append hold1 hels rest.toList j z hz
      have hcut : cut (old ++ new ++ rest) (j * e.cells) e.cells = ((old.toList ++ new.toList ++ rest.toList).drop (j * e.cells)).take e.cells := by unfold cut; simp
      rw [hcut]
      exact this
/-- Behind nil. -/
theorem append_nil (h : Rel w F g mine σ a) {nid : Nat} {e : Ty} {vs : List e.den} {t u ty el : TypeId} (ht : elemTy P t = some (el, e)) {y : Value}
    {v : AV} (hv : R w F g σ.ob v y) (hq : (Q.src P e u v).val σ.ob = some vs) (hroom : ((0 + vs.length : Nat) : Int) * (P.bytesOf el : Int) ≤ room) (h63 : 0 + vs.length ≤ 9223372036854775807) {d : Option Nat} (hd : ∀ e, d = some e → e < a.tmps.size) :
    Good w F g mine σ a ((do pure (Next.value (← Builtin.append_ #[t, u] ty #[.slice none 0 0, y])) : Sem Next).run P w) { v := .ow nid, sets := [(nid, some (.row e ([] ++ vs) (max 0 (0 + vs.length)) false))], kills := [nid] } d := by
  obtain ⟨new, du, hu, hdu, hlen, hnew, hels⟩ := src_sound h hv hq
  by_cases hv0 : vs = []
  · subst hv0
    obtain ⟨g', hR, hK⟩ := h.virt nid e (.ow nid) (.slice none 0 0) d hd (fun g' ob' e1 e2 => ⟨⟨_, _, _, rfl⟩, fun m hm => by rw [e2] at hm; cases hm; rw [e1]; exact ⟨none, rfl, by simp, (fun b hb => nomatch hb), fun _ => rfl⟩⟩)
    have hrun := run_fits (ty := ty) (P := P) (w := w) (A := none) (n := 0) (cap := 0) ht hu hdu hlen (by simp) (hnew w rfl) (w1 := w) (fun _ h => nomatch h) (fun _ => rfl)
    exact ⟨_, _, w, F, g', bind_value hrun, .inl rfl, Step.refl _ _ _, hR, hK⟩
  · have hpos : 0 < vs.length := List.length_pos_iff.2 hv0
    obtain ⟨cap', rest, w1, c1, c2, c3, c4⟩ := run_grow (ty := ty) (A := none) (n := 0) (cap := 0) (old := #[]) ht hu hdu hlen (by omega) hroom (fun _ _ => rfl) hnew h63
    refine Good.row h hd (l := [] ++ vs) (cap := cap') (bind_value (by rw [List.nil_append]; rw [Nat.zero_add] at c3; exact c3)) c4 ?_ (by simp; omega) (nofr_zero _) (by omega) (fun j z hz => ?_)
    · simp only [Array.size_append, c2]
      have e2 : new.size = vs.length * e.cells := by have := hels.1; rw [Array.length_toList] at this; exact this
      rw [e2, List.size_toArray, List.length_nil, Nat.zero_add, ← Nat.add_mul]
      congr 1
      omega
    · have hels0 : Els w F e ([] : List e.den) [] := ⟨by simp, fun i y hy => by simp at hy⟩
      have := els_append hels0 hels rest.toList j z hz
      have hcut : cut (#[] ++ new ++ rest) (j * e.cells) e.cells = (([] ++ new.toList ++ rest.toList).drop (j * e.cells)).take e.cells := by unfold cut; simp
      rw [hcut]
      exact this
theorem room_len {n : Nat} {b : Nat} (h : (n : Int) * (b : Int) ≤ room) (hb : 1 ≤ b) : n ≤ 9223372036854775807 := by
  unfold room at h
  have : ((n * b : Nat) : Int) ≤ 140737488351232 := by rw [Int.natCast_mul]; exact h
  have h2 : n ≤ n * b := Nat.le_mul_of_pos_right _ hb
  omega
theorem append_sound (h : Rel w F g mine σ a) {nid : Nat} {t u ty : TypeId} {s v : AV} {x y : Value} (hs : R w F g σ.ob s x) (hv : R w F g σ.ob v y) {up : Upd} (hq : (appendQ P nid t u s v).val σ.ob = some up) {d : Option Nat} (hd : ∀ e, d = some e → e < a.tmps.size) :
    Good w F g mine σ a ((do pure (Next.value (← Builtin.append_ #[t, u] ty #[x, y])) : Sem Next).run P w) up d := by
  unfold appendQ at hq
  split at hq
  · cases hq
  · rename_i el e ht
    rw [val_guard_some] at hq
    obtain ⟨hb1, hq⟩ := hq
    have hb1 := Nat.le_of_ble_eq_true hb1
    rw [val_bind_some] at hq
    obtain ⟨vs, hvs, hq⟩ := hq
    simp only [] at hq
    split at hq
    · simp only [val_br_some, val_ret_some, val_fail_some, and_false, or_false, decide_eq_true_eq, ilen_eq] at hq
      obtain ⟨hr, rfl⟩ := hq
      cases (show _ = _ from hs)
      have hr' : ((0 + vs.length : Nat) : Int) * (P.bytesOf el : Int) ≤ room := by simpa using hr
      exact append_nil h ht hv hvs hr' (room_len hr' hb1) hd
    · rename_i id
      simp only [Q.own, val_ask_some] at hq
      split at hq
      · rename_i e' l cm ho
        split at hq
        · rename_i he _
          subst he
          simp only [val_br_some, val_ret_some, val_fail_some, and_false, or_false, decide_eq_true_eq, ilen_eq, castRow_self] at hq
          obtain ⟨hr, rfl⟩ := hq
          have hr' : ((l.length + vs.length : Nat) : Int) * (P.bytesOf el : Int) ≤ room := by rw [Int.natCast_add]; exact hr
          have := append_row (ty := ty) h ht ho (n := l.length) (Nat.le_refl _) (hs.2 _ (by rw [ho]; rfl)) hv hvs hr' (room_len hr' hb1) hd
          rwa [List.take_length] at this
        · cases hq
      · cases hq
    · rename_i id n
      simp only [Q.own, val_ask_some] at hq
      split at hq
      · rename_i e' l cm ho
        split at hq
        · rename_i he _
          subst he
          simp only [val_br_some, val_ret_some, val_fail_some, and_false, or_false, decide_eq_true_eq, ilen_eq, castRow_self] at hq
          obtain ⟨hn, hr, rfl⟩ := hq
          have hn := Nat.le_of_ble_eq_true hn
          have hlt : (l.take n).length = n := by simp; omega
          have hr' : ((n + vs.length : Nat) : Int) * (P.bytesOf el : Int) ≤ room := by rw [hlt] at hr; rw [Int.natCast_add]; exact hr
          have := append_row (ty := ty) h ht ho (n := n) hn hs hv hvs hr' (room_len hr' hb1) hd
          rw [hlt]
          exact this
        · cases hq
      · cases hq
    · cases hq
end Go.Proofs.Ytoolkhimafjdpaa.PE
