/- Reading and writing cells of a row: the model's steps. -/
import Derived.Test.YtdbenenonfldkaaDoorEUpd
namespace Go.Proofs.YtdbenenonfldkaaDoor.PE
set_option linter.unusedVariables false
open Go.RowKit
section
variable {P : Program} {w : World}
theorem info_of_und {t : TypeId} {d : TypeDesc} (h : P.underlying t = some d) : ∃ i, P.info? t = some i := by
  cases hi : P.info? t with
  | none => simp [Program.underlying, hi] at h
  | some i => exact ⟨i, rfl⟩
theorem isSomeT_spec {t : TypeId} (h : isSomeT P t = true) : ∃ d, P.underlying t = some d := by
  unfold isSomeT at h
  cases hu : P.underlying t with
  | none => rw [hu] at h; cases h
  | some d => exact ⟨d, rfl⟩
theorem run_sizeOf' {t : TypeId} {d : TypeDesc} (h : P.underlying t = some d) : (sizeOf t).run P w = .ok (P.cellsOf t) w := by
  obtain ⟨i, hi⟩ := info_of_und h
  simp [sizeOf, typeInfo, hi, Program.cellsOf]
theorem run_isAgg' {t : TypeId} {d : TypeDesc} (h : P.underlying t = some d) : (isAgg t).run P w = .ok (isAggT P t) w := by
  unfold isAgg isAggT
  simp only [Sem.run_bind, run_underlying h, Result.andThen_ok, h]
  cases d <;> rfl
/-- The cells of a block. -/
theorem cell_at {b off : Nat} {c : Array Value} {T : TypeId} {fr : Nat × Nat} (h : w.heap[b]? = some (.cells c T fr)) (j : Nat) : w.cell? ((⟨b, off, none⟩ : Addr).add j) = c[off + j]? := by
  by_cases hj : j = 0
  · subst hj; simp [Addr.add, World.cell?, h]
  · simp [Addr.add, World.cell?, h, hj]
theorem run_loadCells' {b off n : Nat} {c : Array Value} {T : TypeId} {fr : Nat × Nat} (h : w.heap[b]? = some (.cells c T fr)) (hn : off + n ≤ c.size) :
    (loadCells ⟨b, off, none⟩ n).run P w = .ok (cut c off n).toArray w := by
  have hl : (cut c off n).length = n := by simp [cut]; omega
  have := run_loadCells_list (P := P) w ⟨b, off, none⟩ (cut c off n) (fun j v hv => by
    rw [cell_at h, ← hv]
    unfold cut
    have hj : j < n := by rw [← hl]; exact (List.getElem?_eq_some_iff.mp hv).1
    rw [List.getElem?_take, if_pos hj, List.getElem?_drop, Array.getElem?_toList])
  rwa [hl] at this
theorem cut_one {c : Array Value} {off : Nat} (h : off < c.size) : cut c off 1 = [c[off]] := by
  unfold cut
  rw [List.drop_eq_getElem_cons (by simpa using h)]
  simp
theorem run_loadVar' {b off : Nat} {t : TypeId} {d : TypeDesc} {c : Array Value} {T : TypeId} {fr : Nat × Nat} (hu : P.underlying t = some d) (h : w.heap[b]? = some (.cells c T fr)) (hn : off + P.cellsOf t ≤ c.size) (hn1 : off < c.size ∨ isAggT P t = true) :
    (loadVar t ⟨b, off, none⟩).run P w = .ok (if isAggT P t = true then .agg (cut c off (P.cellsOf t)).toArray else c.getD off undef) w := by
  unfold loadVar
  simp only [Sem.run_bind, run_isAgg' hu, Result.andThen_ok]
  by_cases ha : isAggT P t = true
  · simp only [ha, if_true, Sem.run_bind, run_sizeOf' hu, Result.andThen_ok, run_loadCells' h hn]
    rfl
  · have hlt : off < c.size := hn1.resolve_right ha
    have hc : w.cell? ⟨b, off, none⟩ = some c[off] := by simp [World.cell?, h, hlt]
    simp [ha, hc, hlt, Array.getD_eq_getD_getElem?]
/-- A block written anew. -/
def putBlk (w : World) (b : Nat) (o : Obj) : World := { w with heap := w.heap.setIfInBounds b o }
theorem putBlk_same {b : Nat} {o p : Obj} (h : w.heap[b]? = some p) : (putBlk w b o).heap[b]? = some o := by
  have hlt : b < w.heap.size := by
    rcases Nat.lt_or_ge b w.heap.size with h' | h'
    · exact h'
    · rw [Array.getElem?_eq_none h'] at h; cases h
  exact Array.getElem?_setIfInBounds_self_of_lt hlt
theorem putBlk_other {b k : Nat} {o : Obj} (h : k ≠ b) : (putBlk w b o).heap[k]? = w.heap[k]? := Array.getElem?_setIfInBounds_ne (Ne.symm h)
theorem putBlk_size {b : Nat} {o : Obj} : (putBlk w b o).heap.size = w.heap.size := by simp [putBlk]
theorem putBlk_putBlk {b : Nat} {o p : Obj} : putBlk (putBlk w b o) b p = putBlk w b p := by
  simp only [putBlk]
  congr 1
  apply Array.ext_getElem?
  intro i
  simp only [Array.getElem?_setIfInBounds]
  split <;> simp_all
theorem setCell_eq {b off : Nat} {c : Array Value} {T : TypeId} {fr : Nat × Nat} (h : w.heap[b]? = some (.cells c T fr)) (v : Value) :
    w.setCell ⟨b, off, none⟩ v = putBlk w b (.cells (c.setIfInBounds off v) T fr) := by
  simp only [World.setCell, putBlk]
  congr 1
  apply Array.ext_getElem?
  intro i
  rw [Array.getElem?_modify, Array.getElem?_setIfInBounds]
  by_cases e : b = i
  · subst e
    have hlt : b < w.heap.size := by
      rcases Nat.lt_or_ge b w.heap.size with h' | h'
      · exact h'
      · rw [Array.getElem?_eq_none h'] at h; cases h
    have h' : w.heap[b]'hlt = .cells c T fr := by rw [Array.getElem?_eq_getElem hlt] at h; exact Option.some.inj h
    simp [hlt, h']
  · simp [e]
def putVals (c : Array Value) (off : Nat) (vs : List Value) : Array Value := (c.toList.take off ++ vs ++ c.toList.drop (off + vs.length)).toArray
theorem putVals_size {c : Array Value} {off : Nat} {vs : List Value} (h : off + vs.length ≤ c.size) : (putVals c off vs).size = c.size := by
  simp [putVals]; omega
theorem putVals_get {c : Array Value} {off : Nat} {vs : List Value} (h : off + vs.length ≤ c.size) (i : Nat) :
    (putVals c off vs)[i]? = if off ≤ i ∧ i < off + vs.length then vs[i - off]? else c[i]? := by
  have hl : (c.toList.take off).length = off := by simp; omega
  simp only [putVals, List.getElem?_toArray]
  by_cases h1 : i < off
  · rw [List.append_assoc, List.getElem?_append_left (by omega), List.getElem?_take, if_pos h1, if_neg (by omega), Array.getElem?_toList]
  · rw [List.append_assoc, List.getElem?_append_right (by omega), hl]
    by_cases h2 : i < off + vs.length
    · rw [List.getElem?_append_left (by omega), if_pos ⟨by omega, h2⟩]
    · rw [List.getElem?_append_right (by omega), List.getElem?_drop, if_neg (by omega), Array.getElem?_toList]
      congr 1
      omega
theorem putVals_nil {c : Array Value} {off : Nat} : putVals c off [] = c := by simp [putVals]
theorem run_store_cell {b off : Nat} {c : Array Value} {T : TypeId} {fr : Nat × Nat} {v : Value} (h : w.heap[b]? = some (.cells c T fr)) (hf : NoFr fr c.size) (ho : off < c.size) (hv : v.oneCell' = true) :
    (store ⟨b, off, none⟩ v).run P w = .ok () (putBlk w b (.cells (c.setIfInBounds off v) T fr)) := by
  have hc : w.cell? ⟨b, off, none⟩ = some c[off] := by simp [World.cell?, h, ho]
  have hfz : w.frozen? ⟨b, off, none⟩ = false := by
    have := hf off ho
    simp only [World.frozen?, h]
    simp only [Bool.and_eq_false_iff, decide_eq_false_iff_not]
    omega
  rw [run_store P w _ _ _ hv, hc]
  simp only [hfz, Bool.false_eq_true, if_false, setCell_eq h]
theorem run_storeCells' {b off : Nat} {T : TypeId} {fr : Nat × Nat} : ∀ (vs : List Value) (i : Nat) (c : Array Value) (w : World), w.heap[b]? = some (.cells c T fr) → NoFr fr c.size → off + i + vs.length ≤ c.size → (∀ v ∈ vs, v.oneCell' = true) →
    (storeCells ⟨b, off, none⟩ vs i).run P w = .ok () (putBlk w b (.cells (putVals c (off + i) vs) T fr))
  | [], i, c, w, h, _, _, _ => by
    rw [putVals_nil]
    have : putBlk w b (.cells c T fr) = w := by
      simp only [putBlk]
      have : w.heap.setIfInBounds b (.cells c T fr) = w.heap := by
        apply Array.ext_getElem?
        intro j
        rw [Array.getElem?_setIfInBounds]
        by_cases e : b = j
        · subst e; simp [h]
          have hlt : b < w.heap.size := by
            rcases Nat.lt_or_ge b w.heap.size with h' | h'
            · exact h'
            · rw [Array.getElem?_eq_none h'] at h; cases h
          simp [hlt]
        · simp [e]
      rw [this]
    rw [this]; rfl
  | v :: r, i, c, w, h, hf, hn, h1 => by
    simp only [List.length_cons] at hn
    have ha : (⟨b, off, none⟩ : Addr).add i = ⟨b, off + i, none⟩ := by
      by_cases hi : i = 0 <;> simp [Addr.add, hi]
    simp only [storeCells, ha, Sem.run_bind, run_store_cell (P := P) h hf (show off + i < c.size by omega) (h1 v (by simp)), Result.andThen_ok]
    have hs : (c.setIfInBounds (off + i) v).size = c.size := by simp
    rw [run_storeCells' r (i + 1) (c.setIfInBounds (off + i) v) _ (putBlk_same h) (by rw [hs]; exact hf) (by rw [hs]; omega) (fun v hv => h1 v (by simp [hv])), putBlk_putBlk]
    congr 3
    apply Array.ext_getElem?
    intro j
    rw [putVals_get (by rw [hs]; omega), putVals_get (by simp; omega)]
    simp only [List.length_cons]
    by_cases h2 : off + (i + 1) ≤ j ∧ j < off + (i + 1) + r.length
    · rw [if_pos h2, if_pos (by omega), show j - (off + i) = (j - (off + (i + 1))) + 1 by omega]; simp
    · rw [if_neg h2]
      by_cases h3 : j = off + i
      · subst h3
        rw [Array.getElem?_setIfInBounds_self_of_lt (by omega), if_pos (by omega)]; simp
      · rw [Array.getElem?_setIfInBounds_ne (Ne.symm h3), if_neg (by omega)]
end
section
variable {w : World} {F : Nat → Prop} {g : Nat → Loc} {ob : Nat → Option Ob}
theorem RAll.length : ∀ {cs : List AV} {vs : List Value}, RAll w F g ob cs vs → vs.length = cs.length
  | [], _, h => by rw [show _ = [] from h]; rfl
  | _ :: r, _, h => by obtain ⟨v, s, rfl, _, h2⟩ := h; simp [RAll.length h2]
theorem RAll.get : ∀ {cs : List AV} {vs : List Value}, RAll w F g ob cs vs → ∀ {i : Nat} {a : AV} {v : Value}, cs[i]? = some a → vs[i]? = some v → R w F g ob a v
  | [], _, _, i, _, _, h, _ => by simp at h
  | _ :: r, _, h, i, a, v, h1, h2 => by
    obtain ⟨v', s, rfl, k1, k2⟩ := h
    cases i with
    | zero => simp at h1 h2; subst h1; subst h2; exact k1
    | succ i => simp at h1 h2; exact RAll.get k2 h1 h2
theorem RAll.append : ∀ {cs ds : List AV} {vs us : List Value}, RAll w F g ob cs vs → RAll w F g ob ds us → RAll w F g ob (cs ++ ds) (vs ++ us)
  | [], _, _, _, h, k => by rw [show _ = [] from h]; exact k
  | a :: r, _, _, _, h, k => by obtain ⟨v, s, rfl, h1, h2⟩ := h; exact ⟨v, s ++ _, rfl, h1, RAll.append h2 k⟩
theorem RAll.drop : ∀ {cs : List AV} {vs : List Value}, RAll w F g ob cs vs → ∀ n, RAll w F g ob (cs.drop n) (vs.drop n)
  | _, _, h, 0 => h
  | [], _, h, n + 1 => by rw [show _ = [] from h]; exact rfl
  | a :: r, _, h, n + 1 => by obtain ⟨v, s, rfl, _, h2⟩ := h; exact RAll.drop h2 n
theorem RAll.take : ∀ {cs : List AV} {vs : List Value}, RAll w F g ob cs vs → ∀ n, RAll w F g ob (cs.take n) (vs.take n)
  | _, _, _, 0 => rfl
  | [], _, h, n + 1 => by rw [show _ = [] from h]; exact rfl
  | a :: r, _, h, n + 1 => by obtain ⟨v, s, rfl, h1, h2⟩ := h; exact ⟨v, _, rfl, h1, RAll.take h2 n⟩
theorem exp_rel : ∀ {t : Ty} {x : t.den} {vs : List Value}, Rd w F t x vs → RAll w F g ob (t.exp x) vs
  | .int _, _, _, h => by cases (show _ = _ from h); exact ⟨_, _, rfl, rfl, rfl⟩
  | .bool, _, _, h => by cases (show _ = _ from h); exact ⟨_, _, rfl, rfl, rfl⟩
  | .str, _, _, h => by cases (show _ = _ from h); exact ⟨_, _, rfl, rfl, rfl⟩
  | .cpx, _, _, h => by obtain ⟨a, b, rfl, h1, h2⟩ := h; exact ⟨_, _, rfl, ⟨a, b, rfl, h1, h2⟩, rfl⟩
  | .slice e, l, _, h => by
    obtain ⟨A, n, c, rfl, h⟩ := h
    exact ⟨_, _, rfl, ⟨⟨A, n, c, rfl, h⟩, fun _ _ _ _ => ⟨(fun q => nomatch q), (fun q => nomatch q)⟩⟩, rfl⟩
  | .unit, _, _, h => by cases (show _ = _ from h); exact rfl
  | .pair a b, x, _, h => by
    obtain ⟨c1, c2, rfl, h1, h2⟩ := h
    exact RAll.append (exp_rel h1) (exp_rel h2)
  | .fn f t, x, _, h => by
    obtain ⟨us, rfl, h1⟩ := h
    exact ⟨_, _, rfl, ⟨us, rfl, exp_rel h1⟩, rfl⟩
  | .ref t, x, _, h => by
    obtain ⟨a, rfl, h1⟩ := h
    exact ⟨_, _, rfl, ⟨a, rfl, h1⟩, rfl⟩
theorem exp_length : ∀ {t : Ty} (x : t.den), (t.exp x).length = t.cells
  | .int _, _ => rfl
  | .bool, _ => rfl
  | .str, _ => rfl
  | .slice _, _ => rfl
  | .unit, _ => rfl
  | .fn _ _, _ => rfl
  | .ref _, _ => rfl
  | .cpx, _ => rfl
  | .pair a b, x => by simp [Ty.exp, Ty.cells, exp_length]
theorem cut_length {c : Array Value} {off n : Nat} (h : off + n ≤ c.size) : (cut c off n).length = n := by simp [cut]; omega
theorem cut_cut {c : Array Value} {off n o m : Nat} (h : o + m ≤ n) : ((cut c off n).drop o).take m = cut c (off + o) m := by
  unfold cut
  rw [List.drop_take, List.drop_drop, List.take_take, Nat.min_eq_left (by omega)]
theorem cut_all {c : Array Value} : cut c 0 c.size = c.toList := by simp [cut, List.take_of_length_le]
end
end Go.Proofs.YtdbenenonfldkaaDoor.PE
