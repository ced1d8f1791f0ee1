/- What slices.Insert does to rows: zeros behind a row that has no room, elements moved up in a row that has. -/
import Derived.Test.YtdmfjpcobbkppaaEOps12
import Derived.Test.YtdmfjpcobbkppaaECopy
import Derived.Lib.AppendZerosOnto
namespace Go.Proofs.Ytdmfjpcobbkppaa.PE
set_option linter.unusedVariables false
open Go.RowKit
variable {P : Program} {w w' : World} {F F' : Nat → Prop} {g g' : Nat → Loc} {mine : Nat → Prop} {σ : St} {a : Act}
/-- Only what is said of objects. -/
theorem Rel.bare (h : Rel w F g mine σ a) (b : Act) : Rel w F g mine { tm := fun _ => .top, ob := σ.ob } b := ⟨fun _ => trivial, h.ob, h.uniq, h.low, h.up⟩
/-- An append of zeros that finds no room: the row itself stays. -/
theorem grow_zeros (h : Rel w F g mine σ a) {id nid : Nat} {e : Ty} {l : List e.den} {cm : Nat} {t tn ty el : TypeId} (ht : elemTy P t = some (el, e)) (htn : P.underlying tn = some (.int .i64)) (ho : σ.ob id = some (.row e l cm false)) {n : Nat} (hn : n ≤ l.length) {x : Value}
    (hs : SlAt (g id) 0 n x) {k : Nat} (hk : 0 < k) (hgr : (g id).cap < n + k) (hroom : ((n + k : Nat) : Int) * (P.bytesOf el : Int) ≤ room) (h63 : n + k ≤ 9223372036854775807) {d : Option Nat} (hd : ∀ e, d = some e → e < a.tmps.size) :
    Good w F g mine σ a ((do pure (Next.value (← Builtin.append_ #[t, tn] ty #[x, .int .i64 k])) : Sem Next).run P w) { v := .ow nid, sets := [(nid, some (.row e (l.take n ++ List.replicate k (zeroOf e)) (n + k) false))], kills := [nid] } d := by
  obtain ⟨hut, dd, i, z, hdd, hi, hz, hzs, hcz, hc1, his, hzk⟩ := elemTy_spec ht
  obtain ⟨A, rfl, s1, s2, s3⟩ := hs
  simp only [Nat.sub_zero, Nat.zero_mul] at *
  obtain ⟨k1, k2, kc, k4, k5⟩ := h.ob id _ ho
  have hold : ∃ old : Array Value, Els w F e (l.take n) old.toList ∧ ∀ w2 : World, w2.heap = w.heap → (Builtin.firstCells e.cells n (.slice A n (g id).cap)).run P w2 = .ok old w2 := by
    cases hb : (g id).blk with
    | none =>
      have h0 := k4 hb
      have hn0 : n = 0 := by omega
      subst hn0
      rw [s3 hb]
      exact ⟨#[], ⟨by simp, fun i y hy => by simp at hy⟩, fun _ _ => rfl⟩
    | some b =>
      obtain ⟨c, T, fr, q1, q2, q3, q4⟩ := els_of_el h ho hb
      refine ⟨(cut c 0 (n * e.cells)).toArray, by have := q4 n hn; simpa [cut] using this, fun w2 hw2 => ?_⟩
      by_cases hc0 : (g id).cap = 0
      · have hn0 : n = 0 := by omega
        subst hn0
        cases A with
        | none => simp [Builtin.firstCells, cut]
        | some ad => simp [Builtin.firstCells, loadCells, loadCellsFrom, cut]
      · rw [s2 b hb hc0]
        simp only [Builtin.firstCells]
        have hcap : n * e.cells ≤ c.size := by rw [q3]; exact Nat.mul_le_mul_right _ (by omega)
        exact run_loadCells' (w := w2) (by rw [hw2]; exact q1) (by omega)
  obtain ⟨old, hold1, hold2⟩ := hold
  have hb : P.bytesOf el = i.bytes := by simp [Program.bytesOf, hi]
  have h0 : (n + k) * i.bytes ≤ 140737488355328 := by
    rw [hb] at hroom
    unfold room at hroom
    have : (((n + k) * i.bytes : Nat) : Int) ≤ 140737488351232 := by rw [Int.natCast_mul]; exact hroom
    omega
  have hkb : k * i.bytes ≤ 281474976710656 := by
    have : k * i.bytes ≤ (n + k) * i.bytes := Nat.mul_le_mul_right _ (by omega)
    omega
  have hrun := Lib.run_append_grow_zeros w t tn ty el i z .i64 .i64 hut htn hi hz A n (g id).cap old.toList (by rw [his]; have := hold2 w.drew rfl; simpa using this) k hk (by rw [his]; exact hc1) hgr (by omega) hkb (growslice_fits hgr h0)
  have hcut : n + k ≤ grownCap w (n + k) (g id).cap el := by simp [grownCap, Question.cut]
  have hz2 := zeros_els (w := w) (F := F) hzs hzk hc1 k
  have hl0 : (l.take n ++ List.replicate k (zeroOf e)).length = n + k := by simp; omega
  refine Good.row h hd (l := l.take n ++ List.replicate k (zeroOf e)) (cap := grownCap w (n + k) (g id).cap el) (bind_value (by rw [hl0]; exact hrun)) (OneMore.drewAlloc w _) ?_ (by rw [hl0]; exact hcut) (nofr_zero _) hcut (fun j y hy => ?_)
  · have e1 : old.size = n * e.cells := by have := hold1.1; rw [Array.length_toList, List.length_take, Nat.min_eq_left hn] at this; exact this
    simp only [Array.size_append, zeroCells_size, hzs]
    rw [show (old.toList.toArray).size = old.size by simp, e1, ← Nat.add_mul, ← Nat.add_mul]
    congr 1
    omega
  · have := els_append hold1 hz2 (Builtin.zeroCells z.cells (grownCap w (n + k) (g id).cap el - (n + k))).toList j y hy
    have hcut : cut (old.toList.toArray ++ Builtin.zeroCells z.cells k ++ Builtin.zeroCells z.cells (grownCap w (n + k) (g id).cap el - (n + k))) (j * e.cells) e.cells = ((old.toList ++ (Builtin.zeroCells z.cells k).toList ++ (Builtin.zeroCells z.cells (grownCap w (n + k) (g id).cap el - (n + k))).toList).drop (j * e.cells)).take e.cells := by unfold cut; simp
    rw [hcut]
    exact this
/-- Elements moved up by one, in a row that has room. -/
theorem shift_copy (h : Rel w F g mine σ a) {id b : Nat} {e : Ty} {l : List e.den} {cm : Nat} {t ty el : TypeId} (ht : elemTy P t = some (el, e)) (ho : σ.ob id = some (.row e l cm false)) (hb : (g id).blk = some b) {i : Nat} (hi : i < l.length) (hfit : l.length + 1 ≤ (g id).cap)
    {x y : Value} (hx : SlAt (g id) (i + 1) (l.length - i) x) (hy : SlAt (g id) i (l.length + 1 - i) y) {d : Option Nat} (hd : ∀ e, d = some e → e < a.tmps.size) :
    ∃ u w1, (Builtin.copy_ #[t, t] ty #[x, y]).run P w = .ok u w1 ∧ Step mine w F w1 F ∧ Rel w1 F g mine (({ v := .int .i64 ((l.length - i : Nat) : Int), sets := [(id, some (.row e (l.take (i + 1) ++ l.drop i) cm false))], kills := [id] } : Upd).app σ d) (a.put d u) := by
  obtain ⟨hut, dd, inf, z, hdd, hin, hz, hzs, hcz, hc1, his, _⟩ := elemTy_spec ht
  obtain ⟨A, rfl, s1, s2, s3⟩ := hx
  obtain ⟨B, rfl, r1, r2, r3⟩ := hy
  obtain ⟨k1, k2, kc, k4, k5⟩ := h.ob id _ ho
  obtain ⟨c, T, fr, q1, q2, q3, q4, q5, q6⟩ := k5 b hb
  obtain ⟨hmine, hnF⟩ := q5 rfl
  have hA := s2 b hb (by omega)
  have hB := r2 b hb (by omega)
  subst hA; subst hB
  rw [k1]
  have hle : (i + (l.length - i)) * e.cells ≤ c.size := by rw [q2]; exact Nat.mul_le_mul_right _ (by omega)
  rw [Nat.add_mul] at hle
  have hld : ∀ w2 : World, w2.heap = w.heap → (Builtin.firstCells e.cells (l.length - i) (.slice (some ⟨b, i * e.cells, none⟩) (l.length + 1 - i) ((g id).cap - i))).run P w2 = .ok (cut c (i * e.cells) ((l.length - i) * e.cells)).toArray w2 := fun w2 hw2 => by
    simp only [Builtin.firstCells]
    exact run_loadCells' (w := w2) (by rw [hw2]; exact q1) (by omega)
  obtain ⟨new, hnew⟩ : ∃ new, new = cut c (i * e.cells) ((l.length - i) * e.cells) := ⟨_, rfl⟩
  rw [← hnew] at hld
  have hnl : new.length = (l.length - i) * e.cells := by
    rw [hnew]; unfold cut
    rw [List.length_take, List.length_drop]
    have hcs : c.toList.length = c.size := by simp
    omega
  have hels : Els w F e (l.drop i) new := by
    refine ⟨by rw [hnl, List.length_drop], fun j v hv => ?_⟩
    rw [List.getElem?_drop] at hv
    have := q6 (i + j) v hv
    have hj : i + j < l.length := (List.getElem?_eq_some_iff.mp hv).1
    have hjl : j * e.cells + e.cells ≤ (l.length - i) * e.cells := by rw [← Nat.succ_mul]; exact Nat.mul_le_mul_right _ (by omega)
    rw [hnew]
    unfold cut at this ⊢
    rw [List.drop_take, List.take_take, List.drop_drop, Nat.min_eq_left (by omega), ← Nat.add_mul]
    exact this
  have hmin : Nat.min (l.length + 1 - i) (l.length - i) = l.length - i := Nat.min_eq_right (by omega)
  have hsz : (i + 1) * e.cells + new.length ≤ c.size := by rw [hnl, q2, ← Nat.add_mul]; exact Nat.mul_le_mul_right _ (by omega)
  obtain ⟨w1, hw1⟩ : ∃ w1, w1 = putBlk w b (.cells (putVals c ((i + 1) * e.cells) new) T fr) := ⟨_, rfl⟩
  have hst : (storeCells ⟨b, (i + 1) * e.cells, none⟩ new).run P w = .ok () w1 := by
    have := run_storeCells' (P := P) (b := b) (off := (i + 1) * e.cells) new 0 c w q1 q3.of (by simpa using hsz) (hels.ones hc1)
    rw [Nat.add_zero] at this
    rw [this, hw1, Nat.add_zero]
  have hrun : (Builtin.copy_ #[t, t] ty #[.slice (some ⟨b, (i + 1) * e.cells, none⟩) (l.length - i) ((g id).cap - (i + 1)), .slice (some ⟨b, i * e.cells, none⟩) (l.length + 1 - i) ((g id).cap - i)]).run P w = .ok (.int .i64 ((l.length - i : Nat) : Int)) w1 := by
    have hl : (Builtin.lenOf (.slice (some ⟨b, i * e.cells, none⟩) (l.length + 1 - i) ((g id).cap - i))).run P w = .ok (l.length + 1 - i) w := rfl
    simp only [Builtin.copy_, List.getElem?_toArray, List.getElem?_cons_zero, List.getElem?_cons_succ, Sem.run_bind, run_underlying hut, Result.andThen_ok, hl, run_sizeOf w hin, hcz, hmin, hld w rfl]
    simp [goInt, hst]
  obtain ⟨st, hR, hK⟩ := h.write ho rfl (o' := .row e (l.take (i + 1) ++ l.drop i) cm false) rfl hb q1 (c' := putVals c ((i + 1) * e.cells) new) [id] (.inr rfl) (.int .i64 ((l.length - i : Nat) : Int)) (.int .i64 ((l.length - i : Nat) : Int)) d hd
    (fun ob' e1 e2 => ⟨k1, by rw [List.length_append, List.length_take, List.length_drop]; omega, kc, k4, fun b' hb' => by
      rw [hb] at hb'; cases hb'
      refine ⟨_, T, fr, putBlk_same q1, by rw [putVals_size hsz]; exact q2, by rw [putVals_size hsz]; exact q3, (fun h => nomatch h), fun _ => ⟨hmine, hnF⟩, fun j v hv => ?_⟩
      refine Rd.step (w := w) (F := F) (fun k hk => putBlk_other (fun e => hnF (by rw [← e]; exact hk))) (fun _ hk => hk) ?_
      have hlt : (l.take (i + 1)).length = i + 1 := by rw [List.length_take]; omega
      by_cases hj : j < i + 1
      · rw [List.getElem?_append_left (by omega), List.getElem?_take, if_pos hj] at hv
        have hj2 : j * e.cells + e.cells ≤ (i + 1) * e.cells := by rw [← Nat.succ_mul]; exact Nat.mul_le_mul_right _ (by omega)
        rw [cut_putVals hsz (.inl hj2)]
        exact q6 j v hv
      · rw [List.getElem?_append_right (by omega), hlt] at hv
        have hrd := hels.2 (j - (i + 1)) v hv
        have hlj : j - (i + 1) < l.length - i := by have := (List.getElem?_eq_some_iff.mp hv).1; rw [List.length_drop] at this; exact this
        have e1 : j * e.cells = (i + 1) * e.cells + (j - (i + 1)) * e.cells := by rw [← Nat.add_mul]; congr 1; omega
        have hle2 : (j - (i + 1)) * e.cells + e.cells ≤ new.length := by rw [hnl, ← Nat.succ_mul]; exact Nat.mul_le_mul_right _ (by omega)
        have : cut (putVals c ((i + 1) * e.cells) new) (j * e.cells) e.cells = (new.drop ((j - (i + 1)) * e.cells)).take e.cells := by
          apply List.ext_getElem?
          intro q
          unfold cut
          rw [List.getElem?_take, List.getElem?_take]
          by_cases hq : q < e.cells
          · rw [if_pos hq, if_pos hq, List.getElem?_drop, List.getElem?_drop, Array.getElem?_toList, putVals_get hsz, if_pos (by omega)]
            congr 1
            omega
          · rw [if_neg hq, if_neg hq]
        rw [this]
        exact hrd⟩)
    (fun ob' e1 e2 => rfl)
  exact ⟨_, w1, hrun, by rw [hw1]; exact st, by rw [hw1]; exact hR⟩
end Go.Proofs.Ytdmfjpcobbkppaa.PE
