/- Appending, held against the model's. -/
import Derived.Test.YtdbenenonfldkaaDoorEOps10
namespace Go.Proofs.YtdbenenonfldkaaDoor.PE
set_option linter.unusedVariables false
open Go.RowKit
variable {P : Program} {w w' : World} {F F' : Nat → Prop} {g g' : Nat → Loc} {mine : Nat → Prop} {σ : St} {a : Act}
/-- An empty row that has no block yet. -/
theorem Rel.virt' (h : Rel w F g mine σ a) (nid : Nat) (e : Ty) (v : AV) (x : Value) (d : Option Nat) (hd : ∀ e, d = some e → e < a.tmps.size)
    (hv : ∀ (g' : Nat → Loc) ob', g' nid = ⟨none, 0, e.cells⟩ → ob' nid = some (.row e [] 0 false) → R w F g' ob' v x) :
    ∃ g', g' nid = ⟨none, 0, e.cells⟩ ∧ Rel w F g' mine (({ v := v, sets := [(nid, some (.row e [] 0 false))], kills := [nid] } : Upd).app σ d) (a.put d x) ∧ Kept [nid] g g' σ.ob (({ v := v, sets := [(nid, some (.row e [] 0 false))], kills := [nid] } : Upd).app σ d).ob := by
  obtain ⟨g', hg1, hg2⟩ : ∃ g' : Nat → Loc, g' nid = ⟨none, 0, e.cells⟩ ∧ ∀ i, i ≠ nid → g' i = g i := ⟨fun i => if i = nid then ⟨none, 0, e.cells⟩ else g i, if_pos rfl, fun i hi => if_neg hi⟩
  refine ⟨g', hg1, ?_, fun id hid => ⟨hg2 id (by simpa using hid), fun n hn => by
    rw [app_ob] at hn
    have hn' : lenOf (setOb (σ.kill [nid]).ob [(nid, some (.row e [] 0 false))] id) = some n := hn
    rw [setOb_one, if_neg (by simpa using hid), lenOf_killOb] at hn'
    exact hn'⟩⟩
  have hob : setOb (σ.kill [nid]).ob [(nid, some (.row e [] 0 false))] nid = some (.row e [] 0 false) := by rw [setOb_one, if_pos rfl]
  refine h.upd (Step.refl _ _ _) _ d x hd (fun id hid => hid) (fun id hid => hg2 id (fun e => hid (by simp [e]))) ?_ ?_ ?_ ?_ h.low (hv _ _ hg1 hob)
  · intro id hid n
    rw [setOb_one, if_neg (fun e => hid (by simp [e])), lenOf_killOb]
    exact fun hh => hh
  · intro id o' h1 h2
    simp only [List.map_cons, List.map_nil, List.mem_singleton] at h2
    subst h2
    rw [hob] at h1; cases h1
    exact ⟨by rw [hg1], by simp, by simp, by rw [hg1]; exact fun _ => rfl, fun b hb => by rw [hg1] at hb; cases hb⟩
  · intro id o' b ho hs hb
    exact ⟨rfl, fun ho' => (own_not_F h ho ho' hb).1⟩
  · intro i j p q b hp hq hop hoq hi hj
    by_cases ei : i = nid
    · rw [ei, hg1] at hi; cases hi
    by_cases ej : j = nid
    · rw [ej, hg1] at hj; cases hj
    rw [hg2 i ei] at hi
    rw [hg2 j ej] at hj
    rw [setOb_one, if_neg ei] at hp
    rw [setOb_one, if_neg ej] at hq
    obtain ⟨p1, hp1, ho1⟩ := own_of hp
    obtain ⟨q1, hq1, ho2⟩ := own_of hq
    exact h.uniq i j p1 q1 b hp1 hq1 (ho1 hop) (ho2 hoq) hi hj
theorem Rel.virt (h : Rel w F g mine σ a) (nid : Nat) (e : Ty) (v : AV) (x : Value) (d : Option Nat) (hd : ∀ e, d = some e → e < a.tmps.size)
    (hv : ∀ (g' : Nat → Loc) ob', g' nid = ⟨none, 0, e.cells⟩ → ob' nid = some (.row e [] 0 false) → R w F g' ob' v x) :
    ∃ g', Rel w F g' mine (({ v := v, sets := [(nid, some (.row e [] 0 false))], kills := [nid] } : Upd).app σ d) (a.put d x) ∧ Kept [nid] g g' σ.ob (({ v := v, sets := [(nid, some (.row e [] 0 false))], kills := [nid] } : Upd).app σ d).ob := by
  obtain ⟨g', _, h1, h2⟩ := h.virt' nid e v x d hd hv
  exact ⟨g', h1, h2⟩
theorem putBlk_id {b : Nat} {o : Obj} (h : w.heap[b]? = some o) : putBlk w b o = w := by
  simp only [putBlk]
  have : w.heap.setIfInBounds b o = w.heap := by
    apply Array.ext_getElem?
    intro j
    rw [Array.getElem?_setIfInBounds]
    by_cases e : b = j
    · subst e
      have hlt := heap_some_lt h
      simp [hlt]
      rw [Array.getElem?_eq_getElem hlt] at h
      exact (Option.some.inj h).symm
    · simp [e]
  rw [this]
set_option maxHeartbeats 4000000 in
/-- An append that finds room. -/
theorem run_fits {t u ty el : TypeId} {e : Ty} (ht : elemTy P t = some (el, e)) {du : TypeDesc} (hu : P.underlying u = some du) (hnz : du = .string ∨ ∃ e', du = .slice e') {A : Option Addr} {n cap m : Nat} {x : Value} {new : Array Value}
    (hlen : (Builtin.lenOf x).run P w = .ok m w) (hfit : n + m ≤ cap) (hnew : (Builtin.firstCells e.cells m x).run P w = .ok new w) {w1 : World} (hst : ∀ ad, A = some ad → (storeCells (ad.add (n * e.cells)) new.toList).run P w = .ok () w1) (hno : A = none → w1 = w) :
    (Builtin.append_ #[t, u] ty #[.slice A n cap, x]).run P w = .ok (.slice A (n + m) cap) w1 := by
  obtain ⟨hut, d, i, z, hd, hi, hz, hzs, hc, h1, his, _⟩ := elemTy_spec ht
  have hmatch : (underlying u).run P w = .ok du w := run_underlying hu w
  cases A with
  | none =>
    rw [hno rfl]
    rcases hnz with rfl | ⟨e', rfl⟩
    all_goals simp [Builtin.append_, run_underlying hut, hmatch, sizeOf, typeInfo, hi, hlen, hfit, hnew, his]
  | some ad =>
    have hst' := hst ad rfl
    rcases hnz with rfl | ⟨e', rfl⟩
    all_goals simp [Builtin.append_, run_underlying hut, hmatch, sizeOf, typeInfo, hi, hlen, hfit, hnew, his, hst']
/-- A row's elements, more behind. -/
theorem els_append {e : Ty} {l vs : List e.den} {old new : List Value} (h1 : Els w F e l old) (h2 : Els w F e vs new) (rest : List Value) : ∀ i x, (l ++ vs)[i]? = some x → Rd w F e x (((old ++ new ++ rest).drop (i * e.cells)).take e.cells) := by
  intro i x hx
  obtain ⟨l1, r1⟩ := h1
  obtain ⟨l2, r2⟩ := h2
  by_cases hi : i < l.length
  · rw [List.getElem?_append_left hi] at hx
    have := r1 i x hx
    have hle : (i + 1) * e.cells ≤ l.length * e.cells := Nat.mul_le_mul_right _ hi
    rw [Nat.succ_mul] at hle
    rw [List.append_assoc, List.drop_append_of_le_length (by omega), List.take_append_of_le_length (by rw [List.length_drop]; omega)]
    exact this
  · rw [List.getElem?_append_right (by omega)] at hx
    have hj : i - l.length < vs.length := (List.getElem?_eq_some_iff.mp hx).1
    have := r2 _ x hx
    have hle : (i - l.length + 1) * e.cells ≤ vs.length * e.cells := Nat.mul_le_mul_right _ hj
    rw [Nat.succ_mul] at hle
    have hsub : i * e.cells = l.length * e.cells + (i - l.length) * e.cells := by rw [← Nat.add_mul]; congr 1; omega
    rw [List.append_assoc, hsub, ← l1, ← List.drop_drop, List.drop_left, List.drop_append_of_le_length (by omega), List.take_append_of_le_length (by rw [List.length_drop]; omega)]
    exact this
theorem cut_toArray (l : List Value) (off n : Nat) : cut l.toArray off n = (l.drop off).take n := by simp [cut]
theorem els_of_el (h : Rel w F g mine σ a) {id : Nat} {e : Ty} {l : List e.den} {cm : Nat} {frz : Bool} (ho : σ.ob id = some (.row e l cm frz)) {b : Nat} (hb : (g id).blk = some b) : ∃ c T fr, w.heap[b]? = some (.cells c T fr) ∧ NoFr fr (c.size + slack e) ∧ c.size = (g id).cap * e.cells ∧ ∀ n, n ≤ l.length → Els w F e (l.take n) (c.toList.take (n * e.cells)) := by
  obtain ⟨k1, k2, kc, k4, k5⟩ := h.ob id _ ho
  obtain ⟨c, T, fr, q1, q2, q3, q4, q5, q6⟩ := k5 b hb
  refine ⟨c, T, fr, q1, q3, q2, fun n hn => ⟨?_, fun i y hy => ?_⟩⟩
  · have : n * e.cells ≤ (g id).cap * e.cells := Nat.mul_le_mul_right _ (by omega)
    simp only [List.length_take, Array.length_toList]
    rw [Nat.min_eq_left hn, Nat.min_eq_left (by omega)]
  · have hi : i < n := by
      have := (List.getElem?_eq_some_iff.mp hy).1
      rw [List.length_take] at this
      omega
    rw [List.getElem?_take, if_pos hi] at hy
    have hle : (i + 1) * e.cells ≤ n * e.cells := Nat.mul_le_mul_right _ hi
    rw [Nat.succ_mul] at hle
    have := q6 i y hy
    unfold cut at this
    rw [List.drop_take, List.take_take, Nat.min_eq_left (by omega)]
    exact this
end Go.Proofs.YtdbenenonfldkaaDoor.PE
