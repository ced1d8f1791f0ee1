/- Appending, copying, new rows, held against the model's. -/
import Derived.Test.YtdbenenonfldkaaDoorEOps9
namespace Go.Proofs.YtdbenenonfldkaaDoor.PE
set_option linter.unusedVariables false
open Go.RowKit
variable {P : Program} {w w' : World} {F F' : Nat → Prop} {g g' : Nat → Loc} {mine : Nat → Prop} {σ : St} {a : Act}
theorem elemTy_spec {t el : TypeId} {e : Ty} (h : elemTy P t = some (el, e)) :
    P.underlying t = some (.slice el) ∧ ∃ d i z, P.underlying el = some d ∧ P.info? el = some i ∧ i.zero = some z ∧ z.cells.size = e.cells ∧ P.cellsOf el = e.cells ∧ 1 ≤ e.cells ∧ i.size = e.cells ∧ zeroOk e z.cells.toList = some [] := by
  unfold elemTy at h
  split at h
  · rename_i el' hu
    split at h
    · rename_i e' he
      cases ho : okEl P el' e' with
      | false => rw [ho] at h; cases h
      | true =>
        rw [ho, cond_true] at h
        cases h
        refine ⟨hu, ?_⟩
        unfold okEl at ho
        simp only [Bool.and_eq_true] at ho
        obtain ⟨⟨⟨h1, h2⟩, h3⟩, h4⟩ := ho
        obtain ⟨d, hd⟩ := isSomeT_spec h1
        obtain ⟨i, hi⟩ := info_of_und hd
        have h2 := Nat.eq_of_beq_eq_true h2
        have h3 := Nat.le_of_ble_eq_true h3
        cases hz : i.zero with
        | none => rw [hi] at h4; simp [hz] at h4
        | some z =>
          rw [hi] at h4
          simp only [Option.bind_some, hz, Bool.and_eq_true] at h4
          refine ⟨d, i, z, hd, hi, hz, Nat.eq_of_beq_eq_true h4.1, h2, h3, by rw [← h2]; simp [Program.cellsOf, hi], ?_⟩
          have h5 := h4.2
          cases hk : zeroOk e z.cells.toList with
          | none => rw [hk] at h5; cases h5
          | some q => cases q with
            | nil => rfl
            | cons _ _ => rw [hk] at h5; cases h5
    · cases h
  · cases h
/-- Cells that are elements, one behind the other. -/
def Els (w : World) (F : Nat → Prop) (e : Ty) (l : List e.den) (new : List Value) : Prop := new.length = l.length * e.cells ∧ ∀ i y, l[i]? = some y → Rd w F e y ((new.drop (i * e.cells)).take e.cells)
theorem Rd.ones : ∀ {t : Ty} {x : t.den} {cs : List Value}, Rd w F t x cs → ∀ y ∈ cs, y.oneCell' = true
  | .int _, _, _, h, y, hy => by rw [show _ = _ from h] at hy; rw [List.mem_singleton.1 hy]; rfl
  | .bool, _, _, h, y, hy => by rw [show _ = _ from h] at hy; rw [List.mem_singleton.1 hy]; rfl
  | .str, _, _, h, y, hy => by rw [show _ = _ from h] at hy; rw [List.mem_singleton.1 hy]; rfl
  | .slice e, _, _, h, y, hy => by obtain ⟨A, n, c, rfl, _⟩ := h; rw [List.mem_singleton.1 hy]; rfl
  | .cpx, _, _, h, y, hy => by obtain ⟨a, b, rfl, _⟩ := h; rw [List.mem_singleton.1 hy]; rfl
  | .unit, _, _, h, y, hy => by rw [show _ = [] from h] at hy; cases hy
  | .fn f t, _, _, h, y, hy => by obtain ⟨us, rfl, _⟩ := h; rw [List.mem_singleton.1 hy]; rfl
  | .ref t, _, _, h, y, hy => by obtain ⟨us, rfl, _⟩ := h; rw [List.mem_singleton.1 hy]; rfl
  | .pair a b, x, _, h, y, hy => by
    obtain ⟨c1, c2, rfl, h1, h2⟩ := h
    rcases List.mem_append.1 hy with hy | hy
    · exact Rd.ones h1 y hy
    · exact Rd.ones h2 y hy
theorem Els.ones {e : Ty} {l : List e.den} {new : List Value} (h : Els w F e l new) (hc : 1 ≤ e.cells) : ∀ y ∈ new, y.oneCell' = true := by
  intro y hy
  obtain ⟨j, hj, rfl⟩ := List.getElem_of_mem hy
  have hlt : j / e.cells < l.length := by rw [Nat.div_lt_iff_lt_mul hc, ← h.1]; exact hj
  have hr := h.2 (j / e.cells) l[j / e.cells] (by simp [hlt])
  refine Rd.ones hr _ ?_
  have h1 : j % e.cells < e.cells := Nat.mod_lt _ hc
  have h2 : j / e.cells * e.cells + j % e.cells = j := by rw [Nat.mul_comm]; exact Nat.div_add_mod j e.cells
  refine List.mem_of_getElem? (i := j % e.cells) ?_
  rw [List.getElem?_take, if_pos h1, List.getElem?_drop, h2]
  simp [hj]
theorem first_of_el {e : Ty} {x : Value} {l : List e.den} (h : ElAt w F e x l) : ∃ new, (Builtin.lenOf x).run P w = .ok l.length w ∧ (∀ w2 : World, w2.heap = w.heap → (Builtin.firstCells e.cells l.length x).run P w2 = .ok new w2) ∧ Els w F e l new.toList := by
  obtain ⟨A, n, c, rfl, rfl, h3, h4, h5⟩ := h
  by_cases hl : l = []
  · subst hl
    cases A with
    | none => exact ⟨#[], rfl, fun _ _ => rfl, by simp, fun i y h => by simp at h⟩
    | some ad => exact ⟨#[], rfl, fun _ _ => by simp [Builtin.firstCells, loadCells, loadCellsFrom], by simp, fun i y h => by simp at h⟩
  · obtain ⟨b, off, arr, T, fr, rfl, k1, k2, k3⟩ := h5 hl
    refine ⟨(cut arr off (l.length * e.cells)).toArray, rfl, fun w2 hw2 => ?_, ?_, fun i y hy => ?_⟩
    · simp only [Builtin.firstCells]
      exact run_loadCells' (by rw [hw2]; exact k1) k2
    · simp only [List.toList_toArray]; exact cut_length k2
    · have hi : i < l.length := (List.getElem?_eq_some_iff.mp hy).1
      have : (i + 1) * e.cells ≤ l.length * e.cells := Nat.mul_le_mul_right _ hi
      rw [Nat.succ_mul] at this
      simp only [List.toList_toArray]
      rw [cut_cut this]
      exact k3 i y hy
theorem bytesList_get {s : ByteArray} {i : Nat} {y : Int} (h : (bytesList s)[i]? = some y) : ∃ b, s.data.toList[i]? = some b ∧ y = (b.toNat : Int) := by
  unfold bytesList at h
  rw [List.getElem?_map] at h
  obtain ⟨b, hb, rfl⟩ := Option.map_eq_some_iff.1 h
  exact ⟨b, hb, rfl⟩
theorem bytesList_length (s : ByteArray) : (bytesList s).length = s.size := by simp [bytesList]
theorem first_of_str {s : ByteArray} : ∃ new, (Builtin.lenOf (.string s)).run P w = .ok (bytesList s).length w ∧ (∀ w2 : World, w2.heap = w.heap → (Builtin.firstCells 1 (bytesList s).length (.string s)).run P w2 = .ok new w2) ∧ Els w F (.int .u8) (bytesList s) new.toList := by
  have he : s.extract 0 s.size = s := by
    apply ByteArray.ext
    simp
  refine ⟨s.data.map fun b => .int .u8 b.toNat, by simp [Builtin.lenOf, bytesList_length], fun _ _ => by simp [Builtin.firstCells, bytesList_length, he], ?_, fun i y hy => ?_⟩
  · simp [bytesList, Ty.cells]
  · obtain ⟨b, hb, rfl⟩ := bytesList_get hy
    have hlt := (List.getElem?_eq_some_iff.mp hb).1
    simp only [Ty.cells, Nat.mul_one, Array.toList_map]
    rw [List.drop_eq_getElem_cons (by simpa using hlt)]
    simp only [List.take_succ_cons, List.take_zero, List.getElem_map]
    have := (List.getElem?_eq_some_iff.mp hb).2
    rw [this]
    rfl
theorem src_sound (h : Rel w F g mine σ a) {e : Ty} {u : TypeId} {v : AV} {x : Value} (hv : R w F g σ.ob v x) {l : List e.den} (hq : (Q.src P e u v).val σ.ob = some l) :
    ∃ new d, P.underlying u = some d ∧ (d = .string ∨ ∃ e', d = .slice e') ∧ (Builtin.lenOf x).run P w = .ok l.length w ∧ (∀ w2 : World, w2.heap = w.heap → (Builtin.firstCells e.cells l.length x).run P w2 = .ok new w2) ∧ Els w F e l new.toList := by
  unfold Q.src at hq
  split at hq
  · rename_i s hu
    cases (show _ = _ from hv)
    split at hq
    · rename_i he _
      subst he
      simp only [val_ret_some, castRow_self] at hq
      subst hq
      obtain ⟨new, h1, h2, h3⟩ := first_of_str (P := P) (w := w) (F := F) (s := s)
      exact ⟨new, _, hu, .inl rfl, h1, h2, h3⟩
    · cases hq
  · rename_i el v' _ hu
    obtain ⟨new, h1, h2, h3⟩ := first_of_el (P := P) (elems_sound h hv hq)
    exact ⟨new, _, hu, .inr ⟨_, rfl⟩, h1, h2, h3⟩
  · cases hq
theorem zeroCells_size (z : Array Value) (n : Nat) : (Builtin.zeroCells z n).size = n * z.size := by simp [Builtin.zeroCells]
theorem OneMore.drewAlloc (w : World) (o : Obj) : OneMore w (w.drew.alloc o) o :=
  ⟨rfl, rfl, rfl, by simp, fun b hb => by show (w.heap.push o)[b]? = _; rw [Array.getElem?_push, if_neg (by omega)], Array.getElem?_push_size⟩
set_option maxHeartbeats 4000000 in
/-- An append that finds no room. -/
theorem run_grow {t u ty el : TypeId} {e : Ty} (ht : elemTy P t = some (el, e)) {du : TypeDesc} (hu : P.underlying u = some du) (hnz : du = .string ∨ ∃ e', du = .slice e') {A : Option Addr} {n cap m : Nat} {x : Value} {old new : Array Value}
    (hlen : (Builtin.lenOf x).run P w = .ok m w) (hgr : cap < n + m) (hroom : ((n + m : Nat) : Int) * (P.bytesOf el : Int) ≤ room) (hold : ∀ w2 : World, w2.heap = w.heap → (Builtin.firstCells e.cells n (.slice A n cap)).run P w2 = .ok old w2)
    (hnew : ∀ w2 : World, w2.heap = w.heap → (Builtin.firstCells e.cells m x).run P w2 = .ok new w2) (h63 : n + m ≤ 9223372036854775807) :
    ∃ cap' rest w1, n + m ≤ cap' ∧ rest.size = (cap' - (n + m)) * e.cells ∧ (Builtin.append_ #[t, u] ty #[.slice A n cap, x]).run P w = .ok (.slice (some ⟨w.heap.size, 0, none⟩) (n + m) cap') w1 ∧ OneMore w w1 (.cells (old ++ new ++ rest) el (0, 0)) := by
  obtain ⟨hut, d, i, z, hd, hi, hz, hzs, hc, h1, his, _⟩ := elemTy_spec ht
  have hb : P.bytesOf el = i.bytes := by simp [Program.bytesOf, hi]
  have hfit : ¬ Builtin.nextslicecap (n + m) cap * i.bytes > 2 ^ 48 := by
    have h0 : (n + m) * i.bytes ≤ 140737488355328 := by
      rw [hb] at hroom
      unfold room at hroom
      have : (((n + m) * i.bytes : Nat) : Int) ≤ 140737488351232 := by rw [Int.natCast_mul]; exact hroom
      omega
    have := growslice_fits hgr h0
    omega
  have hmax : ¬ (((n + m : Nat) : Int) > IntKind.i64.max ∧ (False ∨ i.bytes = 0)) := by
    have : IntKind.i64.max = 9223372036854775807 := by decide
    rw [this]; omega
  have hcut : n + m ≤ grownCap w (n + m) cap el := by simp [grownCap, Question.cut]
  refine ⟨grownCap w (n + m) cap el, Builtin.zeroCells z.cells (grownCap w (n + m) cap el - (n + m)), _, hcut, by rw [zeroCells_size, hzs], ?_, OneMore.drewAlloc w _⟩
  have hn : ¬ (n + m ≤ cap) := by omega
  have h63' : ¬ (9223372036854775807 < ((n : Int) + (m : Int))) := by omega
  have h48' : ¬ (281474976710656 < Builtin.nextslicecap (n + m) cap * i.bytes) := by omega
  have hf := hnew w.drew rfl
  have hfo := hold w.drew rfl
  have hmatch : (underlying u).run P w = .ok du w := run_underlying hu w
  rcases hnz with rfl | ⟨e', rfl⟩
  all_goals
    simp [Builtin.append_, run_underlying hut, hmatch, sizeOf, typeInfo, zeroValue, hi, hz, hlen, hn, h63', h48', Question.forced, hf, hfo, newRow, grownCap, his]
end Go.Proofs.YtdbenenonfldkaaDoor.PE
