/- What a law's arguments are, read out of the row's data: kind by kind. -/
import Derived.Test.YtadcekchmaiihaaXW
import Derived.Deep.Slices
import Derived.SizedLaws
import Derived.ProofKit
namespace Go.Proofs.YtadcekchmaiihaaW.PrintWords
open Go Go.RowKit Go.Deep
section
variable {H : Type} {enc : TypeId × Value → H} {P : Program} {W : World}
/-- Each weight of a datum is within reach. -/
def Light (P : Program) (t : TypeId) (d : DataW H) : Prop := ∀ n ∈ d.weights P t, n ≤ reachBytes
/-- What can be read at this type is a value of this kind. -/
def Opens (enc : TypeId × Value → H) (P : Program) (W : World) (t : TypeId) {α : Type} (k : Kd α) (wf : α → Prop) : Prop :=
  ∀ fuel cs x, DataW.trod enc P W 0 (fun _ => true) true fuel t cs = some x → Light P t x.1 → ∃ y, k.K W y cs ∧ wf y
theorem opens_int {t : TypeId} {k : IntKind} (hu : P.underlying t = some (.int k)) : Opens enc P W t (Kd.int k) (fun n => (Lit.int k n).wf = true) := by
  intro fuel cs x h _
  obtain ⟨n, hc, _, hw⟩ := DataW.trod_int hu h
  exact ⟨n, by subst hc; rfl, hw⟩
theorem opens_bool {t : TypeId} (hu : P.underlying t = some .bool) : Opens enc P W t Kd.bool (fun _ => True) := by
  intro fuel cs x h _
  obtain ⟨b, hc, _⟩ := DataW.trod_bool hu h
  exact ⟨b, by subst hc; rfl, trivial⟩
theorem opens_string {t : TypeId} (hu : P.underlying t = some .string) : Opens enc P W t Kd.string (fun s => s.size ≤ 140737488351232) := by
  intro fuel cs x h hl
  obtain ⟨s, hc, hx, _⟩ := DataW.trod_string hu h
  refine ⟨s, by subst hc; rfl, ?_⟩
  subst hx
  have := hl s.data.toList.length (by simp [DataW.weights])
  rw [Array.length_toList] at this
  exact this
theorem light_all {e : TypeId} {ds : List (DataW H)} (h : ∀ n ∈ DataW.weightsAll P e ds, n ≤ reachBytes) : ∀ d ∈ ds, Light P e d := by
  induction ds with
  | nil => intro d hd; cases hd
  | cons a r ih =>
    intro d hd
    rw [DataW.weightsAll] at h
    rcases List.mem_cons.mp hd with rfl | hd
    · exact fun n hn => h n (List.mem_append_left _ hn)
    · exact ih (fun n hn => h n (List.mem_append_right _ hn)) d hd
theorem opens_slice {t e : TypeId} {α : Type} [Inhabited α] {k : Kd α} {wf : α → Prop} {B : Nat} (hu : P.underlying t = some (.slice e)) (hB : P.bytesOf e = B) (hc : P.cellsOf e = k.sz) (he : Opens enc P W e k wf) :
    Opens enc P W t (Kd.slice e k) (fun l => l.length ≤ 9223372036854775807 ∧ l.length * B ≤ 140737488351232 ∧ ∀ x ∈ l, wf x) := by
  intro fuel cs x h hl
  rcases open_slice hu h with ⟨rfl, rfl⟩ | ⟨a, len, cap, m, n, D, Pl, rfl, hb, hlc, hm, hmm, rfl, hx⟩
  · exact ⟨[], ⟨none, 0, rfl, Nat.le_refl _, Kd.C_nil _ _⟩, by simp, by simp, fun _ h => by cases h⟩
  · have hm' : m = cap := by simpa using hmm
    subst hm'
    have hw : ((len + (m - len)) * P.bytesOf e ≤ reachBytes) ∧ (∀ n ∈ DataW.weightsAll P e ((List.range len).map D), n ≤ reachBytes) := by
      refine ⟨?_, fun n hn => hl n ?_⟩
      · have := hl ((((List.range len).map D).length + ((List.range (m - len)).map fun j => D (len + j)).length) * P.bytesOf e) (by simp [DataW.weights, hu])
        simpa using this
      · simp only [DataW.weights, hu]
        exact List.mem_cons_of_mem _ (List.mem_append_left _ hn)
    have hel := light_all hw.2
    obtain ⟨f, hf⟩ := choose_lt (α := α × List Value) (n := len) (p := fun i y => W.cells? 0 (a.add (i * P.cellsOf e)) (P.cellsOf e) = some y.2 ∧ k.K W y.1 y.2 ∧ wf y.1) (fun i hi => by
      obtain ⟨cs', h1, h2⟩ := hx i (by omega)
      obtain ⟨y, h3, h4⟩ := he n cs' (D i, Pl i) h2 (hel (D i) (List.mem_map.mpr ⟨i, List.mem_range.mpr hi, rfl⟩))
      exact ⟨(y, cs'), h1, h3, h4⟩)
    refine ⟨(List.range len).map fun i => (f i).1, ?_, ?_, ?_, ?_⟩
    · refine ⟨some a, m, by simp, by simpa using hlc, by simp, by simp only [List.length_map, List.length_range]; unfold maxLen at hm; omega, fun _ => ⟨a, rfl, fun j p hj => ?_⟩⟩
      have hj' : j < len ∧ (f j).1 = p := by
        rw [List.getElem?_map] at hj
        by_cases hlt : j < len
        · rw [List.getElem?_range hlt] at hj; exact ⟨hlt, by simpa using hj⟩
        · rw [List.getElem?_eq_none (by simpa using hlt)] at hj; cases hj
      obtain ⟨hlt, rfl⟩ := hj'
      obtain ⟨h1, h2, h3⟩ := hf j hlt
      refine ⟨(f j).2, k.K_len h2, h2, fun i u hi => ?_⟩
      obtain ⟨_, hlen, hcell⟩ := World.cells?_some h1
      have hi' : i < P.cellsOf e := by rw [← hlen]; exact (List.getElem?_eq_some_iff.mp hi).1
      rw [← hc, ← add_add, hcell i hi']
      exact hi
    · simp only [List.length_map, List.length_range]; unfold maxLen at hm; omega
    · simp only [List.length_map, List.length_range]
      have := hw.1
      rw [hB] at this
      have h3 : len * B ≤ (len + (m - len)) * B := Nat.mul_le_mul_right _ (by omega)
      exact Nat.le_trans h3 this
    · intro y hy
      obtain ⟨i, hi, rfl⟩ := List.mem_map.mp hy
      exact (hf i (List.mem_range.mp hi)).2.2
/-- A struct, by its fields: each field's cells, in their order. -/
theorem opens_struct {t : TypeId} {fs : Array Field} {α : Type} {k : Kd α} {wf : α → Prop} (hu : P.underlying t = some (.struct fs)) (h : ∀ fuel cs xs, cs.length = P.cellsOf t →
    fs.toList.mapM (fun f => DataW.trod enc P W 0 (fun _ => true) true fuel f.type ((cs.drop f.offset).take (P.cellsOf f.type))) = some xs → (∀ m ∈ DataW.weightsEach P (fs.toList.map (·.type)) (xs.map (·.1)), m ≤ reachBytes) → ∃ y, k.K W y cs ∧ wf y) : Opens enc P W t k wf := by
  intro fuel cs x hx hl
  cases fuel with
  | zero => simp [DataW.trod] at hx
  | succ n =>
    unfold DataW.trod at hx
    simp only [hu] at hx
    by_cases hlen : cs.length = P.cellsOf t
    · rw [if_pos hlen] at hx
      obtain ⟨xs, hxs, rfl⟩ := Option.map_eq_some_iff.mp hx
      refine h n cs xs hlen hxs (fun m hm => hl m ?_)
      simp only [DataW.weights, hu]
      exact hm
    · rw [if_neg hlen] at hx; cases hx
theorem mapM_cons_some {α β : Type} {f : α → Option β} {a : α} {l : List α} {ys : List β} (h : (a :: l).mapM f = some ys) : ∃ y r, f a = some y ∧ l.mapM f = some r ∧ ys = y :: r := by
  rw [List.mapM_cons] at h
  cases hy : f a with
  | none => rw [hy] at h; cases h
  | some y =>
    rw [hy] at h
    cases hr : l.mapM f with
    | none => rw [hr] at h; cases h
    | some r =>
      rw [hr] at h
      exact ⟨y, r, rfl, rfl, (Option.some.inj h).symm⟩
theorem mapM_nil_some {α β : Type} {f : α → Option β} {ys : List β} (h : ([] : List α).mapM f = some ys) : ys = [] := (Option.some.inj h).symm
theorem each_head {t : TypeId} {ts : List TypeId} {d : DataW H} {ds : List (DataW H)} (h : ∀ m ∈ DataW.weightsEach P (t :: ts) (d :: ds), m ≤ reachBytes) : Light P t d ∧ ∀ m ∈ DataW.weightsEach P ts ds, m ≤ reachBytes := by
  rw [DataW.weightsEach] at h
  exact ⟨fun m hm => h m (List.mem_append_left _ hm), fun m hm => h m (List.mem_append_right _ hm)⟩
/-- The row's own weights. -/
theorem light_of {ts : List TypeId} {ds : List (DataW H)} {j : Nat} {t : TypeId} {d : DataW H} (hsz : (DataW.weightsEach P ts ds).all (· ≤ reachBytes) = true) (ht : ts[j]? = some t) (hd : ds[j]? = some d) : Light P t d := fun n hn => by
  have := List.all_eq_true.1 hsz _ (DataW.weights_mem_each ht hd n hn)
  simpa using this
end
end Go.Proofs.YtadcekchmaiihaaW.PrintWords
