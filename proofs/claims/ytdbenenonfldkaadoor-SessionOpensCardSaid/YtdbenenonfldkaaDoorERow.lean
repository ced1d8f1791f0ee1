/- A law's row: its arguments, read as data; its contract gives what the row asks. -/
import Derived.Test.YtdbenenonfldkaaDoorEFun
import Derived.WalkKit
import Derived.ProofKit
import Derived.OpenShut
import Derived.ShutString
import Derived.ChangeOld
import Derived.Below
import Derived.Carry
import Derived.SizedLaws
import Derived.WideShapes
import Derived.Deep.Slices
namespace Go.Proofs.YtdbenenonfldkaaDoor.PE
set_option linter.unusedVariables false
open Go.RowKit Go.Deep Go.WideShapes
/-- A datum is such as a program may be handed. -/
def Wf : (t : Ty) → t.den → Prop
  | .int k, n => (Lit.int k n).wf = true
  | .bool, _ => True
  | .str, s => s.size ≤ reachBytes
  | .slice e, l => l.length ≤ reachBytes ∧ ∀ x ∈ l, Wf e x
  | .unit, _ => True
  | .fn _ _, _ => False
  | .ref _, _ => False
  | .cpx, _ => False
  | .pair a b, x => Wf a x.1 ∧ Wf b x.2
mutual
/-- Does a type lie in memory as its datum's cells? -/
def laidT (P : Program) : Nat → TypeId → Bool
  | 0, _ => false
  | n + 1, t => match P.underlying t with
    | some (.int _) => true
    | some .bool => true
    | some .string => true
    | some (.slice e) => laidT P n e && Nat.ble 1 (P.bytesOf e) && (match tyOf P n e with | some x => Nat.beq (P.cellsOf e) x.cells && Nat.ble 1 x.cells | none => false)
    | some (.struct fs) => laidFs P n 0 (P.cellsOf t) fs.toList
    | _ => false
def laidFs (P : Program) : Nat → Nat → Nat → List Field → Bool
  | 0, _, _, _ => false
  | _ + 1, off, tot, [] => Nat.beq off tot
  | n + 1, off, tot, f :: r => Nat.beq f.offset off && laidT P n f.type && (match r with
    | [] => Nat.beq (off + P.cellsOf f.type) tot
    | _ => (match tyOf P n f.type with | some x => Nat.beq (P.cellsOf f.type) x.cells | none => false) && laidFs P n (off + P.cellsOf f.type) tot r)
end
section
variable {H : Type} {enc : TypeId × Value → H} {P : Program} {W : World}
/-- Each weight of a datum is within reach. -/
def Light (P : Program) (t : TypeId) (d : DataW H) : Prop := ∀ n ∈ d.weights P t, n ≤ reachBytes
def Low (W : World) (b : Nat) : Prop := b < W.heap.size
def OpensT (enc : TypeId × Value → H) (P : Program) (W : World) (tid : TypeId) (t : Ty) : Prop :=
  ∀ fuel cs x, DataW.trod enc P W 0 (fun _ => true) true fuel tid cs = some x → Light P tid x.1 → ∃ y : t.den, Rd W (Low W) t y cs ∧ Wf t y
theorem light_all {e : TypeId} {ds : List (DataW H)} (h : ∀ n ∈ DataW.weightsAll P e ds, n ≤ reachBytes) : ∀ d ∈ ds, Light P e d := by
  induction ds with
  | nil => intro d hd; cases hd
  | cons a r ih =>
    intro d hd
    rw [DataW.weightsAll] at h
    rcases List.mem_cons.mp hd with rfl | hd
    · exact fun n hn => h n (List.mem_append_left _ hn)
    · exact ih (fun n hn => h n (List.mem_append_right _ hn)) d hd
theorem mapM_cons_some {α β : Type} {f : α → Option β} {a : α} {l : List α} {ys : List β} (h : (a :: l).mapM f = some ys) : ∃ y r, f a = some y ∧ l.mapM f = some r ∧ ys = y :: r := by
  rw [List.mapM_cons] at h
  cases hy : f a with
  | none => rw [hy] at h; cases h
  | some y =>
    rw [hy] at h
    cases hr : l.mapM f with
    | none => rw [hr] at h; cases h
    | some r =>
      rw [hr] at h
      exact ⟨y, r, rfl, rfl, (Option.some.inj h).symm⟩
theorem each_head {t : TypeId} {ts : List TypeId} {d : DataW H} {ds : List (DataW H)} (h : ∀ m ∈ DataW.weightsEach P (t :: ts) (d :: ds), m ≤ reachBytes) : Light P t d ∧ ∀ m ∈ DataW.weightsEach P ts ds, m ≤ reachBytes := by
  rw [DataW.weightsEach] at h
  exact ⟨fun m hm => h m (List.mem_append_left _ hm), fun m hm => h m (List.mem_append_right _ hm)⟩
theorem light_of {ts : List TypeId} {ds : List (DataW H)} {j : Nat} {t : TypeId} {d : DataW H} (hsz : (DataW.weightsEach P ts ds).all (· ≤ reachBytes) = true) (ht : ts[j]? = some t) (hd : ds[j]? = some d) : Light P t d := fun n hn => by
  have := List.all_eq_true.1 hsz _ (DataW.weights_mem_each ht hd n hn)
  simpa using this
theorem add_block' (a : Addr) (n : Nat) : (a.add n).block = a.block := by unfold Addr.add; by_cases h : n = 0 <;> simp [h]
theorem add_off' (a : Addr) (n : Nat) : (a.add n).off = a.off + n := by unfold Addr.add; by_cases h : n = 0 <;> simp [h]
theorem add_spot' {a : Addr} {n : Nat} (hs : a.spot = none) : (a.add n).spot = none := by unfold Addr.add; by_cases h : n = 0 <;> simp [h, hs]
theorem opens_slice {tid e : TypeId} {t : Ty} (hu : P.underlying tid = some (.slice e)) (hB : 1 ≤ P.bytesOf e) (hc : P.cellsOf e = t.cells) (h1 : 1 ≤ t.cells) (he : OpensT enc P W e t) : OpensT enc P W tid (.slice t) := by
  intro fuel cs x h hl
  rcases open_slice hu h with ⟨rfl, rfl⟩ | ⟨a, len, cap, m, n, D, Pl, rfl, hb, hlc, hm, hmm, rfl, hx⟩
  · refine ⟨[], ⟨none, 0, 0, rfl, rfl, Nat.le_refl _, fun _ => rfl, fun a ha => by cases ha⟩, by simp, fun _ h => by cases h⟩
  · have hm' : m = cap := by simpa using hmm
    subst hm'
    have hw : ((len + (m - len)) * P.bytesOf e ≤ reachBytes) ∧ (∀ n ∈ DataW.weightsAll P e ((List.range len).map D), n ≤ reachBytes) := by
      refine ⟨?_, fun n hn => hl n ?_⟩
      · have := hl ((((List.range len).map D).length + ((List.range (m - len)).map fun j => D (len + j)).length) * P.bytesOf e) (by simp [DataW.weights, hu])
        simpa using this
      · simp only [DataW.weights, hu]
        exact List.mem_cons_of_mem _ (List.mem_append_left _ hn)
    have hel := light_all hw.2
    have hall : ∀ i, i < len → ∃ y : t.den × List Value, W.cells? 0 (a.add (i * P.cellsOf e)) (P.cellsOf e) = some y.2 ∧ Rd W (Low W) t y.1 y.2 ∧ Wf t y.1 := fun i hi => by
      obtain ⟨cs', h1, h2⟩ := hx i (by omega)
      obtain ⟨y, h3, h4⟩ := he n cs' (D i, Pl i) h2 (hel (D i) (List.mem_map.mpr ⟨i, List.mem_range.mpr hi, rfl⟩))
      exact ⟨(y, cs'), h1, h3, h4⟩
    have hlen : len ≤ reachBytes := by
      have h3 : (len + (m - len)) * 1 ≤ (len + (m - len)) * P.bytesOf e := Nat.mul_le_mul_left _ hB
      omega
    cases hlen0 : len with
    | zero =>
      refine ⟨[], ⟨some a, 0, m, rfl, rfl, Nat.zero_le _, (fun h => nomatch h), fun _ _ h => absurd rfl h⟩, by simp, fun _ h => by cases h⟩
    | succ len' =>
    rw [← hlen0]
    obtain ⟨y0, _⟩ := hall 0 (by omega)
    haveI : Inhabited (t.den × List Value) := ⟨y0⟩
    obtain ⟨f, hf⟩ := choose_lt hall
    refine ⟨(List.range len).map fun i => (f i).1, ⟨some a, len, m, rfl, by simp, hlc, (fun h => nomatch h), fun a' ha' hne => ?_⟩, by simpa using hlen, ?_⟩
    · cases ha'
      have hcell : ∀ i j, i < len → j < t.cells → W.cell? ((a.add (i * t.cells)).add j) = (f i).2[j]? := fun i j hi hj => by
        obtain ⟨k1, _, _⟩ := hf i hi
        rw [hc] at k1
        exact (World.cells?_some k1).2.2 j hj
      have hfl : ∀ i, i < len → (f i).2.length = t.cells := fun i hi => by
        obtain ⟨k1, _, _⟩ := hf i hi
        rw [hc] at k1
        exact (World.cells?_some k1).2.1
      have h00 : W.cell? a = (f 0).2[0]? := by
        have := hcell 0 0 (by omega) h1
        simpa [Addr.add] using this
      have h0s : ∃ u, W.cell? a = some u := by
        rw [h00]
        have := hfl 0 (by omega)
        exact ⟨_, List.getElem?_eq_getElem (by omega)⟩
      obtain ⟨u, hu0⟩ := h0s
      have hblk : a.spot = none ∧ ∃ c T fr, W.heap[a.block]? = some (.cells c T fr) := by
        unfold World.cell? at hu0
        split at hu0
        · rename_i c T fr hh
          split at hu0
          · cases hu0
          · rename_i hs
            refine ⟨by simpa using hs, c, T, fr, hh⟩
        · cases hu0
      obtain ⟨hsp, c, T, fr, hh⟩ := hblk
      have hat : ∀ i j, i < len → j < t.cells → c[a.off + i * t.cells + j]? = (f i).2[j]? := fun i j hi hj => by
        rw [← hcell i j hi hj]
        have e1 : ((a.add (i * t.cells)).add j).block = a.block := by rw [add_block', add_block']
        have e2 : ((a.add (i * t.cells)).add j).off = a.off + i * t.cells + j := by rw [add_off', add_off']
        have e3 : ((a.add (i * t.cells)).add j).spot = none := add_spot' (add_spot' hsp)
        unfold World.cell?
        rw [e1, hh, e2, e3]
        rfl
      refine ⟨?_, hsp, c, T, fr, hh, ?_, fun i x hx => ?_⟩
      · unfold Low
        rw [Array.getElem?_eq_some_iff] at hh
        exact hh.1
      · rw [List.length_map, List.length_range]
        have h2 := hat (len - 1) (t.cells - 1) (by omega) (by omega)
        have h3 := hfl (len - 1) (by omega)
        rw [List.getElem?_eq_getElem (by omega)] at h2
        have h4 := (Array.getElem?_eq_some_iff.1 h2).1
        have h5 : len * t.cells = (len - 1) * t.cells + t.cells := by
          have : len = (len - 1) + 1 := by omega
          conv => lhs; rw [this]
          rw [Nat.add_mul, Nat.one_mul]
        omega
      · rw [List.getElem?_map] at hx
        by_cases hlt : i < len
        · rw [List.getElem?_range hlt] at hx
          cases hx
          obtain ⟨_, k2, _⟩ := hf i hlt
          have : cut c (a.off + i * t.cells) t.cells = (f i).2 := by
            apply List.ext_getElem?
            intro j
            unfold cut
            by_cases hj : j < t.cells
            · rw [List.getElem?_take_of_lt hj, List.getElem?_drop, ← hat i j hlt hj]
              simp
            · rw [List.getElem?_eq_none (by simp; omega), List.getElem?_eq_none (by have := hfl i hlt; omega)]
          rw [this]
          exact k2
        · rw [List.getElem?_eq_none (by simpa using hlt)] at hx; cases hx
    · intro y hy
      obtain ⟨i, hi, rfl⟩ := List.mem_map.mp hy
      exact (hf i (List.mem_range.mp hi)).2.2
theorem opens_all : ∀ n, (∀ tid t, tyOf P n tid = some t → laidT P n tid = true → OpensT enc P W tid t) ∧
    (∀ (fs : List Field) t off tot, tysOf P n (fs.map (·.type)) = some t → laidFs P n off tot fs = true → ∀ (fuel : Nat) (cs : List Value) (xs : List (DataW H × List MemPlace)), cs.length = tot →
      fs.mapM (fun f => DataW.trod enc P W 0 (fun _ => true) true fuel f.type ((cs.drop f.offset).take (P.cellsOf f.type))) = some xs → (∀ m ∈ DataW.weightsEach P (fs.map (·.type)) (xs.map (·.1)), m ≤ reachBytes) →
      ∃ y : t.den, Rd W (Low W) t y (cs.drop off) ∧ Wf t y)
  | 0 => ⟨fun _ _ h => by simp [tyOf] at h, fun _ _ _ _ h => by simp [tysOf] at h⟩
  | n + 1 => by
    obtain ⟨ih1, ih2⟩ := opens_all n
    refine ⟨fun tid t ht hl => ?_, fun fs t off tot ht hl fuel cs xs hcs hxs hw => ?_⟩
    · unfold tyOf at ht
      unfold laidT at hl
      split at ht
      · rename_i k hu
        cases ht
        intro fuel cs x h _
        obtain ⟨m, rfl, _, hw⟩ := DataW.trod_int hu h
        exact ⟨m, rfl, hw⟩
      · rename_i hu
        cases ht
        intro fuel cs x h _
        obtain ⟨b, rfl, _⟩ := DataW.trod_bool hu h
        exact ⟨b, rfl, trivial⟩
      · rename_i hu
        cases ht
        intro fuel cs x h hlt
        obtain ⟨s, rfl, rfl, _⟩ := DataW.trod_string hu h
        refine ⟨s, rfl, ?_⟩
        have := hlt s.data.toList.length (by simp [DataW.weights])
        rw [Array.length_toList] at this
        exact this
      · rename_i hu
        rw [hu] at hl
        cases hl
      · rename_i e hu
        rw [hu] at hl
        simp only [Bool.and_eq_true] at hl
        obtain ⟨⟨hl1, hl2⟩, hl3⟩ := hl
        cases he : tyOf P n e with
        | none => rw [he] at ht; cases ht
        | some x =>
          rw [he] at ht hl3
          cases ht
          simp only [Bool.and_eq_true] at hl3
          exact opens_slice hu (Nat.le_of_ble_eq_true hl2) (Nat.eq_of_beq_eq_true hl3.1) (Nat.le_of_ble_eq_true hl3.2) (ih1 e x he hl1)
      · rename_i len e hu
        rw [hu] at hl
        cases hl
      · rename_i fs hu
        rw [hu] at hl
        intro fuel cs x hx hlt
        cases fuel with
        | zero => simp [DataW.trod] at hx
        | succ m =>
          unfold DataW.trod at hx
          simp only [hu] at hx
          by_cases hlen : cs.length = P.cellsOf tid
          · rw [if_pos hlen] at hx
            obtain ⟨xs, hxs, rfl⟩ := Option.map_eq_some_iff.mp hx
            have := ih2 fs.toList t 0 (P.cellsOf tid) ht hl m cs xs hlen hxs (fun k hk => hlt k (by simp only [DataW.weights, hu]; exact hk))
            simpa using this
          · rw [if_neg hlen] at hx; cases hx
      · cases ht
    · cases fs with
      | nil =>
        simp only [List.map_nil, tysOf, Option.some.injEq] at ht
        subst ht
        simp only [laidFs] at hl
        refine ⟨(), ?_, trivial⟩
        show cs.drop off = []
        rw [Nat.eq_of_beq_eq_true hl, ← hcs]
        simp
      | cons f r =>
        obtain ⟨x, xr, h1, h2, rfl⟩ := mapM_cons_some hxs
        rw [List.map_cons, List.map_cons] at hw
        obtain ⟨w1, w2⟩ := each_head hw
        unfold laidFs at hl
        simp only [Bool.and_eq_true] at hl
        obtain ⟨⟨hoff, hlf⟩, hl⟩ := hl
        have hoff := Nat.eq_of_beq_eq_true hoff
        rw [hoff] at h1
        cases r with
        | nil =>
          simp only [List.map_cons, List.map_nil, tysOf] at ht
          obtain ⟨y, k1, k2⟩ := ih1 f.type t ht hlf fuel _ x h1 w1
          refine ⟨y, ?_, k2⟩
          have hl := Nat.eq_of_beq_eq_true hl
          rw [List.take_of_length_le (by simp; omega)] at k1
          exact k1
        | cons f2 r2 =>
          simp only [List.map_cons, tysOf] at ht
          cases ha : tyOf P n f.type with
          | none => rw [ha] at ht; cases ht
          | some a =>
            rw [ha] at ht
            cases hb : tysOf P n ((f2 :: r2).map (·.type)) with
            | none => rw [List.map_cons] at hb; rw [hb] at ht; cases ht
            | some b =>
              have hb' := hb
              rw [List.map_cons] at hb'
              rw [hb'] at ht
              cases ht
              simp only [ha, Bool.and_eq_true] at hl
              obtain ⟨hc, hl⟩ := hl
              obtain ⟨y, k1, k2⟩ := ih1 f.type a ha hlf fuel _ x h1 w1
              obtain ⟨z, q1, q2⟩ := ih2 (f2 :: r2) b _ tot hb hl fuel cs xr hcs h2 w2
              refine ⟨(y, z), ⟨_, _, ?_, k1, q1⟩, k2, q2⟩
              rw [← List.drop_drop, List.take_append_drop]
/-- A datum's cells as data of their own. -/
def flatM : Ty → List (Bool × Ty)
  | .pair a b => flatM a ++ flatM b
  | .unit => []
  | t => [(false, t)]
def flatD : (t : Ty) → t.den → List DV
  | .pair a b, x => flatD a x.1 ++ flatD b x.2
  | .unit, _ => []
  | .int k, x => [⟨.int k, x⟩]
  | .bool, x => [⟨.bool, x⟩]
  | .str, x => [⟨.str, x⟩]
  | .slice e, x => [⟨.slice e, x⟩]
  | .fn f t, x => [⟨.fn f t, x⟩]
  | .ref t, x => [⟨.ref t, x⟩]
  | .cpx, x => [⟨.cpx, x⟩]
theorem avCells_flat : ∀ (t : Ty) (x : t.den) (n : Nat) (ms : List (Bool × Ty)) (ds : List DV), avCells n (flatM t ++ ms) (flatD t x ++ ds) = (t.exp x ++ (avCells n ms ds).1, (avCells n ms ds).2)
  | .pair a b, x, n, ms, ds => by
    simp only [flatM, flatD, List.append_assoc]
    rw [avCells_flat a, avCells_flat b]
    simp [Ty.exp]
  | .unit, x, n, ms, ds => rfl
  | .int k, x, n, ms, ds => rfl
  | .bool, x, n, ms, ds => rfl
  | .str, x, n, ms, ds => rfl
  | .slice e, x, n, ms, ds => rfl
  | .fn f t, x, n, ms, ds => rfl
  | .ref t, x, n, ms, ds => rfl
  | .cpx, x, n, ms, ds => rfl
def modeOf (q : Bool × Ty) : Mode := (q.1, flatM q.2)
def flatAll (xs : List DV) : List DV := xs.flatMap fun d => flatD d.t d.x
theorem avVals_flat : ∀ (qs : List (Bool × Ty)) (xs : List DV), xs.map (·.t) = qs.map (·.2) → ∀ n, avVals n (qs.map modeOf) (flatAll xs) = ((qs.zip xs).map (fun p => bif p.1.1 then .agg (p.2.t.exp p.2.x) else oneAV (p.2.t.exp p.2.x)), [])
  | [], [], _, n => rfl
  | [], _ :: _, h, _ => by cases h
  | _ :: _, [], h, _ => by cases h
  | q :: qs, x :: xs, h, n => by
    simp only [List.map_cons, List.cons.injEq] at h
    have e : flatAll (x :: xs) = flatD x.t x.x ++ flatAll xs := rfl
    have e2 : flatM q.2 = flatM x.t ++ [] := by rw [h.1]; simp
    have hc := avCells_flat x.t x.x n [] (flatAll xs)
    have e3 : avCells n ([] : List (Bool × Ty)) (flatAll xs) = ([], [], n, flatAll xs) := by cases flatAll xs <;> rfl
    rw [e3] at hc
    simp only [List.append_nil] at hc e2
    have ih := avVals_flat qs xs h.2 n
    simp only [List.map_cons, avVals, modeOf, e, e2, List.zip_cons_cons, hc]
    rw [show (List.map modeOf qs) = qs.map modeOf from rfl, ih]
    rfl
/-- What is asked of a law's parameters: their types are data. -/
def parOk (P : Program) : List TypeId → List (Bool × Ty) → Bool
  | [], [] => true
  | t :: ts, q :: qs => decide (tyOf P 60 t = some q.2) && laidT P 60 t && (isAggT P t == q.1) && isSomeT P t && parOk P ts qs
  | _, _ => false
theorem value_cells_agg {cs : Array Value} : (Value.agg cs).cells.toList = cs.toList := rfl
theorem isAgg_spec {t : TypeId} {q : Bool} {v : Value} {base : Nat} (h : (isAggT P t == q) = true) (ho : Value.okWide P W .any base t v) (hl : laidT P 60 t = true) : (q = true ∧ ∃ cs, v = .agg cs) ∨ (q = false ∧ v.cells.toList = [v]) := by
  unfold laidT at hl
  unfold isAggT at h
  split at hl
  · rename_i k hu
    rw [hu] at h
    obtain ⟨n, rfl⟩ := okWide_int hu ho
    exact .inr ⟨by simpa using h, rfl⟩
  · rename_i hu
    rw [hu] at h
    obtain ⟨n, rfl⟩ := okWide_bool hu ho
    exact .inr ⟨by simpa using h, rfl⟩
  · rename_i hu
    rw [hu] at h
    obtain ⟨n, rfl⟩ := okWide_string hu ho
    exact .inr ⟨by simpa using h, rfl⟩
  · rename_i e hu
    rw [hu] at h
    obtain ⟨a, n, c, rfl⟩ := okWide_slice hu ho
    exact .inr ⟨by simpa using h, rfl⟩
  · rename_i fs hu
    rw [hu] at h
    obtain ⟨cs, rfl, _⟩ := okWide_struct hu ho
    exact .inl ⟨by simpa using h, cs, rfl⟩
  · cases hl
/-- The arguments that a row hands over, as data. -/
theorem args_open : ∀ {ts : List TypeId} {qs : List (Bool × Ty)} {vs : List Value} {ds : List (DataW H)} {p : List MemPlace} {base : Nat}, parOk P ts qs = true → DataW.TrodAll enc P W 0 (fun _ => true) true ts vs ds p →
    (∀ (j : Nat) t v, ts[j]? = some t → vs[j]? = some v → Value.okWide P W .any base t v) → (∀ m ∈ DataW.weightsEach P ts ds, m ≤ reachBytes) →
    ∃ xs : List DV, xs.map (·.t) = qs.map (·.2) ∧ (∀ d ∈ xs, Wf d.t d.x) ∧ ∀ g ob, RAll W (Low W) g ob ((qs.zip xs).map (fun p => bif p.1.1 then .agg (p.2.t.exp p.2.x) else oneAV (p.2.t.exp p.2.x))) vs
  | [], [], vs, ds, p, base, _, hA, _, _ => by
    cases vs with
    | nil => exact ⟨[], rfl, (fun _ h => by cases h), fun g ob => rfl⟩
    | cons v r => simp [DataW.TrodAll] at hA
  | [], _ :: _, _, _, _, _, h, _, _, _ => by cases h
  | _ :: _, [], _, _, _, _, h, _, _, _ => by cases h
  | t :: ts, q :: qs, vs, ds, p, base, h, hA, ho, hw => by
    simp only [parOk, Bool.and_eq_true, decide_eq_true_eq] at h
    obtain ⟨⟨⟨⟨h1, h2⟩, h3⟩, _⟩, h5⟩ := h
    cases vs with
    | nil => simp [DataW.TrodAll] at hA
    | cons v vs =>
      cases ds with
      | nil => simp [DataW.TrodAll] at hA
      | cons d ds =>
        obtain ⟨p1, p2, k1, k2, rfl⟩ := hA
        obtain ⟨w1, w2⟩ := each_head hw
        obtain ⟨xs, e1, e2, e3⟩ := args_open h5 k2 (fun j t v ht hv => ho (j + 1) t v ht hv) w2
        obtain ⟨fuel, hf⟩ := k1
        obtain ⟨y, hy, hwf⟩ := (opens_all 60).1 t q.2 h1 h2 fuel _ _ hf w1
        refine ⟨⟨q.2, y⟩ :: xs, by simp [e1], ?_, fun g ob => ?_⟩
        · intro d hd
          rcases List.mem_cons.1 hd with rfl | hd
          · exact hwf
          · exact e2 d hd
        · refine ⟨v, vs, rfl, ?_, e3 g ob⟩
          have hr := exp_rel (g := g) (ob := ob) hy
          rcases isAgg_spec h3 (ho 0 t v rfl rfl) h2 with ⟨hq, cs, rfl⟩ | ⟨hq, hv⟩
          · simp only [hq, cond_true]
            exact ⟨cs, rfl, hr⟩
          · simp only [hq, cond_false]
            rw [hv] at hr
            cases hx : q.2.exp y with
            | nil => rw [hx] at hr; cases hr
            | cons c r =>
              rw [hx] at hr
              obtain ⟨v', s, hvs, r1, r2⟩ := hr
              cases hvs
              cases r with
              | nil => exact r1
              | cons c2 r => obtain ⟨v2, s2, hvs2, _⟩ := r2; cases hvs2
theorem dv_cons {xs : List DV} {t : Ty} {ts : List Ty} (h : xs.map (·.t) = t :: ts) : ∃ (x : t.den) (ys : List DV), xs = ⟨t, x⟩ :: ys ∧ ys.map (·.t) = ts := by
  cases xs with
  | nil => cases h
  | cons d r =>
    obtain ⟨u, x⟩ := d
    simp only [List.map_cons, List.cons.injEq] at h
    obtain ⟨rfl, h⟩ := h
    exact ⟨x, r, rfl, h⟩
theorem dv_nil {xs : List DV} (h : xs.map (·.t) = []) : xs = [] := List.map_eq_nil_iff.1 h
/-- A law's contract, where a row calls it. -/
theorem law_calls {f : FuncId} {s : Sig} (hs : SigOk P f s) {qs : List (Bool × Ty)} (hpm : s.pm = qs.map modeOf) (hrm : s.rm = [(false, [(false, .bool)])])
    (hlaw : ∀ xs : List DV, xs.map (·.t) = qs.map (·.2) → (∀ d ∈ xs, Wf d.t d.x) → ∃ (o : Option Bool) (mk : Bool → List DV), s.f (flatAll xs) = .yes Bool o mk ∧ o = some true ∧ mk true = [⟨.bool, true⟩])
    {ts : List TypeId} (hq : parOk P ts qs = true) {args : Array Value} {ds : List (DataW H)} {p : List MemPlace} {base : Nat} (hA : DataW.TrodAll enc P W 0 (fun _ => true) true ts args.toList ds p)
    (ho : ∀ (j : Nat) t v, ts[j]? = some t → args[j]? = some v → Value.okWide P W .any base t v) (hw : ∀ m ∈ DataW.weightsEach P ts ds, m ≤ reachBytes) (hkn : Known W (Low W)) :
    Calls P f args W fun e W' => e = .returned (.bool true) ∧ Below W.heap.size W W' := by
  obtain ⟨xs, e1, e2, e3⟩ := args_open hq hA (fun j t v ht hv => ho j t v ht (by rw [← Array.getElem?_toList]; exact hv)) hw
  obtain ⟨o, mk, hf, rfl, hmk⟩ := hlaw xs e1 e2
  have hav := avVals_flat qs xs e1 0
  have g0 : Nat → Loc := fun _ => ⟨none, 0, 0⟩
  have hand : Hand W (Low W) g0 (fun b => W.heap.size ≤ b) 0 s.pm (flatAll xs) args.toList := by
    rw [hpm]
    refine ⟨?_, ?_, ?_⟩
    · rw [hav]; exact e3 _ _
    · rw [hav]; intro id o h; cases h
    · rw [hav]; intro i j o p b h; cases h
  refine (hs.2 W (Low W) g0 (fun b => W.heap.size ≤ b) (flatAll xs) args Bool (some true) mk true hf rfl hand ⟨hkn⟩ (fun b h => h) (fun b h => h) 0).mono fun e W' h => ?_
  obtain ⟨v, F', g', vs, rfl, st, _, hd, rfl⟩ := h
  have hv := hd.vals
  rw [hrm, hmk] at hv
  obtain ⟨y, r, hvs, h1, h2⟩ := hv
  cases (show r = [] from h2)
  subst hvs
  refine ⟨?_, st.os, st.tape, st.output, st.size, fun k hk => st.kept k hk (by omega)⟩
  have : y = .bool true := h1
  rw [this]
  rfl
end
end Go.Proofs.YtdbenenonfldkaaDoor.PE
