/- Structs, arrays and rows that are built of parts, held against the model's. -/
import Derived.Test.YtdbenenonfldkaaDoorEOps13
namespace Go.Proofs.YtdbenenonfldkaaDoor.PE
set_option linter.unusedVariables false
open Go.RowKit
variable {P : Program} {w w' : World} {F F' : Nat → Prop} {g g' : Nat → Loc} {mine : Nat → Prop} {σ : St} {a : Act} {ob : Nat → Option Ob}
theorem foldl_set (off : Nat) : ∀ (vs : List Value) (j : Nat) (cs : Array Value), off + j + vs.length ≤ cs.size → (vs.zipIdx j).foldl (fun cs (p : Value × Nat) => cs.setIfInBounds (off + p.2) p.1) cs = putVals cs (off + j) vs
  | [], j, cs, _ => by simp [putVals_nil]
  | v :: r, j, cs, h => by
    simp only [List.length_cons] at h
    rw [List.zipIdx_cons, List.foldl_cons, foldl_set off r (j + 1) _ (by simp; omega)]
    apply Array.ext_getElem?
    intro i
    rw [putVals_get (by simp; omega), putVals_get (by simp; omega)]
    simp only [List.length_cons]
    by_cases h2 : off + (j + 1) ≤ i ∧ i < off + (j + 1) + r.length
    · rw [if_pos h2, if_pos (by omega), show i - (off + j) = (i - (off + (j + 1))) + 1 by omega]; simp
    · rw [if_neg h2]
      by_cases h3 : i = off + j
      · subst h3
        rw [Array.getElem?_setIfInBounds_self_of_lt (by omega), if_pos (by omega)]; simp
      · rw [Array.getElem?_setIfInBounds_ne (Ne.symm h3), if_neg (by omega)]
def RParts (w : World) (F : Nat → Prop) (g : Nat → Loc) (ob : Nat → Option Ob) : List (Nat × AV) → List (Nat × Value) → Prop
  | [], vs => vs = []
  | p :: r, vs => ∃ x s, vs = (p.1, x) :: s ∧ R w F g ob p.2 x ∧ RParts w F g ob r s
theorem fill_sound {place : Nat → Option (Nat × Nat)} {H : Nat → Option Ob} : ∀ {ps : List (Nat × AV)} {vs : List (Nat × Value)} {cs r : List AV} {cells : Array Value}, RParts w F g ob ps vs → RAll w F g ob cs cells.toList →
    (buildParts place cs ps).val H = some r → ∃ cells', Instr.fill place cells vs = some cells' ∧ RAll w F g ob r cells'.toList ∧ cells'.size = cells.size
  | [], vs, cs, r, cells, hp, hc, hq => by
    rw [show vs = [] from hp]
    simp only [buildParts, val_ret_some] at hq
    subst hq
    exact ⟨cells, rfl, hc, rfl⟩
  | (i, v) :: ps, vs, cs, r, cells, hp, hc, hq => by
    obtain ⟨x, s, rfl, hx, hs⟩ := hp
    simp only [buildParts] at hq
    split at hq
    · rename_i off size hpl
      simp only [val_guard_some, Bool.and_eq_true] at hq
      obtain ⟨⟨⟨h1, h2⟩, h3⟩, hq⟩ := hq
      have h2 := Nat.eq_of_beq_eq_true h2
      have h3 := Nat.le_of_ble_eq_true h3
      have hrel := cells_rel h1 hx
      have hl := RAll.length hrel
      rw [Array.length_toList] at hl
      have hcl := RAll.length hc
      rw [Array.length_toList] at hcl
      have hsz : off + x.cells.toList.length ≤ cells.size := by rw [Array.length_toList]; omega
      have hsp : RAll w F g ob (putCells cs off v.cells) (putVals cells off x.cells.toList).toList := by rw [putVals_toList]; exact RAll.splice hc hrel
      obtain ⟨cells', k1, k2, k3⟩ := fill_sound hs hsp hq
      refine ⟨cells', ?_, k2, by rw [k3, putVals_size hsz]⟩
      simp only [Instr.fill, hpl]
      have hne : (x.cells.size ≠ size || off + x.cells.size > cells.size) = false := by
        simp only [Bool.or_eq_false_iff, decide_eq_false_iff_not]
        omega
      rw [if_neg (by simp only [hne, Bool.false_eq_true, not_false_iff])]
      have hf := foldl_set off x.cells.toList 0 cells (by simpa using hsz)
      simp only [Nat.add_zero] at hf
      rw [show x.cells.zipIdx.foldl (fun cs (p : Value × Nat) => cs.setIfInBounds (off + p.2) p.1) cells = putVals cells off x.cells.toList by
        rw [← hf, ← Array.foldl_toList, Array.toList_zipIdx]]
      exact k1
    · cases hq
theorem zeroAV_spec {t : TypeId} {z : AV} (h : zeroAV P t = some z) : ∃ i v, P.info? t = some i ∧ i.zero = some v ∧ z = AV.ofVal v := by
  unfold zeroAV at h
  obtain ⟨v, hv, rfl⟩ := Option.map_eq_some_iff.1 h
  obtain ⟨i, hi, hz⟩ := Option.bind_eq_some_iff.1 hv
  exact ⟨i, v, hi, hz, rfl⟩
theorem zeroAV_rel {v : Value} (h : (AV.ofVal v).solid = true) : RAll w F g ob (AV.ofVal v).cells v.cells.toList := cells_rel h (ofVal_rel v)
theorem run_mapM_sizes {fs : List Field} (h : ∀ f ∈ fs, ∃ d, P.underlying f.type = some d) : (fs.mapM fun (f : Field) => (do pure (f.offset, ← sizeOf f.type) : Sem (Nat × Nat))).run P w = .ok (fs.map fun f => (f.offset, P.cellsOf f.type)) w := by
  induction fs with
  | nil => rfl
  | cons f r ih =>
    obtain ⟨d, hd⟩ := h f (by simp)
    simp only [List.mapM_cons, Sem.run_bind, run_sizeOf' hd, Result.andThen_ok, Sem.run_pure, ih (fun f hf => h f (by simp [hf])), List.map_cons]
theorem build_struct_sound {t : TypeId} {fs : Array Field} (hu : P.underlying t = some (.struct fs)) {z : AV} (hz : zeroAV P t = some z) {ps : Array (Nat × Value)} {qs : List (Nat × AV)} (hp : RParts w F g ob qs ps.toList) {r : AV} {H : Nat → Option Ob}
    (hq : (guardQ (z.solid && fs.toList.all fun f => isSomeT P f.type) ((buildParts (fieldsPlace P fs.toList) z.cells qs).bind fun cs => .ret (.agg cs))).val H = some r) :
    ∃ y, (Instr.build t ps).run P w = .ok y w ∧ R w F g ob r y := by
  obtain ⟨i, v, hi, hiz, rfl⟩ := zeroAV_spec hz
  simp only [val_guard_some, val_bind_some, val_ret_some, Bool.and_eq_true] at hq
  obtain ⟨⟨h1, h2⟩, cs, hcs, rfl⟩ := hq
  obtain ⟨cells', k1, k2, _⟩ := fill_sound hp (zeroAV_rel (w := w) (F := F) (g := g) (ob := ob) h1) hcs
  have hsz := run_mapM_sizes (P := P) (w := w) (fs := fs.toList) fun f hf => isSomeT_spec (List.all_eq_true.1 h2 f hf)
  have hpl : (fun i => (fs.toList.map fun f => (f.offset, P.cellsOf f.type)).toArray[i]?) = fieldsPlace P fs.toList := by
    funext i
    simp only [List.getElem?_toArray, List.getElem?_map, fieldsPlace]
    cases fs.toList[i]? <;> rfl
  refine ⟨.agg cells', ?_, cells', rfl, k2⟩
  have hzv : (zeroValue t).run P w = .ok v w := by simp [zeroValue, typeInfo, hi, hiz]
  have hm : (fs.mapM fun (f : Field) => (do pure (f.offset, ← sizeOf f.type) : Sem (Nat × Nat))).run P w = .ok (fs.toList.map fun f => (f.offset, P.cellsOf f.type)).toArray w := by
    rw [Array.mapM_eq_mapM_toList]
    simp only [Sem.run_map, hsz, Result.andThen_ok]
  unfold Instr.build
  simp only [Sem.run_bind, hzv, Result.andThen_ok, run_underlying hu, hm, hpl, k1]
  rfl
theorem build_array_sound {t el : TypeId} {n : Nat} (hu : P.underlying t = some (.array n el)) {z : AV} (hz : zeroAV P t = some z) {ps : Array (Nat × Value)} {qs : List (Nat × AV)} (hp : RParts w F g ob qs ps.toList) {r : AV} {H : Nat → Option Ob}
    (hq : (guardQ (z.solid && isSomeT P el) ((buildParts (fun i => some (i * P.cellsOf el, P.cellsOf el)) z.cells qs).bind fun cs => .ret (.agg cs))).val H = some r) :
    ∃ y, (Instr.build t ps).run P w = .ok y w ∧ R w F g ob r y := by
  obtain ⟨i, v, hi, hiz, rfl⟩ := zeroAV_spec hz
  simp only [val_guard_some, val_bind_some, val_ret_some, Bool.and_eq_true] at hq
  obtain ⟨⟨h1, h2⟩, cs, hcs, rfl⟩ := hq
  obtain ⟨cells', k1, k2, _⟩ := fill_sound hp (zeroAV_rel (w := w) (F := F) (g := g) (ob := ob) h1) hcs
  obtain ⟨d, hd⟩ := isSomeT_spec h2
  refine ⟨.agg cells', ?_, cells', rfl, k2⟩
  have hzv : (zeroValue t).run P w = .ok v w := by simp [zeroValue, typeInfo, hi, hiz]
  unfold Instr.build
  simp only [Sem.run_bind, hzv, Result.andThen_ok, run_underlying hu, run_sizeOf' hd, k1]
  rfl
theorem impMany_sound (h : Rel w F g mine σ a) (hF : ∀ b, F b → F' b) {ids : List Nat} (hids : ∀ id b, id ∈ ids → (g id).blk = some b → F' b) {e : Ty} {sz : Nat} (hsz : e.cells = sz) : ∀ (n : Nat) {cs : List AV} {vs : List Value} {l : List e.den},
    (impMany e sz n cs).val σ.ob = some l → (∀ v ∈ cs, Named ids v) → RAll w F g σ.ob cs vs → cs.length = n * sz → l.length = n ∧ ∀ i y, l[i]? = some y → Rd w F' e y ((vs.drop (i * sz)).take sz)
  | 0, cs, vs, l, hq, hn, hr, hl => by
    simp only [impMany, val_ret_some] at hq
    subst hq
    exact ⟨rfl, fun i y hy => by simp at hy⟩
  | n + 1, cs, vs, l, hq, hn, hr, hl => by
    simp only [impMany, val_bind_some, val_ret_some] at hq
    obtain ⟨x, hx, r, hr', rfl⟩ := hq
    have hrd := impAll_sound h hF hids hx (fun v hv => hn v (List.mem_of_mem_take hv)) (RAll.take hr sz)
    obtain ⟨k1, k2⟩ := impMany_sound h hF hids hsz n hr' (fun v hv => hn v (List.mem_of_mem_drop hv)) (RAll.drop hr sz) (by rw [List.length_drop, hl, Nat.succ_mul]; omega)
    refine ⟨by rw [List.length_cons, k1], fun i y hy => ?_⟩
    cases i with
    | zero => simp at hy; subst hy; simpa using hrd
    | succ i =>
      simp at hy
      have := k2 i y hy
      rw [List.drop_drop] at this
      rw [Nat.succ_mul, Nat.add_comm]
      exact this
theorem flat_rel {z : Value} (hz : RAll w F g ob (AV.ofVal z).cells z.cells.toList) : ∀ n, RAll w F g ob ((List.replicate n (AV.ofVal z).cells).flatten) ((List.replicate n z.cells.toList).flatten)
  | 0 => rfl
  | n + 1 => by rw [List.replicate_succ, List.replicate_succ, List.flatten_cons, List.flatten_cons]; exact RAll.append hz (flat_rel hz n)
theorem made_flat {z : Array Value} {sz : Nat} (hz : z.size = sz) (h1 : 1 ≤ sz) : ∀ n, ((Array.range (n * sz)).map (fun x => z[x % z.size]!)).toList = (List.replicate n z.toList).flatten := by
  intro n
  apply List.ext_getElem?
  intro j
  have hlen : ((List.replicate n z.toList).flatten).length = n * sz := by simp [hz]
  by_cases hj : j < n * sz
  · have hq : j / sz < n := (Nat.div_lt_iff_lt_mul h1).2 hj
    have hc := made_cut (z := z) (n := n) hz h1 hq
    have hm : j % sz < sz := Nat.mod_lt _ h1
    have hjm : j / sz * sz + j % sz = j := by rw [Nat.mul_comm]; exact Nat.div_add_mod j sz
    have e1 : (madeCells z (n * sz)).toList[j]? = z.toList[j % sz]? := by
      have := congrArg (·[j % sz]?) hc
      unfold cut at this
      simp only [List.getElem?_take, if_pos hm, List.getElem?_drop, hjm] at this
      exact this
    have e2 : ∀ n, j < n * sz → ((List.replicate n z.toList).flatten)[j]? = z.toList[j % sz]? := by
      clear hc e1 hq hlen hj n
      intro n
      induction n generalizing j with
      | zero => intro h; omega
      | succ n ih =>
        intro h
        rw [List.replicate_succ, List.flatten_cons]
        have hzl : z.toList.length = sz := by simp [hz]
        by_cases h2 : j < sz
        · rw [List.getElem?_append_left (by omega), Nat.mod_eq_of_lt h2]
        · rw [List.getElem?_append_right (by omega), hzl]
          have hm' : (j - sz) % sz < sz := Nat.mod_lt _ h1
          have := ih (j - sz) hm' (by rw [Nat.mul_comm]; exact Nat.div_add_mod (j - sz) sz) (by rw [Nat.succ_mul] at h; omega)
          rw [this]
          congr 1
          rw [← Nat.mod_eq_sub_mod (by omega)]
    rw [e2 n hj]
    exact e1
  · rw [List.getElem?_eq_none (by simp; omega), List.getElem?_eq_none (by omega)]
theorem buildSlice_sound (h : Rel w F g mine σ a) {nid : Nat} {t : TypeId} {len : Nat} {ps : Array (Nat × Value)} {qs : List (Nat × AV)} (hp : RParts w F g σ.ob qs ps.toList) {up : Upd} (hq : (buildSliceQ P nid t len qs).val σ.ob = some up) {d : Option Nat} (hd : ∀ e, d = some e → e < a.tmps.size) :
    Good w F g mine σ a ((do pure (Next.value (← Instr.buildSlice t len ps)) : Sem Next).run P w) up d := by
  unfold buildSliceQ at hq
  split at hq
  · rename_i el hu
    split at hq
    · cases hq
    · rename_i z hz
      obtain ⟨i, v, hi, hiz, rfl⟩ := zeroAV_spec hz
      simp only [val_guard_some, val_bind_some, Bool.and_eq_true] at hq
      obtain ⟨⟨⟨⟨h1, h2⟩, h3⟩, h4⟩, cs, hcs, hq⟩ := hq
      have h2 := Nat.eq_of_beq_eq_true h2
      have h3 := Nat.le_of_ble_eq_true h3
      have h4 := Nat.le_of_ble_eq_true h4
      have hc : P.cellsOf el = i.size := by simp [Program.cellsOf, hi]
      have hzr := zeroAV_rel (w := w) (F := F) (g := g) (ob := σ.ob) h1
      have hzl := RAll.length hzr
      rw [Array.length_toList, h2] at hzl
      have hflat := flat_rel hzr len
      have hmf := made_flat hzl h4 len
      rw [← hmf] at hflat
      obtain ⟨cells', k1, k2, k3⟩ := fill_sound hp hflat hcs
      have hcsz : cells'.size = len * P.cellsOf el := by rw [k3]; simp
      have hcl := RAll.length k2
      rw [Array.length_toList, hcsz] at hcl
      have hrun : (Instr.buildSlice t len ps).run P w = .ok (.slice (some ⟨w.heap.size, 0, none⟩) len len) (w.alloc (.cells cells' el)) := by
        have h3' : ¬ len * P.cellsOf el > 2 ^ 24 := by omega
        have hsz : (sizeOf el).run P w = .ok (P.cellsOf el) w := by simp [sizeOf, typeInfo, hi, hc]
        have hzv : (zeroValue el).run P w = .ok v w := by simp [zeroValue, typeInfo, hi, hiz]
        unfold Instr.buildSlice
        by_cases h0 : len * P.cellsOf el = 0
        · have k1' : Instr.fill (fun i => some (i * P.cellsOf el, P.cellsOf el)) #[] ps.toList = some cells' := by
            have e0 : (Array.range (len * P.cellsOf el)).map (fun x => v.cells[x % v.cells.size]!) = #[] := by rw [h0]; simp
            rw [e0] at k1
            exact k1
          have e1 : (Array.range (len * P.cellsOf el)).map (fun x => (#[] : Array Value)[x % (#[] : Array Value).size]!) = #[] := by rw [h0]; simp
          simp only [Sem.run_bind, run_underlying hu, Result.andThen_ok, hsz, if_neg h3', if_pos h0, Sem.run_pure, e1, k1', newRow, run_newObj]
          rfl
        · simp only [Sem.run_bind, run_underlying hu, Result.andThen_ok, hsz, if_neg h3', if_neg h0, hzv, Sem.run_pure, k1, newRow, run_newObj]
          rfl
      split at hq
      · rename_i e he
        simp only [val_guard_some, val_bind_some, val_ret_some] at hq
        obtain ⟨he2, l, hl, fr, hfr, rfl⟩ := hq
        have he2 := Nat.eq_of_beq_eq_true he2
        obtain ⟨hfrz, hnm⟩ := freeze_val hfr
        obtain ⟨st1, hR1⟩ := h.freeze hfrz
        obtain ⟨q1, q2⟩ := impMany_sound h (F' := Frz F g (fr.map (·.1))) (fun b hb => .inl hb) (ids := fr.map (·.1)) (fun id' b' hid' hb' => .inr ⟨id', hid', hb'⟩) he2 len hl hnm k2 hcl.symm
        obtain ⟨x, n, w1, F1, g1, r1, r2, r3, r4, r5⟩ := Good.row hR1 hd (nid := nid) (e := e) (l := l) (cap := len) (cm := len) (bind_value (by rw [q1]; exact hrun)) (OneMore.alloc w _) (by rw [hcsz, he2]) (by rw [q1]; exact Nat.le_refl _) (nofr_zero _) (Nat.le_refl _) (fun j y hy => by
          have := q2 j y hy
          rw [he2]
          exact this)
        refine ⟨x, n, w1, F1, g1, r1, r2, st1.trans r3, ?_, ?_⟩
        · rw [app_frz hfrz]
          exact r4
        · rw [app_frz hfrz]
          exact r5.frz hfrz
      · rename_i hno
        simp only [val_guard_some, val_ret_some] at hq
        obtain ⟨hs1, rfl⟩ := hq
        have hs1 := Nat.eq_of_beq_eq_true hs1
        have m := OneMore.alloc w (.cells cells' el)
        have hlen : cells'.size = len := by rw [hcsz, hs1, Nat.mul_one]
        obtain ⟨g', hg'⟩ := h.new m nid (.cells (AV.killAll [nid] cs)) ⟨some w.heap.size, len, 1⟩ rfl (.sl nid 0 len) (.slice (some ⟨w.heap.size, 0, none⟩) len len) d hd
          (fun g' ob' e1 e2 e3 e4 => ⟨w.heap.size, cells', el, (0, 0), by rw [e1], h.up _ (Nat.le_refl _), fun hF => by have := h.low _ hF; omega, m.new, nofr_zero _,
            RAll.step (fun b hb => m.old b (h.low b hb)) (fun _ hb => hb) (RAll.kill [nid] k2) (fun i hi => by
              have hne : i ≠ nid := fun e => (refsAll_kill _ _ _ hi).2 (by simp [e])
              exact ⟨e2 i hne, fun n hn => by rw [e3 i hne] at hn; exact hn⟩), by rw [e1]; exact hlen.symm, by rw [e1]⟩)
          (fun g' ob' e1 _ => by
            show SlAt (g' nid) 0 len _
            rw [e1]
            exact ⟨_, rfl, by simp, fun b hb _ => by cases hb; simp, (fun h => nomatch h)⟩)
        exact ⟨_, _, _, F, g', bind_value hrun, .inl rfl, m.step h, hg'.1, hg'.2⟩
  · cases hq
end Go.Proofs.YtdbenenonfldkaaDoor.PE
