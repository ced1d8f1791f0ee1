/- Copying into a row of one's own, and clearing it. -/
import Derived.Test.YtdbenenonfldkaaDoorEEq
namespace Go.Proofs.YtdbenenonfldkaaDoor.PE
set_option linter.unusedVariables false
open Go.RowKit
variable {P : Program} {w w' : World} {F F' : Nat → Prop} {g g' : Nat → Loc} {mine : Nat → Prop} {σ : St} {a : Act}
theorem setOb_same {ob : Nat → Option Ob} {id : Nat} {o : Option Ob} (h : ob id = o) : setOb ob [(id, o)] = ob := by
  funext i
  rw [setOb_one]
  by_cases e : i = id
  · rw [if_pos e, e, h]
  · rw [if_neg e]
theorem app_same {v : AV} {id : Nat} {o : Option Ob} (h : σ.ob id = o) (d : Option Nat) : ({ v := v, sets := [(id, o)] } : Upd).app σ d = ({ v := v } : Upd).app σ d := by
  unfold Upd.app
  simp only [St.kill]
  rw [setOb_same h]
  rfl
/-- Nothing is written after all. -/
theorem Good.still (h : Rel w F g mine σ a) {run : Result Next} {v : AV} {x : Value} {id : Nat} {o : Option Ob} (ho : σ.ob id = o) {d : Option Nat} (hd : ∀ e, d = some e → e < a.tmps.size) (hr : run = .ok (.value x) w) (hv : R w F g σ.ob v x) :
    Good w F g mine σ a run { v := v, sets := [(id, o)] } d := by
  obtain ⟨y, n, w', F', g', h1, h2, h3, h4, h5⟩ := Good.val h hd hr hv
  exact ⟨y, n, w', F', g', h1, h2, h3, by rw [app_same ho]; exact h4, by rw [app_same ho]; exact h5⟩
/-- So many elements are written into a row. -/
theorem row_write (h : Rel w F g mine σ a) {id b : Nat} {e : Ty} {l l' vs : List e.den} {cm off : Nat} (ho : σ.ob id = some (.row e l cm false)) (hb : (g id).blk = some b) {new : List Value} (hn : Els w F e vs new) (hc1 : 1 ≤ e.cells)
    (hfit : off + vs.length ≤ (g id).cap) (hlen : l'.length = l.length) (hget : ∀ j z, l'[j]? = some z → (off ≤ j ∧ vs[j - off]? = some z) ∨ ((j < off ∨ off + vs.length ≤ j) ∧ l[j]? = some z))
    {v : AV} {x : Value} (hv : ∀ w F g ob, R w F g ob v x) {d : Option Nat} (hd : ∀ e, d = some e → e < a.tmps.size) :
    ∃ w1 g1, (storeCells ⟨b, off * e.cells, none⟩ new).run P w = .ok () w1 ∧ Step mine w F w1 F ∧ Rel w1 F g1 mine (({ v := v, sets := [(id, some (.row e l' cm false))] } : Upd).app σ d) (a.put d x) ∧ Kept [] g g1 σ.ob (({ v := v, sets := [(id, some (.row e l' cm false))] } : Upd).app σ d).ob := by
  obtain ⟨k1, k2, kc, k4, k5⟩ := h.ob id _ ho
  obtain ⟨c, T, fr, q1, q2, q3, q4, q5, q6⟩ := k5 b hb
  obtain ⟨hmine, hnF⟩ := q5 rfl
  have hsz : off * e.cells + new.length ≤ c.size := by rw [hn.1, q2, ← Nat.add_mul]; exact Nat.mul_le_mul_right _ hfit
  have hrun := run_storeCells' (P := P) (b := b) (off := off * e.cells) new 0 c w q1 q3.of (by simpa using hsz) (hn.ones hc1)
  rw [Nat.add_zero] at hrun
  obtain ⟨st, hR, hK⟩ := h.write ho rfl (o' := .row e l' cm false) rfl hb q1 (c' := putVals c (off * e.cells) new) [] (.inl ⟨rfl, by simp [lenOf, hlen]⟩) v x d hd
    (fun ob' e1 e2 => ⟨k1, by rw [hlen]; exact k2, kc, k4, fun b' hb' => by
      rw [hb] at hb'; cases hb'
      refine ⟨_, T, fr, putBlk_same q1, by rw [putVals_size hsz]; exact q2, by rw [putVals_size hsz]; exact q3, (fun h => nomatch h), fun _ => ⟨hmine, hnF⟩, fun j z hz => ?_⟩
      have hj : j < l.length := by rw [← hlen]; exact (List.getElem?_eq_some_iff.mp hz).1
      have hjc : j * e.cells + e.cells ≤ c.size := by rw [q2, ← Nat.succ_mul]; exact Nat.mul_le_mul_right _ (by omega)
      refine Rd.step (w := w) (F := F) (fun k hk => putBlk_other (fun e => hnF (by rw [← e]; exact hk))) (fun _ hk => hk) ?_
      rcases hget j z hz with ⟨h1, h2⟩ | ⟨h1, h2⟩
      · have hi : j - off < vs.length := (List.getElem?_eq_some_iff.mp h2).1
        have hrd := hn.2 (j - off) z h2
        have e1 : j * e.cells = off * e.cells + (j - off) * e.cells := by rw [← Nat.add_mul]; congr 1; omega
        have hle : (j - off) * e.cells + e.cells ≤ new.length := by rw [hn.1, ← Nat.succ_mul]; exact Nat.mul_le_mul_right _ (by omega)
        have : cut (putVals c (off * e.cells) new) (j * e.cells) e.cells = (new.drop ((j - off) * e.cells)).take e.cells := by
          apply List.ext_getElem?
          intro i
          unfold cut
          rw [List.getElem?_take, List.getElem?_take]
          by_cases hi : i < e.cells
          · rw [if_pos hi, if_pos hi, List.getElem?_drop, List.getElem?_drop, Array.getElem?_toList, putVals_get hsz, if_pos (by omega)]
            congr 1
            omega
          · rw [if_neg hi, if_neg hi]
        rw [this]
        exact hrd
      · rw [cut_putVals hsz ?_]
        · exact q6 j z h2
        · rcases h1 with h1 | h1
          · left; rw [← Nat.succ_mul]; exact Nat.mul_le_mul_right _ h1
          · right; rw [hn.1, ← Nat.add_mul]; exact Nat.mul_le_mul_right _ h1⟩)
    (fun ob' e1 e2 => hv _ _ _ _)
  exact ⟨_, g, hrun, st, hR, hK⟩
/-- The first elements of a source. -/
theorem src_upto (h : Rel w F g mine σ a) {e : Ty} {u : TypeId} {v : AV} {x : Value} (hv : R w F g σ.ob v x) {l : List e.den} (hq : (Q.src P e u v).val σ.ob = some l) :
    (Builtin.lenOf x).run P w = .ok l.length w ∧ ∀ k, k ≤ l.length → ∃ new, (Builtin.firstCells e.cells k x).run P w = .ok new w ∧ Els w F e (l.take k) new.toList := by
  unfold Q.src at hq
  split at hq
  · rename_i s hu
    cases (show _ = _ from hv)
    split at hq
    · rename_i he _
      subst he
      simp only [val_ret_some, castRow_self] at hq
      subst hq
      obtain ⟨new, h1, h2, h3⟩ := first_of_str (P := P) (w := w) (F := F) (s := s)
      refine ⟨h1, fun k hk => ⟨(s.extract 0 k).data.map fun b => .int .u8 b.toNat, rfl, ?_, fun i y hy => ?_⟩⟩
      · rw [bytesList_length] at hk
        simp [Ty.cells, bytesList_length]
      · have hi : i < k := by
          have := (List.getElem?_eq_some_iff.mp hy).1
          rw [List.length_take] at this
          omega
        rw [List.getElem?_take, if_pos hi] at hy
        obtain ⟨b, hb, rfl⟩ := bytesList_get hy
        have hlt := (List.getElem?_eq_some_iff.mp hb).1
        have hlt' : i < (s.extract 0 k).data.toList.length := by
          have : i < s.size := by simpa using hlt
          simp; omega
        simp only [Ty.cells, Nat.mul_one, Array.toList_map]
        rw [List.drop_eq_getElem_cons (by simpa using hlt')]
        simp only [List.take_succ_cons, List.take_zero, List.getElem_map]
        have := (List.getElem?_eq_some_iff.mp hb).2
        show [_] = [_]
        rw [← this]
        simp
    · cases hq
  · rename_i el v' _ hu
    obtain ⟨A, n, c, rfl, rfl, h3, h4, h5⟩ := elems_sound h hv hq
    refine ⟨rfl, fun k hk => ?_⟩
    by_cases hl : l = []
    · subst hl
      have hk0 : k = 0 := by simpa using hk
      subst hk0
      cases A with
      | none => exact ⟨#[], rfl, by simp, fun i y h => by simp at h⟩
      | some ad => exact ⟨#[], by simp [Builtin.firstCells, loadCells, loadCellsFrom], by simp, fun i y h => by simp at h⟩
    · obtain ⟨b, off, arr, T, fr, rfl, k1, k2, k3⟩ := h5 hl
      have hkc : k * e.cells ≤ l.length * e.cells := Nat.mul_le_mul_right _ hk
      refine ⟨(cut arr off (k * e.cells)).toArray, ?_, ?_, fun i y hy => ?_⟩
      · simp only [Builtin.firstCells]
        exact run_loadCells' k1 (by omega)
      · simp only [List.toList_toArray, List.length_take, Nat.min_eq_left hk]; exact cut_length (by omega)
      · have hi : i < k := by
          have := (List.getElem?_eq_some_iff.mp hy).1
          rw [List.length_take] at this
          omega
        rw [List.getElem?_take, if_pos hi] at hy
        have : (i + 1) * e.cells ≤ k * e.cells := Nat.mul_le_mul_right _ hi
        rw [Nat.succ_mul] at this
        simp only [List.toList_toArray]
        rw [cut_cut this]
        exact k3 i y hy
  · cases hq
theorem copy_row (h : Rel w F g mine σ a) {t u ty el : TypeId} {e : Ty} (ht : elemTy P t = some (el, e)) {id off len cm : Nat} {l vs : List e.den} (ho : σ.ob id = some (.row e l cm false)) (hle : off + len ≤ l.length) {x y : Value} {v : AV}
    (hs : SlAt (g id) off len x) (hv : R w F g σ.ob v y) (hq : (Q.src P e u v).val σ.ob = some vs) {l' : List e.den} (hl' : l' = l.take off ++ vs.take len ++ l.drop (off + min vs.length len)) {d : Option Nat} (hd : ∀ e, d = some e → e < a.tmps.size) :
    Good w F g mine σ a ((do pure (Next.value (← Builtin.copy_ #[t, u] ty #[x, y])) : Sem Next).run P w) { v := .int .i64 ((min vs.length len : Nat) : Int), sets := [(id, some (.row e l' cm false))] } d := by
  obtain ⟨hlen, hsrc⟩ := src_upto h hv hq
  obtain ⟨hut, dd, i, z, hdd, hi, hz, hzs, hcz, hc1, his, _⟩ := elemTy_spec ht
  obtain ⟨A, rfl, s1, s2, s3⟩ := hs
  obtain ⟨new, n1, n2⟩ := hsrc (Nat.min vs.length len) (Nat.min_le_left _ _)
  obtain ⟨k1, k2, kc, k4, k5⟩ := h.ob id _ ho
  have hnl : new.toList.length = Nat.min vs.length len * e.cells := by rw [n2.1, List.length_take, Nat.min_eq_left (Nat.min_le_left _ _)]
  have run0 : ∀ w1, (match A with | some ad => storeCells ad new.toList | none => pure () : Sem Unit).run P w = .ok () w1 → (Builtin.copy_ #[t, u] ty #[.slice A len ((g id).cap - off), y]).run P w = .ok (.int .i64 ((min vs.length len : Nat) : Int)) w1 := by
    intro w1 h1
    simp only [Builtin.copy_, List.getElem?_toArray, List.getElem?_cons_zero, List.getElem?_cons_succ, Sem.run_bind, run_underlying hut, Result.andThen_ok, hlen, run_sizeOf w hi, hcz, n1]
    cases A with
    | none =>
      simp only [Sem.run_pure] at h1
      cases h1
      simp [goInt]
    | some ad =>
      have h1' : (storeCells ad new.toList).run P w = .ok () w1 := h1
      simp [goInt, h1']
  by_cases h0 : Nat.min vs.length len = 0
  · have hne : new.toList = [] := List.length_eq_zero_iff.1 (by rw [hnl, h0, Nat.zero_mul])
    have hl2 : l' = l := by
      rw [hl', show min vs.length len = 0 from h0]
      have : vs.take len = [] := by
        apply List.length_eq_zero_iff.1
        rw [List.length_take, Nat.min_comm]
        exact h0
      rw [this, List.append_nil, Nat.add_zero, List.take_append_drop]
    rw [hl2]
    refine Good.still h ho hd (bind_value (run0 w ?_)) rfl
    cases A with
    | none => rfl
    | some ad => rw [hne]; rfl
  · have hpos : 0 < Nat.min vs.length len := by omega
    have hmv : Nat.min vs.length len ≤ vs.length := Nat.min_le_left _ _
    have hml : Nat.min vs.length len ≤ len := Nat.min_le_right _ _
    cases hb : (g id).blk with
    | none =>
      have := k4 hb
      omega
    | some b =>
      have hA := s2 b hb (by omega)
      subst hA
      have htl : (vs.take (Nat.min vs.length len)).length = Nat.min vs.length len := by rw [List.length_take]; omega
      obtain ⟨w1, g1, r1, st, hR, hK⟩ := row_write (P := P) (l' := l') (off := off) (vs := vs.take (Nat.min vs.length len)) (v := .int .i64 ((min vs.length len : Nat) : Int)) (x := .int .i64 ((min vs.length len : Nat) : Int)) h ho hb n2 hc1 (by rw [htl]; omega)
        (by
          rw [hl']
          simp only [List.length_append, List.length_take, List.length_drop]
          have : min len vs.length = Nat.min vs.length len := Nat.min_comm _ _
          have e2 : min vs.length len = Nat.min vs.length len := rfl
          rw [this, e2]
          omega) (fun j z hz => by
          have hvt : (vs.take len) = vs.take (Nat.min vs.length len) := by
            rw [List.take_eq_take_iff]
            show min len vs.length = min (min vs.length len) vs.length
            omega
          rw [hl', hvt, show min vs.length len = Nat.min vs.length len from rfl] at hz
          have hlt : (l.take off).length = off := by rw [List.length_take]; omega
          rw [htl]
          by_cases hj : j < off
          · right
            refine ⟨.inl hj, ?_⟩
            rw [List.append_assoc, List.getElem?_append_left (by omega), List.getElem?_take, if_pos hj] at hz
            exact hz
          · by_cases hj2 : j < off + Nat.min vs.length len
            · left
              refine ⟨by omega, ?_⟩
              rw [List.append_assoc, List.getElem?_append_right (by omega), hlt, List.getElem?_append_left (by omega)] at hz
              exact hz
            · right
              refine ⟨.inr (by omega), ?_⟩
              rw [List.append_assoc, List.getElem?_append_right (by omega), hlt, List.getElem?_append_right (by omega), htl, List.getElem?_drop] at hz
              rw [← hz]
              congr 1
              omega) (fun _ _ _ _ => rfl) hd
      have hsz : (g id).sz = e.cells := k1
      exact ⟨_, _, w1, F, g1, bind_value (run0 w1 (by rw [hsz]; exact r1)), .inl rfl, st, hR, hK⟩
theorem if_min (n m : Nat) : (if (n : Int) < (m : Int) then (n : Int) else (m : Int)) = ((min n m : Nat) : Int) := by
  split <;> omega
theorem copy_sound (h : Rel w F g mine σ a) {t u ty : TypeId} {s v : AV} {x y : Value} (hs : R w F g σ.ob s x) (hv : R w F g σ.ob v y) {up : Upd} (hq : (copyQ P t u s v).val σ.ob = some up) {d : Option Nat} (hd : ∀ e, d = some e → e < a.tmps.size) :
    Good w F g mine σ a ((do pure (Next.value (← Builtin.copy_ #[t, u] ty #[x, y])) : Sem Next).run P w) up d := by
  unfold copyQ at hq
  split at hq
  · rename_i el e id off len ht
    simp only [val_bind_some, Q.own, val_ask_some] at hq
    obtain ⟨vs, hvs, hq⟩ := hq
    split at hq
    · rename_i e' l cm ho
      split at hq
      · rename_i he _
        subst he
        simp only [val_br_some, val_ret_some, val_fail_some, and_false, or_false, castRow_self] at hq
        obtain ⟨hle, rfl⟩ := hq
        have hle := Nat.le_of_ble_eq_true hle
        have := copy_row (ty := ty) h ht ho hle hs hv hvs rfl hd
        simp only [ilen_eq, if_min]
        exact this
      · cases hq
    · cases hq
  · rename_i el e id ht
    simp only [val_bind_some, Q.own, val_ask_some] at hq
    obtain ⟨vs, hvs, hq⟩ := hq
    split at hq
    · rename_i e' l cm ho
      split at hq
      · rename_i he _
        subst he
        simp only [val_ret_some, castRow_self] at hq
        subst hq
        have hl : vs.take l.length ++ l.drop vs.length = l.take 0 ++ vs.take l.length ++ l.drop (0 + min vs.length l.length) := by
          rw [List.take_zero, List.nil_append, Nat.zero_add]
          congr 1
          rcases Nat.le_total vs.length l.length with h' | h'
          · rw [Nat.min_eq_left h']
          · rw [Nat.min_eq_right h', List.drop_length, List.drop_eq_nil_of_le h']
        have := copy_row (ty := ty) (off := 0) (len := l.length) h ht ho (by omega) (hs.2 _ (by rw [ho]; rfl)) hv hvs hl hd
        simp only [ilen_eq, if_min]
        exact this
      · cases hq
    · cases hq
  · cases hq
theorem zeros_els {e : Ty} {z : Value} (hz : z.cells.size = e.cells) (hk : zeroOk e z.cells.toList = some []) (hc1 : 1 ≤ e.cells) (n : Nat) : Els w F e (List.replicate n (zeroOf e)) (Builtin.zeroCells z.cells n).toList := by
  obtain ⟨c1, hc, hrd⟩ := zeroOk_rd hk
  rw [List.append_nil] at hc
  refine ⟨by rw [Array.length_toList, zeroCells_size, hz, List.length_replicate], fun i y hy => ?_⟩
  have hi : i < n := by
    have := (List.getElem?_eq_some_iff.mp hy).1
    simpa using this
  rw [List.getElem?_replicate, if_pos hi] at hy
  cases hy
  have : ((Builtin.zeroCells z.cells n).toList.drop (i * e.cells)).take e.cells = z.cells.toList := by
    have := made_cut (z := z.cells) hz hc1 hi
    rw [← this]
    unfold cut madeCells Builtin.zeroCells
    rw [hz]
  rw [this, hc]
  exact hrd w F
theorem clear_sound (h : Rel w F g mine σ a) {t ty : TypeId} {s : AV} {x : Value} (hs : R w F g σ.ob s x) {up : Upd} (hq : (clearQ P t s).val σ.ob = some up) {d : Option Nat} (hd : ∀ e, d = some e → e < a.tmps.size) :
    Good w F g mine σ a ((do pure (Next.value (← Builtin.clear_ #[t] ty #[x])) : Sem Next).run P w) up d := by
  unfold clearQ at hq
  split at hq
  · rename_i el e id off len ht
    simp only [Q.own, val_ask_some] at hq
    split at hq
    · rename_i e' l cm ho
      split at hq
      · rename_i he _
        subst he
        simp only [val_br_some, val_ret_some, val_fail_some, and_false, or_false, castRow_self] at hq
        obtain ⟨hle, rfl⟩ := hq
        have hle := Nat.le_of_ble_eq_true hle
        obtain ⟨hut, dd, i, z, hdd, hi, hz, hzs, hcz, hc1, his, hzk⟩ := elemTy_spec ht
        obtain ⟨A, rfl, s1, s2, s3⟩ := hs
        obtain ⟨k1, k2, kc, k4, k5⟩ := h.ob id _ ho
        by_cases h0 : len = 0
        · subst h0
          have hl2 : l.take off ++ List.replicate (min 0 (l.length - off)) (zeroOf e') ++ l.drop (off + 0) = l := by
            rw [Nat.zero_min, List.replicate_zero, List.append_nil, Nat.add_zero, List.take_append_drop]
          rw [hl2]
          refine Good.still h ho hd (bind_value (x := .tuple #[]) ?_) trivial
          cases A <;> simp [Builtin.clear_, run_underlying hut]
        · cases hb : (g id).blk with
          | none =>
            have := k4 hb
            omega
          | some b =>
            have hA := s2 b hb (by omega)
            subst hA
            obtain ⟨n, rfl⟩ : ∃ n, len = n + 1 := ⟨len - 1, by omega⟩
            obtain ⟨w1, g1, r1, st, hR, hK⟩ := row_write (P := P) (l' := l.take off ++ List.replicate (min (n + 1) (l.length - off)) (zeroOf e') ++ l.drop (off + (n + 1))) (off := off) (vs := List.replicate (n + 1) (zeroOf e')) (v := .top) (x := .tuple #[]) h ho hb (zeros_els hzs hzk hc1 (n + 1)) hc1 (by rw [List.length_replicate]; omega)
              (by simp only [List.length_append, List.length_take, List.length_drop, List.length_replicate]; omega) (fun j y hy => by
                rw [List.length_replicate]
                by_cases hj : j < off
                · right
                  refine ⟨.inl hj, ?_⟩
                  by_cases hjl : j < l.length
                  · rw [List.append_assoc, List.getElem?_append_left (by rw [List.length_take]; omega), List.getElem?_take, if_pos hj] at hy
                    exact hy
                  · rw [List.getElem?_eq_none (by simp only [List.length_append, List.length_take, List.length_drop, List.length_replicate]; omega)] at hy
                    cases hy
                · by_cases hol : off ≤ l.length
                  · have hlt : (l.take off).length = off := by rw [List.length_take]; omega
                    by_cases hj2 : j < off + min (n + 1) (l.length - off)
                    · left
                      refine ⟨by omega, ?_⟩
                      rw [List.append_assoc, List.getElem?_append_right (by omega), hlt, List.getElem?_append_left (by rw [List.length_replicate]; omega), List.getElem?_replicate, if_pos (by omega)] at hy
                      rw [List.getElem?_replicate, if_pos (by omega)]
                      exact hy
                    · right
                      rw [List.append_assoc, List.getElem?_append_right (by omega), hlt, List.getElem?_append_right (by rw [List.length_replicate]; omega), List.length_replicate, List.getElem?_drop] at hy
                      have hlt2 := (List.getElem?_eq_some_iff.mp hy).1
                      refine ⟨.inr (by omega), ?_⟩
                      rw [← hy]
                      congr 1
                      omega
                  · exfalso
                    have := (List.getElem?_eq_some_iff.mp hy).1
                    simp only [List.length_append, List.length_take, List.length_drop, List.length_replicate] at this
                    omega) (fun _ _ _ _ => trivial) hd
            refine ⟨_, _, w1, F, g1, bind_value (x := .tuple #[]) ?_, .inl rfl, st, hR, hK⟩
            have hsz : (g id).sz = e'.cells := k1
            rw [hsz]
            have hzv : (zeroValue el).run P w = .ok z w := by simp [zeroValue, typeInfo, hi, hz]
            simp [Builtin.clear_, run_underlying hut, hzv, r1]
      · cases hq
    · cases hq
  · cases hq
end Go.Proofs.YtdbenenonfldkaaDoor.PE
