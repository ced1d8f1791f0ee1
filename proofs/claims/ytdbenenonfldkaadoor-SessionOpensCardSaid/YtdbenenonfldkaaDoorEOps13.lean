/- New rows: made, built, out of a text; copies; held against the model's. -/
import Derived.Test.YtdbenenonfldkaaDoorEOps12
import Derived.Laws.MakeOwn
import Derived.Lib.ConvBytes
namespace Go.Proofs.YtdbenenonfldkaaDoor.PE
set_option linter.unusedVariables false
open Go.RowKit
variable {P : Program} {w w' : World} {F F' : Nat → Prop} {g g' : Nat → Loc} {mine : Nat → Prop} {σ : St} {a : Act}
theorem zeroOk_rd : ∀ {t : Ty} {cs r : List Value}, zeroOk t cs = some r → ∃ c1, cs = c1 ++ r ∧ ∀ (w : World) (F : Nat → Prop), Rd w F t (zeroOf t) c1
  | .int k, cs, r, h => by
    cases cs with
    | nil => simp [zeroOk] at h
    | cons v s =>
      cases v with
      | int k' n =>
        simp only [zeroOk] at h
        split at h
        · rename_i hk _
          subst hk
          cases hn : n == 0 with
          | false => rw [hn] at h; cases h
          | true =>
            rw [hn, cond_true] at h
            cases h
            exact ⟨[_], rfl, fun _ _ => by rw [eq_of_beq hn]; rfl⟩
        · cases h
      | _ => simp [zeroOk] at h
  | .bool, cs, r, h => by
    cases cs with
    | nil => simp [zeroOk] at h
    | cons v s =>
      cases v with
      | bool b => cases b <;> simp only [zeroOk] at h <;> cases h; exact ⟨[_], rfl, fun _ _ => rfl⟩
      | _ => simp [zeroOk] at h
  | .str, cs, r, h => by
    cases cs with
    | nil => simp [zeroOk] at h
    | cons v s =>
      cases v with
      | string b =>
        obtain ⟨⟨l⟩⟩ := b
        cases l with
        | nil => simp only [zeroOk] at h; cases h; exact ⟨[_], rfl, fun _ _ => rfl⟩
        | cons _ _ => simp [zeroOk] at h
      | _ => simp [zeroOk] at h
  | .slice e, cs, r, h => by
    cases cs with
    | nil => simp [zeroOk] at h
    | cons v s =>
      cases v with
      | slice A n c =>
        cases A <;> cases n <;> cases c <;> simp only [zeroOk] at h <;> cases h
        exact ⟨[_], rfl, fun _ _ => ⟨none, 0, 0, rfl, rfl, Nat.le_refl _, fun _ => rfl, fun _ h => nomatch h⟩⟩
      | _ => simp [zeroOk] at h
  | .fn f t, cs, r, h => by cases cs <;> simp [zeroOk] at h
  | .ref t, cs, r, h => by cases cs <;> simp [zeroOk] at h
  | .unit, cs, r, h => by
    have : cs = r := by cases cs <;> simpa [zeroOk] using h
    subst this
    exact ⟨[], rfl, fun _ _ => rfl⟩
  | .pair t u, cs, r, h => by
    have h' : (zeroOk t cs).bind (zeroOk u) = some r := by cases cs <;> simpa [zeroOk] using h
    obtain ⟨s, hs, h''⟩ := Option.bind_eq_some_iff.1 h'
    obtain ⟨c1, rfl, r1⟩ := zeroOk_rd hs
    obtain ⟨c2, rfl, r2⟩ := zeroOk_rd h''
    exact ⟨c1 ++ c2, by simp, fun w F => ⟨c1, c2, rfl, r1 w F, r2 w F⟩⟩
theorem made_cut {z : Array Value} {n sz i : Nat} (hz : z.size = sz) (h1 : 1 ≤ sz) (hi : i < n) : cut (madeCells z (n * sz)) (i * sz) sz = z.toList := by
  have hle : (i + 1) * sz ≤ n * sz := Nat.mul_le_mul_right _ hi
  rw [Nat.succ_mul] at hle
  apply List.ext_getElem?
  intro j
  unfold cut madeCells
  by_cases hj : j < sz
  · rw [List.getElem?_take, if_pos hj, List.getElem?_drop]
    simp only [Array.toList_map, Array.toList_range, List.getElem?_map]
    rw [List.getElem?_range (by omega)]
    simp only [Option.map_some]
    rw [hz, Nat.mul_add_mod_self_right, Nat.mod_eq_of_lt hj, Array.getElem?_toList]
    simp [hz, hj]
  · rw [List.getElem?_take, if_neg hj, List.getElem?_eq_none (by simp [hz]; omega)]
theorem makeSlice_sound (h : Rel w F g mine σ a) {nid : Nat} {t : TypeId} {lv cv : AV} {x y : Value} (hl : R w F g σ.ob lv x) (hc : R w F g σ.ob cv y) {up : Upd} (hq : (makeSliceQ P nid t lv cv).val σ.ob = some up) {d : Option Nat} (hd : ∀ e, d = some e → e < a.tmps.size) :
    Good w F g mine σ a ((do pure (Next.value (← Instr.makeSlice t x y)) : Sem Next).run P w) up d := by
  unfold makeSliceQ at hq
  split at hq
  · rename_i el e k n k' m ht
    cases (show _ = _ from hl); cases (show _ = _ from hc)
    simp only [val_br_some, val_ret_some, val_fail_some, and_false, or_false, decide_eq_true_eq] at hq
    obtain ⟨rfl, h0, ⟨h1, h2⟩, rfl⟩ := hq
    obtain ⟨hut, dd, i, z, hdd, hi, hz, hzs, hcz, hc1, his, hzk⟩ := elemTy_spec ht
    unfold room at h1 h2
    have hb : P.bytesOf el = i.bytes := by simp [Program.bytesOf, hi]
    rw [hb] at h1
    have hrun := run_make (P := P) w t el i z hut hi hz k k' n n h0 (Int.le_refl _) (by rw [Int.mul_comm]; omega) (by omega)
    obtain ⟨c1, hc1', hrd⟩ := zeroOk_rd hzk
    rw [List.append_nil] at hc1'
    have hlen : (List.replicate n.toNat (zeroOf e)).length = n.toNat := List.length_replicate
    refine Good.row h hd (l := List.replicate n.toNat (zeroOf e)) (cap := n.toNat) (bind_value (by rw [hlen]; exact hrun)) (OneMore.alloc w _) ?_ (by rw [hlen]; exact Nat.le_refl _) (nofr_zero _) (Nat.le_refl _) (fun j v hv => ?_)
    · rw [his]; simp [madeCells]
    · have hj : j < n.toNat := by rw [← hlen]; exact (List.getElem?_eq_some_iff.mp hv).1
      rw [List.getElem?_replicate, if_pos hj] at hv
      cases hv
      rw [his, made_cut hzs hc1 hj, hc1']
      exact hrd w F
  · cases hq
/-- A text's bytes in new memory. -/
theorem strBytes_sound (h : Rel w F g mine σ a) {nid : Nat} {src dst e : TypeId} {s : ByteArray} (hs : P.underlying src = some .string) (ht : P.underlying dst = some (.slice e)) (he : P.underlying e = some (.int .u8)) {d : Option Nat} (hd : ∀ e, d = some e → e < a.tmps.size) :
    Good w F g mine σ a ((do pure (Next.value (← convert src dst (.string s))) : Sem Next).run P w) { v := .ow nid, sets := [(nid, some (.row (.int .u8) (bytesList s) s.size false))], kills := [nid] } d := by
  have hlen : (bytesList s).length = s.size := bytesList_length s
  have hcap : s.size ≤ grownCap w s.size 0 e := by simp [grownCap, Question.cut]
  have hrun := Lib.run_convert_string_bytes (P := P) w src dst e s hs ht he
  have hcs : (Lib.bytesCells w e s).size = grownCap w s.size 0 e := by
    have : s.data.size = s.size := rfl
    simp [Lib.bytesCells]
    omega
  have m : OneMore w (Lib.bytesWorld w e s) (.cells (Lib.bytesCells w e s) e ((Lib.bytesCells w e s).size, (Lib.bytesCells w e s).size + 1)) :=
    ⟨rfl, rfl, rfl, Lib.bytesWorld_size w e s, fun b hb => Lib.bytesWorld_at_old w e s b hb, Lib.bytesWorld_at_new w e s⟩
  refine Good.row h hd (l := bytesList s) (e := .int .u8) (cap := grownCap w s.size 0 e) (bind_value (by rw [hlen]; exact hrun)) m (by rw [hcs]; simp [Ty.cells]) (by rw [hlen]; exact hcap) (fun i hi hx => by simp only [slack, Nat.add_zero] at hi hx; omega) hcap (fun j v hv => ?_)
  obtain ⟨b, hb, rfl⟩ := bytesList_get hv
  have hlt := (List.getElem?_eq_some_iff.mp hb).1
  have hj : j < (Lib.bytesCells w e s).size := by
    have : s.data.toList.length = s.size := by simp
    omega
  simp only [Ty.cells, Nat.mul_one]
  rw [cut_one hj]
  show [_] = [_]
  have h3 := (List.getElem?_eq_some_iff.mp hb).2
  have hlt' : j < s.data.size := by simpa using hlt
  simp only [Lib.bytesCells]
  rw [Array.getElem_append_left (by simpa using hlt')]
  simp only [Array.getElem_map]
  rw [← h3]
  simp
end Go.Proofs.YtdbenenonfldkaaDoor.PE
