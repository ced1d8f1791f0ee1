/- Reading through addresses, arithmetic, comparisons, held against the model's. -/
import Derived.Test.YtdbenenonfldkaaDoorEOps1
namespace Go.Proofs.YtdbenenonfldkaaDoor.PE
set_option linter.unusedVariables false
open Go.RowKit
variable {P : Program} {w : World} {F : Nat → Prop} {g : Nat → Loc} {mine : Nat → Prop} {σ : St} {a : Act}
/-- What an operation's step must show. -/
def Good (w : World) (F : Nat → Prop) (g : Nat → Loc) (mine : Nat → Prop) (σ : St) (a : Act) (run : Result Next) (u : Upd) (dst : Option Nat) : Prop :=
  ∃ x n w' F' g', run = .ok n w' ∧ (n = .value x ∨ (n = .skip ∧ x = undef)) ∧ Step mine w F w' F' ∧ Rel w' F' g' mine (u.app σ dst) (a.put dst x) ∧ Kept u.kills g g' σ.ob (u.app σ dst).ob
theorem Good.val (h : Rel w F g mine σ a) {run : Result Next} {v : AV} {x : Value} {d : Option Nat} (hd : ∀ e, d = some e → e < a.tmps.size) (hr : run = .ok (.value x) w) (hv : R w F g σ.ob v x) :
    Good w F g mine σ a run { v := v } d :=
  ⟨x, _, w, F, g, hr, .inl rfl, Step.refl _ _ _, h.val hv d hd, by rw [app_ob]; exact Kept.refl _ _ _⟩
theorem bind_value {s : Sem Value} {x : Value} {w' : World} (h : s.run P w = .ok x w') : (do pure (Next.value (← s)) : Sem Next).run P w = .ok (.value x) w' := by
  simp [h]
theorem sureAddr_run {b off : Nat} : (Instr.sureAddr (.pointer (some ⟨b, off, none⟩))).run P w = .ok ⟨b, off, none⟩ w := rfl
/-- Where cells that can be read lie. -/
theorem cellsAt_sound (h : Rel w F g mine σ a) {v : AV} {x : Value} (hv : R w F g σ.ob v x) {cs : List AV} {off : Nat} (hq : (Q.cellsAt v).val σ.ob = some (cs, off)) :
    ∃ b base c T fr, x = .pointer (some ⟨b, base + off, none⟩) ∧ w.heap[b]? = some (.cells c T fr) ∧ base + cs.length ≤ c.size ∧ RAll w F g σ.ob cs (cut c base cs.length) := by
  cases v with
  | ptr id off' =>
    obtain ⟨b, h1, rfl⟩ := hv
    simp only [Q.cellsAt, val_ask_some] at hq
    split at hq
    · rename_i cs' ho
      simp only [val_ret_some, Prod.mk.injEq] at hq
      obtain ⟨rfl, rfl⟩ := hq
      obtain ⟨b', c, T, fr, k1, _, _, k4, _, k6, _⟩ := h.ob id _ ho
      rw [h1] at k1; cases k1
      have hl := RAll.length k6
      refine ⟨b, 0, c, T, fr, by rw [Nat.zero_add], k4, by simp at hl; omega, ?_⟩
      simp at hl
      rw [← hl, cut_all]; exact k6
    · cases hq
  | eptr id i off' =>
    obtain ⟨b, h1, rfl⟩ := hv
    simp only [Q.cellsAt, val_ask_some] at hq
    split at hq
    · rename_i e l cm frz ho
      simp only [val_opt_some, val_ret_some, Prod.mk.injEq] at hq
      obtain ⟨y, hy, rfl, rfl⟩ := hq
      obtain ⟨k1, k2, _, _, k5⟩ := h.ob id _ ho
      obtain ⟨c, T, fr, q1, q2, q3, _, _, q6⟩ := k5 b h1
      have hi : i < l.length := (List.getElem?_eq_some_iff.mp hy).1
      have hle : i * e.cells + e.cells ≤ c.size := by
        rw [q2, ← Nat.succ_mul]; exact Nat.mul_le_mul_right _ (by omega)
      refine ⟨b, i * e.cells, c, T, fr, by rw [k1], q1, by rw [exp_length]; exact hle, ?_⟩
      rw [exp_length]
      exact exp_rel (q6 i y hy)
    · cases hq
  | fptr t y off' =>
    obtain ⟨ad, rfl, h2, c, T, fr, h3, h4, h5⟩ := hv
    simp only [Q.cellsAt, val_ret_some, Prod.mk.injEq] at hq
    obtain ⟨rfl, rfl⟩ := hq
    refine ⟨ad.block, ad.off, c, T, fr, rfl, h3, by rw [exp_length]; exact h4, ?_⟩
    rw [exp_length]
    exact exp_rel h5
  | _ => cases hq
/-- Reading a variable's value, or a part of a value. -/
theorem part_sound {t : TypeId} {cs : List AV} {off : Nat} {v : AV} {vs : List Value} {ob : Nat → Option Ob} (hr : RAll w F g ob cs vs) {H : Nat → Option Ob} (hq : (part P t cs off).val H = some v) :
    ∃ d, P.underlying t = some d ∧ off + P.cellsOf t ≤ cs.length ∧
      ((isAggT P t = true ∧ R w F g ob v (.agg ((vs.drop off).take (P.cellsOf t)).toArray)) ∨ (isAggT P t = false ∧ off < cs.length ∧ ∃ y, vs[off]? = some y ∧ R w F g ob v y)) := by
  unfold part at hq
  rw [val_guard_some, Bool.and_eq_true] at hq
  obtain ⟨⟨h1, h2⟩, h3⟩ := hq
  obtain ⟨d, hd⟩ := isSomeT_spec h1
  have h2' := Nat.le_of_ble_eq_true h2
  refine ⟨d, hd, h2', ?_⟩
  cases ha : isAggT P t with
  | true =>
    rw [ha, cond_true, val_ret_some] at h3
    subst h3
    exact .inl ⟨rfl, _, rfl, RAll.take (RAll.drop hr off) _⟩
  | false =>
    rw [ha, cond_false] at h3
    split at h3
    · rename_i y r hy
      rw [val_ret_some] at h3
      subst h3
      have hlt : off < cs.length := by
        rcases Nat.lt_or_ge off cs.length with h' | h'
        · exact h'
        · rw [List.drop_of_length_le h'] at hy; cases hy
      have hlv := RAll.length hr
      have hc : cs[off]? = some y := by
        have := congrArg (·[0]?) hy
        simpa using this
      refine .inr ⟨rfl, hlt, vs[off]'(by omega), by simp, RAll.get hr hc (by simp)⟩
    · cases h3
theorem load_sound (h : Rel w F g mine σ a) {t : TypeId} {v r : AV} {x : Value} (hv : R w F g σ.ob v x) (hq : ((Q.cellsAt v).bind fun y => part P t y.1 y.2).val σ.ob = some r) :
    ∃ y, (Instr.loadAt t x).run P w = .ok y w ∧ R w F g σ.ob r y := by
  rw [val_bind_some] at hq
  obtain ⟨⟨cs, off⟩, h1, h2⟩ := hq
  obtain ⟨b, base, c, T, fr, rfl, k2, k3, k4⟩ := cellsAt_sound h hv h1
  obtain ⟨d, hd, hle, hor⟩ := part_sound (P := P) k4 h2
  simp only at hle
  have hsz : base + off + P.cellsOf t ≤ c.size := by omega
  unfold Instr.loadAt
  simp only [Sem.run_bind, sureAddr_run, Result.andThen_ok]
  rcases hor with ⟨ha, hR⟩ | ⟨ha, hlt, y, hy, hR⟩
  · rw [run_loadVar' hd k2 hsz (.inr ha), if_pos ha]
    refine ⟨_, rfl, ?_⟩
    rwa [cut_cut hle] at hR
  · simp only at hlt
    rw [run_loadVar' hd k2 hsz (.inl (by omega)), if_neg (by rw [ha]; simp)]
    refine ⟨_, rfl, ?_⟩
    have hg : (cut c base cs.length)[off]? = c[base + off]? := by
      unfold cut
      rw [List.getElem?_take, if_pos hlt, List.getElem?_drop, Array.getElem?_toList]
    rw [hg] at hy
    rw [Array.getD_eq_getD_getElem?, hy]
    exact hR
theorem run_part' {t : TypeId} {d : TypeDesc} (hu : P.underlying t = some d) {cs : Array Value} {off : Nat} (h : isAggT P t = true ∨ off < cs.size) :
    (Go.part t cs off).run P w = .ok (if isAggT P t = true then .agg (cs.extract off (off + P.cellsOf t)) else cs.getD off undef) w := by
  unfold Go.part
  simp only [Sem.run_bind, run_isAgg' hu, Result.andThen_ok]
  cases ha : isAggT P t with
  | true => simp [run_sizeOf' hu]
  | false =>
    have hlt := h.resolve_left (by rw [ha]; simp)
    simp [hlt, Array.getD_eq_getD_getElem?]
theorem part_run {t : TypeId} {cs : List AV} {off : Nat} {v : AV} {vs : Array Value} {ob : Nat → Option Ob} (hr : RAll w F g ob cs vs.toList) {H : Nat → Option Ob} (hq : (part P t cs off).val H = some v) :
    ∃ y, (Go.part t vs off).run P w = .ok y w ∧ R w F g ob v y := by
  obtain ⟨d, hd, hle, hor⟩ := part_sound hr hq
  have hl := RAll.length hr
  rw [Array.length_toList] at hl
  rcases hor with ⟨ha, hR⟩ | ⟨ha, hlt, y, hy, hR⟩
  · rw [run_part' hd (.inl ha), if_pos ha]
    refine ⟨_, rfl, ?_⟩
    rw [show vs.extract off (off + P.cellsOf t) = ((vs.toList.drop off).take (P.cellsOf t)).toArray by
      apply Array.ext'
      simp [Array.toList_extract, List.extract_eq_take_drop]]
    exact hR
  · rw [run_part' hd (.inr (by omega)), if_neg (by rw [ha]; simp)]
    refine ⟨_, rfl, ?_⟩
    rw [Array.getElem?_toList] at hy
    rw [Array.getD_eq_getD_getElem?, hy]
    exact hR
end Go.Proofs.YtdbenenonfldkaaDoor.PE
