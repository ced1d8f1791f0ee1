/- Equality, held against the model's. -/
import Derived.Test.YtdbenenonfldkaaDoorEOps14
import Derived.ChangeKeysEq
namespace Go.Proofs.YtdbenenonfldkaaDoor.PE
set_option linter.unusedVariables false
open Go.RowKit
variable {P : Program} {w w' : World} {F F' : Nat → Prop} {g g' : Nat → Loc} {mine : Nat → Prop} {σ : St} {a : Act}
mutual
theorem eqA_sound {ob H : Nat → Option Ob} : ∀ (n d : Nat) {t : TypeId} {u v : AV} {x y : Value} {b : Bool}, n ≤ d → R w F g ob u x → R w F g ob v y → (eqA P n t u v).val H = some b → (Op.equalIn d t x y).run P w = .ok b w
  | 0, _, _, _, _, _, _, _, _, _, _, h => by cases h
  | n + 1, d, t, u, v, x, y, b, hd, hx, hy, h => by
    obtain ⟨d, rfl⟩ : ∃ d', d = d' + 1 := ⟨d - 1, by omega⟩
    unfold eqA at h
    split at h
    · rename_i p q hu
      cases (show _ = _ from hx)
      cases (show _ = _ from hy)
      rw [val_ret_some] at h
      subst h
      exact run_equalIn_bool' w d t p q hu
    · rename_i k' k p k2 q hu
      cases (show _ = _ from hx)
      cases (show _ = _ from hy)
      split at h
      · rename_i e _
        subst e
        rw [val_ret_some] at h
        subst h
        exact run_equalIn_int w d t k k' p q hu
      · cases h
    · rename_i p q hu
      cases (show _ = _ from hx)
      cases (show _ = _ from hy)
      rw [val_ret_some] at h
      subst h
      exact run_equalIn_string w d t p q hu
    · rename_i fs xs ys hu
      obtain ⟨X, rfl, hx⟩ := hx
      obtain ⟨Y, rfl, hy⟩ := hy
      rw [val_guard_some, Bool.not_eq_true'] at h
      have hf : P.fieldsOf t = fs := by simp [Program.fieldsOf, hu]
      rw [run_equalIn_struct w d t X Y (by rw [hf]; exact hu) h.1, hf]
      exact eqFs_sound n d (by omega) hx hy h.2
    · rename_i len e xs ys hu
      obtain ⟨X, rfl, hx⟩ := hx
      obtain ⟨Y, rfl, hy⟩ := hy
      rw [val_guard_some] at h
      obtain ⟨dd, hdd⟩ := isSomeT_spec h.1
      obtain ⟨i, hi⟩ := info_of_underlying hdd
      rw [run_equalIn_array w d X Y hu hi]
      exact eqIs_sound n d (by omega) hx hy h.2
    · cases h
theorem eqFs_sound {ob H : Nat → Option Ob} : ∀ (n d : Nat) {xs ys : List AV} {X Y : Array Value} {fs : List Field} {b : Bool}, n ≤ d → RAll w F g ob xs X.toList → RAll w F g ob ys Y.toList → (eqFs P n xs ys fs).val H = some b → (Op.eqFields d X Y fs).run P w = .ok b w
  | 0, _, _, _, _, _, _, _, _, _, _, h => by cases h
  | n + 1, d, xs, ys, X, Y, [], b, hd, hx, hy, h => by
    simp only [eqFs, val_ret_some] at h
    subst h
    rfl
  | n + 1, d, xs, ys, X, Y, f :: fs, b, hd, hx, hy, h => by
    simp only [eqFs, val_guard_some, val_bind_some, val_ret_some] at h
    obtain ⟨hn, p, hp, q, hq, r, hr, s, hs, rfl⟩ := h
    obtain ⟨y1, k1, k2⟩ := part_run hx hp
    obtain ⟨y2, k3, k4⟩ := part_run hy hq
    have e1 := eqA_sound n d (by omega) k2 k4 hr
    have e2 := eqFs_sound n d (by omega) hx hy hs
    have hn' : f.name ≠ "_" := by simpa using hn
    simp only [Op.eqFields, ne_eq, hn', not_false_eq_true, if_true, Sem.run_bind, k1, k3, e1, Result.andThen_ok]
    cases r
    · simp
    · simpa using e2
theorem eqIs_sound {ob H : Nat → Option Ob} : ∀ (n d : Nat) {e : TypeId} {xs ys : List AV} {X Y : Array Value} {is : List Nat} {b : Bool}, n ≤ d → RAll w F g ob xs X.toList → RAll w F g ob ys Y.toList → (eqIs P n e xs ys is).val H = some b → (Op.eqItems d e (P.cellsOf e) X Y is).run P w = .ok b w
  | 0, _, _, _, _, _, _, _, _, _, _, _, h => by cases h
  | n + 1, d, e, xs, ys, X, Y, [], b, hd, hx, hy, h => by
    simp only [eqIs, val_ret_some] at h
    subst h
    rfl
  | n + 1, d, e, xs, ys, X, Y, i :: is, b, hd, hx, hy, h => by
    simp only [eqIs, val_bind_some, val_ret_some] at h
    obtain ⟨p, hp, q, hq, r, hr, s, hs, rfl⟩ := h
    obtain ⟨y1, k1, k2⟩ := part_run hx hp
    obtain ⟨y2, k3, k4⟩ := part_run hy hq
    have e1 := eqA_sound n d (by omega) k2 k4 hr
    have e2 := eqIs_sound n d (by omega) hx hy hs
    simp only [Op.eqItems, Sem.run_bind, k1, k3, e1, Result.andThen_ok]
    cases r
    · simp
    · simpa using e2
end
theorem eq_plain {t : TypeId} {x y : Value} {b : Bool} {ox oy : Operand} {op : BinOp} (hop : op = .eql ∨ op = .neq) (hx : (∃ p q, x = .bool p ∧ y = .bool q) ∨ ∃ A n c B m d, x = .slice A n c ∧ y = .slice B m d) (he : (Op.equalIn 10000 t x y).run P w = .ok b w) :
    (eqGuard op t ox oy x y).run P w = .ok () w ∧ (binOp op t x y).run P w = .ok (.bool (if op = .eql then b else !b)) w := by
  rcases hx with ⟨p, q, rfl, rfl⟩ | ⟨A, n, c, B, m, d, rfl, rfl⟩ <;> rcases hop with rfl | rfl
  all_goals
    refine ⟨by simp [eqGuard], ?_⟩
    simp [binOp, Op.equal, Op.maxDepth, he]
theorem eq_slice (d : Nat) {t e : TypeId} (h : P.underlying t = some (.slice e)) (A B : Option Addr) (n c m k : Nat) (hn : A = none ∨ B = none) : (Op.equalIn (d + 1) t (.slice A n c) (.slice B m k)).run P w = .ok (A.isNone && B.isNone) w := by
  cases A <;> cases B <;> simp [Op.equalIn, run_underlying h] at hn ⊢
theorem fz_nonnil {ob : Nat → Option Ob} {e : Ty} {l : List e.den} {full : Bool} {x : Value} (h : R w F g ob (.fz e l full true) x) : ∃ A n c, x = .slice (some A) n c := by
  obtain ⟨⟨A, n, c, h1, _⟩, h2⟩ := h
  simp only [List.cons.injEq, and_true] at h1
  have := (h2 A n c h1).2 rfl
  cases A with
  | none => exact absurd rfl this
  | some A => exact ⟨A, n, c, h1⟩
theorem eq_sound (h : Rel w F g mine σ a) {t : TypeId} {u v : AV} {x y : Value} (hu : R w F g σ.ob u x) (hv : R w F g σ.ob v y) {b : Bool} (hq : (eqQ P t u v).val σ.ob = some b) {ox oy : Operand} {op : BinOp} (hop : op = .eql ∨ op = .neq) :
    (eqGuard op t ox oy x y).run P w = .ok () w ∧ (binOp op t x y).run P w = .ok (.bool (if op = .eql then b else !b)) w := by
  unfold eqQ at hq
  split at hq
  · rename_i p q hu'
    cases (show _ = _ from hu)
    cases (show _ = _ from hv)
    rw [val_ret_some] at hq
    subst hq
    exact eq_plain hop (.inl ⟨p, q, rfl, rfl⟩) (run_equalIn_bool' (P := P) w 9999 t p q hu')
  · rename_i e hu'
    cases (show _ = _ from hu)
    cases (show _ = _ from hv)
    rw [val_ret_some] at hq
    subst hq
    exact eq_plain hop (.inr ⟨_, _, _, _, _, _, rfl, rfl⟩) (eq_slice (P := P) 9999 hu' _ _ _ _ _ _ (by simp))
  · rename_i e _ _ _ hu'
    cases (show _ = _ from hu)
    obtain ⟨A, n, c, rfl⟩ := fz_nonnil hv
    rw [val_ret_some] at hq
    subst hq
    exact eq_plain hop (.inr ⟨_, _, _, _, _, _, rfl, rfl⟩) (eq_slice (P := P) 9999 hu' _ _ _ _ _ _ (by simp))
  · rename_i e _ _ _ hu'
    cases (show _ = _ from hv)
    obtain ⟨A, n, c, rfl⟩ := fz_nonnil hu
    rw [val_ret_some] at hq
    subst hq
    exact eq_plain hop (.inr ⟨_, _, _, _, _, _, rfl, rfl⟩) (eq_slice (P := P) 9999 hu' _ _ _ _ _ _ (by simp))
  · rename_i xs ys
    rw [val_guard_some, Bool.not_eq_true'] at hq
    obtain ⟨h1, h2⟩ := hq
    have e := eqA_sound (P := P) 20 10000 (by omega) hu hv h2
    obtain ⟨X, rfl, hx⟩ := hu
    obtain ⟨Y, rfl, hy⟩ := hv
    refine ⟨run_eqGuard_agg w op t ox oy X Y h1, ?_⟩
    rcases hop with rfl | rfl
    · rw [run_eql_struct, e]; rfl
    · rw [run_neq_struct, e]; rfl
  · cases hq
end Go.Proofs.YtdbenenonfldkaaDoor.PE
