/- Each operation that calls nothing, held against the model's. -/
import Derived.Test.YtdbenenonfldkaaDoorECopy
namespace Go.Proofs.YtdbenenonfldkaaDoor.PE
set_option linter.unusedVariables false
open Go.RowKit
variable {P : Program} {w w' : World} {F F' : Nat → Prop} {g g' : Nat → Loc} {mine : Nat → Prop} {σ : St} {a : Act}
theorem plain_val {q : Q AV} {H : Nat → Option Ob} {u : Upd} (h : (plainUpd q).val H = some u) : ∃ v, q.val H = some v ∧ u = { v := v } := by
  unfold plainUpd at h
  rw [val_bind_some] at h
  obtain ⟨v, h1, h2⟩ := h
  rw [val_ret_some] at h2
  exact ⟨v, h1, h2.symm⟩
theorem map2 {args : Array Operand} {u v : AV} {ρ : Operand → AV} (h : args.toList.map ρ = [u, v]) : ∃ x y, args = #[x, y] ∧ u = ρ x ∧ v = ρ y := by
  obtain ⟨l⟩ := args
  simp only at h
  match l, h with
  | [x, y], h => simp at h; exact ⟨x, y, rfl, h.1.symm, h.2.symm⟩
theorem map1 {args : Array Operand} {u : AV} {ρ : Operand → AV} (h : args.toList.map ρ = [u]) : ∃ x, args = #[x] ∧ u = ρ x := by
  obtain ⟨l⟩ := args
  simp only at h
  match l, h with
  | [x], h => simp at h; exact ⟨x, rfl, h.symm⟩
theorem list1 {ts : Array TypeId} {t : TypeId} (h : ts.toList = [t]) : ts = #[t] := by
  obtain ⟨l⟩ := ts; simp only at h; subst h; rfl
theorem list2 {ts : Array TypeId} {t u : TypeId} (h : ts.toList = [t, u]) : ts = #[t, u] := by
  obtain ⟨l⟩ := ts; simp only at h; subst h; rfl
theorem arr1 (f : Operand → Value) (x : Operand) : (#[x] : Array Operand).map f = #[f x] := by simp
theorem arr2 (f : Operand → Value) (x y : Operand) : (#[x, y] : Array Operand).map f = #[f x, f y] := by simp
theorem bltin_sound (h : Rel w F g mine σ a) {nid : Nat} {b : Builtin} {ts : Array TypeId} {args : Array Operand} {ty : TypeId} {cs : Array Bool} {up : Upd} {mv : Bool} (hq : (builtinQ P mv nid b ts.toList (args.toList.map (opnd σ))).val σ.ob = some up) {d : Option Nat} (hd : ∀ e, d = some e → e < a.tmps.size) :
    Good w F g mine σ a ((builtin b ts ty cs (args.map a.eval)).run P w) up d := by
  unfold builtinQ at hq
  split at hq
  · rename_i t x e1 e2
    obtain ⟨ox, rfl, rfl⟩ := map1 e2
    rw [list1 e1, arr1]
    obtain ⟨v, hv, rfl⟩ := plain_val hq
    obtain ⟨y, k1, k2⟩ := len_sound (P := P) (ty := ty) (opnd_rel h ox) hv
    exact Good.val h hd (bind_value k1) k2
  · rename_i t u s x e1 e2
    obtain ⟨os, ox, rfl, rfl, rfl⟩ := map2 e2
    rw [list2 e1, arr2]
    exact append_sound h (opnd_rel h os) (opnd_rel h ox) hq hd
  · rename_i t u s x e1 e2
    obtain ⟨os, ox, rfl, rfl, rfl⟩ := map2 e2
    rw [list2 e1, arr2]
    exact copy_sound h (opnd_rel h os) (opnd_rel h ox) hq hd
  · rename_i t s e1 e2
    obtain ⟨os, rfl, rfl⟩ := map1 e2
    rw [list1 e1, arr1]
    exact clear_sound h (opnd_rel h os) hq hd
  · rename_i x y e2
    obtain ⟨os, ox, rfl, rfl, rfl⟩ := map2 e2
    rw [arr2]
    obtain ⟨v, hv, rfl⟩ := plain_val hq
    obtain ⟨z, k1, k2⟩ := minMax_sound (P := P) (w := w) (opnd_rel h os) (opnd_rel h ox) hv
    refine Good.val h hd (bind_value ?_) k2
    simpa [Builtin.min_] using k1
  · rename_i x y e2
    obtain ⟨os, ox, rfl, rfl, rfl⟩ := map2 e2
    rw [arr2]
    obtain ⟨v, hv, rfl⟩ := plain_val hq
    obtain ⟨z, k1, k2⟩ := minMax_sound (P := P) (w := w) (opnd_rel h os) (opnd_rel h ox) hv
    refine Good.val h hd (bind_value ?_) k2
    simpa [Builtin.max_] using k1
  · rename_i x y e2
    obtain ⟨os, ox, rfl, e3, e4⟩ := map2 e2
    rw [arr2]
    rw [val_ret_some] at hq; subst hq
    have r1 := opnd_rel h os
    have r2 := opnd_rel h ox
    rw [← e3] at r1
    rw [← e4] at r2
    obtain ⟨b, q1, hb⟩ := r1
    obtain ⟨c, q2, hc⟩ := r2
    rw [q1, q2]
    exact Good.val h hd (x := .complex .f64 b c) (bind_value (run_complex w ts ty .f64 b c)) ⟨b, c, rfl, hb, hc⟩
  · rename_i x y e2
    obtain ⟨os, rfl, e3⟩ := map1 e2
    rw [arr1]
    rw [val_ret_some] at hq; subst hq
    have r1 := opnd_rel h os
    rw [← e3] at r1
    obtain ⟨b, c, q1, hb, hc⟩ := r1
    rw [q1]
    exact Good.val h hd (x := .float .f64 b) (bind_value (run_real w ts ty .f64 b c)) ⟨b, rfl, hb⟩
  · rename_i x y e2
    obtain ⟨os, rfl, e3⟩ := map1 e2
    rw [arr1]
    rw [val_ret_some] at hq; subst hq
    have r1 := opnd_rel h os
    rw [← e3] at r1
    obtain ⟨b, c, q1, hb, hc⟩ := r1
    rw [q1]
    exact Good.val h hd (x := .float .f64 c) (bind_value (run_imag w ts ty .f64 b c)) ⟨c, rfl, hc⟩
  · cases hq
theorem parts_rel (h : Rel w F g mine σ a) : ∀ (ps : List (Nat × Operand)), RParts w F g σ.ob (ps.map fun p => (p.1, opnd σ p.2)) (ps.map fun p => (p.1, a.eval p.2))
  | [] => rfl
  | p :: r => ⟨_, _, rfl, opnd_rel h p.2, parts_rel h r⟩
theorem opt_rel (h : Rel w F g mine σ a) : ∀ (x : Option Operand), ROpt w F g σ.ob (x.map (opnd σ)) (x.map a.eval)
  | none => rfl
  | some x => ⟨_, rfl, opnd_rel h x⟩
theorem opnds_rel (h : Rel w F g mine σ a) : ∀ (xs : List Operand), RAll w F g σ.ob (xs.map (opnd σ)) (xs.map a.eval)
  | [] => rfl
  | x :: r => ⟨_, _, rfl, opnd_rel h x, opnds_rel h r⟩
theorem bin_sound (h : Rel w F g mine σ a) {op : BinOp} {t : TypeId} {ox oy : Operand} {r : AV} (hq : (binQ P op t (opnd σ ox) (opnd σ oy)).val σ.ob = some r) :
    ∃ z, (do eqGuard op t ox oy (a.eval ox) (a.eval oy); binOp op t (a.eval ox) (a.eval oy) : Sem Value).run P w = .ok z w ∧ R w F g σ.ob r z := by
  have hx := opnd_rel h ox
  have hy := opnd_rel h oy
  have scalar : ∀ (x y : Value), (∀ cs, x ≠ .agg cs) → x ≠ .nilIface → (eqGuard op t ox oy x y).run P w = .ok () w := by
    intro x y h1 h2
    unfold eqGuard
    cases op <;> first | rfl | skip
    all_goals
      cases x <;> first | rfl | exact absurd rfl (h1 _) | exact absurd rfl h2
  generalize e1 : opnd σ ox = u at *
  generalize e2 : opnd σ oy = v at *
  unfold binQ at hq
  split at hq
  · rename_i k m k' n
    have hx' : a.eval ox = .int k m := hx
    have hy' : a.eval oy = .int k' n := hy
    obtain ⟨z, k1, k2⟩ := binInt_sound (P := P) (w := w) (F := F) (g := g) (ob := σ.ob) (op := op) (t := t) (k := k) (k' := k') (m := m) (n := n) (r := r) (H := σ.ob) (by unfold binQ; exact hq)
    refine ⟨z, ?_, k2⟩
    rw [hx', hy']
    simp only [Sem.run_bind, scalar (.int k m) (.int k' n) (fun _ h => by cases h) (fun h => by cases h), Result.andThen_ok, k1]
  · rename_i s s'
    have hx' : a.eval ox = .string s := hx
    have hy' : a.eval oy = .string s' := hy
    obtain ⟨z, k1, k2⟩ := binStr_sound (P := P) (w := w) (F := F) (g := g) (ob := σ.ob) (op := op) (t := t) (x := s) (y := s') (r := r) (H := σ.ob) (by unfold binQ; exact hq)
    refine ⟨z, ?_, k2⟩
    rw [hx', hy']
    simp only [Sem.run_bind, scalar (.string s) (.string s') (fun _ h => by cases h) (fun h => by cases h), Result.andThen_ok, k1]
  · rename_i m n
    obtain ⟨b, hx', hb⟩ := hx
    obtain ⟨c, hy', hc⟩ := hy
    obtain ⟨z, k1, k2⟩ := binFlt_sound (P := P) (w := w) (F := F) (g := g) (ob := σ.ob) (op := op) (t := t) hb hc (r := r) (H := σ.ob) (by unfold binQ; exact hq)
    refine ⟨z, ?_, k2⟩
    rw [hx', hy']
    simp only [Sem.run_bind, scalar (.float .f64 b) (.float .f64 c) (fun _ h => by cases h) (fun h => by cases h), Result.andThen_ok, k1]
  · rename_i m n p q
    obtain ⟨b, b', hx', hb, hb'⟩ := hx
    obtain ⟨c, c', hy', hc, hc'⟩ := hy
    obtain ⟨z, k1, k2⟩ := binCpx_sound (P := P) (w := w) (F := F) (g := g) (ob := σ.ob) (op := op) (t := t) hb hb' hc hc' (r := r) (H := σ.ob) (by unfold binQ; exact hq)
    refine ⟨z, ?_, k2⟩
    rw [hx', hy']
    simp only [Sem.run_bind, scalar (.complex .f64 b b') (.complex .f64 c c') (fun _ h => by cases h) (fun h => by cases h), Result.andThen_ok, k1]
  · split at hq
    · simp only [val_bind_some, val_ret_some] at hq
      obtain ⟨b, hb, rfl⟩ := hq
      obtain ⟨k1, k2⟩ := eq_sound (P := P) (ox := ox) (oy := oy) h hx hy hb (.inl rfl)
      exact ⟨_, by simp only [Sem.run_bind, k1, Result.andThen_ok, k2]; rfl, rfl⟩
    · simp only [val_bind_some, val_ret_some] at hq
      obtain ⟨b, hb, rfl⟩ := hq
      obtain ⟨k1, k2⟩ := eq_sound (P := P) (ox := ox) (oy := oy) h hx hy hb (.inr rfl)
      exact ⟨_, by simp only [Sem.run_bind, k1, Result.andThen_ok, k2]; rfl, rfl⟩
    · cases hq
theorem conv_sound (h : Rel w F g mine σ a) {s t : TypeId} {nid : Nat} {v : AV} {x : Value} (hv : R w F g σ.ob v x) {up : Upd} (hq : (convQ P s t nid v).val σ.ob = some up) {d : Option Nat} (hd : ∀ e, d = some e → e < a.tmps.size) :
    Good w F g mine σ a ((do pure (Next.value (← convert s t x)) : Sem Next).run P w) up d := by
  unfold convQ at hq
  split at hq
  · rename_i k0 k k1 n h1 h2
    rw [val_ret_some] at hq; subst hq
    cases (show _ = _ from hv)
    exact Good.val h hd (x := .int k (k.wrap n)) (bind_value (by simp [convert, run_underlying h1, run_underlying h2, Conv.intToInt])) rfl
  · rename_i k0 k1 n h1 h2
    simp only [val_br_some, val_ret_some, val_fail_some, and_false, or_false] at hq
    obtain ⟨hw, rfl⟩ := hq
    cases (show _ = _ from hv)
    exact Good.val h hd (x := .float .f64 (floatOfInt .f64 n)) (bind_value (run_convert_int_float w s t k1 .f64 n (by rw [h1]; rfl) h2)) ⟨_, rfl, fl_ofInt (whole_abs hw)⟩
  · rename_i k n h1 h2
    simp only [val_br_some, val_ret_some, val_fail_some, and_false, or_false, Bool.and_eq_true, decide_eq_true_eq] at hq
    obtain ⟨hw, rfl⟩ := hq
    obtain ⟨b, rfl, hb⟩ := hv
    exact Good.val h hd (x := .int k n) (bind_value (by simp [convert, run_underlying h1, run_underlying h2, Conv.floatToInt, fl_toInt hb, hw])) rfl
  · rename_i b h1 h2
    rw [val_ret_some] at hq; subst hq
    cases (show _ = _ from hv)
    exact Good.val h hd (x := .string b) (bind_value (by simp [convert, run_underlying h1, run_underlying h2])) rfl
  · rename_i e b h1 h2
    cases (show _ = _ from hv)
    split at hq
    · rename_i h3
      rw [val_ret_some] at hq; subst hq
      exact strBytes_sound h h1 h2 h3 hd
    · cases hq
  · rename_i v' e h1 h2
    split at hq
    · rename_i h3
      simp only [val_bind_some, val_ret_some] at hq
      obtain ⟨l, hl, rfl⟩ := hq
      have hel := elems_sound h hv hl
      have hb := bytes_sound (P := P) hel
      obtain ⟨A, n, c, rfl, _⟩ := hel
      refine Good.val h hd (x := .string (strOf l)) (bind_value ?_) rfl
      rw [run_convert_bytes_string w s t e A n c h1 h3 h2]
      exact hb
    · cases hq
  · cases hq
theorem nilCheck_run {dst : Option Tmp} {ty : TypeId} {pos : String} {after : Array Edge} {gd : Option (Nat × Bool)} {ρ : Operand → Value} {x : Operand} {y : Value} (hx : ρ x = y) (h : (∃ ad, y = .pointer (some ad)) ∨ ∃ f us cs, y = .func (.func f) us cs) :
    (execOp ρ ⟨dst, .nilCheck x, ty, pos, after, gd⟩).run P w = .ok (.value y) w := by
  simp only [execOp, hx]
  rcases h with ⟨ad, rfl⟩ | ⟨f, us, cs, rfl⟩ <;> rfl
/-- Each operation that calls nothing does what its update says. -/
theorem opQ_sound (h : Rel w F g mine σ a) {nid : Nat} (o : Oper) {up : Upd} (hq : (opQ P nid (opnd σ) o.op).val σ.ob = some up) (hd : ∀ e, o.dst = some e → e < a.tmps.size) :
    Good w F g mine σ a ((execOp a.eval o).run P w) up o.dst := by
  obtain ⟨dst, op, ty, pos, after, gd⟩ := o
  simp only at hq hd ⊢
  cases op <;> simp only [opQ] at hq <;> simp only [execOp]
  case move x => rw [val_ret_some] at hq; subst hq; exact Good.val h hd rfl (opnd_rel h x)
  case assign x => rw [val_ret_some] at hq; subst hq; exact Good.val h hd rfl (opnd_rel h x)
  case pick c x y =>
    have hc := opnd_rel h c
    split at hq
    · rename_i t ht
      rw [ht] at hc
      have hc' : a.eval c = .bool t := hc
      simp only [val_br_some, val_ret_some] at hq
      rcases hq with ⟨rfl, rfl⟩ | ⟨rfl, rfl⟩
      · exact Good.val h hd (x := a.eval x) (by simp [hc', asBool]) (opnd_rel h x)
      · exact Good.val h hd (x := a.eval y) (by simp [hc', asBool]) (opnd_rel h y)
    · cases hq
  case alloc e =>
    split at hq
    · rename_i z hz
      obtain ⟨i, v, hi, hiz, rfl⟩ := zeroAV_spec hz
      simp only [val_guard_some, val_ret_some] at hq
      obtain ⟨hs, rfl⟩ := hq
      refine Good.box h hd hs (ofVal_rel v) (T := e) ?_
      simp [Instr.alloc, zeroValue, typeInfo, hi, hiz, newVar, newRow]
    · cases hq
  case box e x =>
    simp only [val_guard_some, val_ret_some] at hq
    obtain ⟨hs, rfl⟩ := hq
    refine Good.box h hd hs (opnd_rel h x) (T := e) ?_
    simp [Instr.box, newVar, newRow]
  case build t ps =>
    have hp := parts_rel h ps.toList
    have hps : (ps.map fun (p : Nat × Operand) => (p.1, a.eval p.2)).toList = ps.toList.map fun p => (p.1, a.eval p.2) := by simp
    rw [← hps] at hp
    split at hq
    · rename_i z fs hz hu
      obtain ⟨v, hv, rfl⟩ := plain_val hq
      obtain ⟨y, k1, k2⟩ := build_struct_sound (P := P) hu hz hp hv
      exact Good.val h hd (bind_value k1) k2
    · rename_i z n el hz hu
      obtain ⟨v, hv, rfl⟩ := plain_val hq
      obtain ⟨y, k1, k2⟩ := build_array_sound (P := P) hu hz hp hv
      exact Good.val h hd (bind_value k1) k2
    · cases hq
  case buildSlice t n ps =>
    have hp := parts_rel h ps.toList
    have hps : (ps.map fun (p : Nat × Operand) => (p.1, a.eval p.2)).toList = ps.toList.map fun p => (p.1, a.eval p.2) := by simp
    rw [← hps] at hp
    exact buildSlice_sound h hp hq hd
  case load t x =>
    obtain ⟨v, hv, rfl⟩ := plain_val hq
    obtain ⟨y, k1, k2⟩ := load_sound (P := P) h (opnd_rel h x) hv
    exact Good.val h hd (bind_value k1) k2
  case store t x y => exact store_sound h (opnd_rel h x) (opnd_rel h y) hq hd
  case nilCheck x =>
    have hx := opnd_rel h x
    split at hq <;> first | cases hq; done | skip
    · rename_i id off e1
      rw [val_ret_some] at hq; subst hq
      rw [e1] at hx
      have hx' := hx
      obtain ⟨b, _, e2⟩ := hx
      exact Good.val h hd (nilCheck_run (dst := dst) (ty := ty) (pos := pos) (after := after) (gd := gd) rfl (.inl ⟨_, e2⟩)) hx'
    · rename_i id i off e1
      rw [val_ret_some] at hq; subst hq
      rw [e1] at hx
      have hx' := hx
      obtain ⟨b, _, e2⟩ := hx
      exact Good.val h hd (nilCheck_run (dst := dst) (ty := ty) (pos := pos) (after := after) (gd := gd) rfl (.inl ⟨_, e2⟩)) hx'
    · rename_i t y off e1
      rw [val_ret_some] at hq; subst hq
      rw [e1] at hx
      have hx' := hx
      obtain ⟨b, e2, _⟩ := hx
      exact Good.val h hd (nilCheck_run (dst := dst) (ty := ty) (pos := pos) (after := after) (gd := gd) rfl (.inl ⟨_, e2⟩)) hx'
    · rename_i f cs e1
      rw [val_ret_some] at hq; subst hq
      rw [e1] at hx
      have hx' := hx
      obtain ⟨vs, e2, _⟩ := hx
      exact Good.val h hd (nilCheck_run (dst := dst) (ty := ty) (pos := pos) (after := after) (gd := gd) rfl (.inr ⟨_, _, _, e2⟩)) hx'
    · rename_i f cs e1
      rw [val_ret_some] at hq; subst hq
      rw [e1] at hx
      have hx' := hx
      obtain ⟨vs, e2, _⟩ := hx
      exact Good.val h hd (nilCheck_run (dst := dst) (ty := ty) (pos := pos) (after := after) (gd := gd) rfl (.inr ⟨_, _, _, e2⟩)) hx'
  case binOp op t x y yt =>
    obtain ⟨v, hv, rfl⟩ := plain_val hq
    obtain ⟨z, k1, k2⟩ := bin_sound (P := P) h hv
    exact Good.val h hd (bind_value k1) k2
  case unOp op t x =>
    obtain ⟨v, hv, rfl⟩ := plain_val hq
    obtain ⟨z, k1, k2⟩ := un_sound (P := P) (w := w) (opnd_rel h x) hv
    exact Good.val h hd (bind_value k1) k2
  case convert s t x => exact conv_sound h (opnd_rel h x) hq hd
  case makeFunc fn first caps =>
    obtain ⟨fl⟩ := first
    cases fn <;> first | cases hq; done | skip
    rename_i f
    cases fl with
    | cons x fl =>
      obtain ⟨cl⟩ := caps
      cases cl with
      | cons _ _ => cases hq
      | nil =>
        simp only [val_ret_some] at hq
        subst hq
        refine Good.val h hd (x := .func (.func f) ((⟨x :: fl⟩ : Array Operand).map a.eval) #[]) (bind_value (by simp [Instr.makeFunc])) ⟨_, rfl, ?_⟩
        rw [Array.toList_map]
        exact opnds_rel h (x :: fl)
    | nil =>
      simp only [val_ret_some] at hq
      subst hq
      refine Good.val h hd (x := .func (.func f) #[] (caps.map a.eval)) (bind_value (by simp [Instr.makeFunc])) ⟨_, rfl, ?_⟩
      rw [Array.toList_map]
      exact opnds_rel h caps.toList
  case makeSlice t l c => exact makeSlice_sound h (opnd_rel h l) (opnd_rel h c) hq hd
  case slice t x lo hi mx =>
    obtain ⟨v, hv, rfl⟩ := plain_val hq
    obtain ⟨z, k1, k2⟩ := slice_sound (P := P) h (opnd_rel h x) (opt_rel h lo) (opt_rel h hi) (opt_rel h mx) hv
    exact Good.val h hd (bind_value k1) k2
  case fieldAddr s x f =>
    split at hq
    · rename_i fs hu
      split at hq
      · rename_i fd hf
        obtain ⟨v, hv, rfl⟩ := plain_val hq
        obtain ⟨z, k1, k2⟩ := field_sound (P := P) (w := w) hu hf (opnd_rel h x) hv
        exact Good.val h hd (bind_value k1) k2
      · cases hq
    · cases hq
  case field s x f =>
    split at hq
    · rename_i fs cs hu hx
      split at hq
      · rename_i fd hf
        obtain ⟨v, hv, rfl⟩ := plain_val hq
        have hR := opnd_rel h x
        rw [hx] at hR
        obtain ⟨vs, e1, hr⟩ := hR
        obtain ⟨y, k1, k2⟩ := part_run (P := P) (w := w) hr hv
        refine Good.val h hd (x := y) (bind_value ?_) k2
        rw [Array.getElem?_toList] at hf
        simp [Instr.field, run_underlying hu, hf, e1, asAgg, k1]
      · cases hq
    · cases hq
  case indexAddr t x i =>
    obtain ⟨v, hv, rfl⟩ := plain_val hq
    obtain ⟨z, k1, k2⟩ := indexAddr_sound (P := P) h (opnd_rel h x) (opnd_rel h i) hv
    exact Good.val h hd (bind_value k1) k2
  case index t x i =>
    obtain ⟨v, hv, rfl⟩ := plain_val hq
    obtain ⟨z, k1, k2⟩ := index_sound (P := P) (w := w) (opnd_rel h x) (opnd_rel h i) hv
    exact Good.val h hd (bind_value k1) k2
  case extract x i =>
    have hx := opnd_rel h x
    split at hq
    · rename_i vs e1
      rw [e1] at hx
      obtain ⟨us, e2, hr⟩ := hx
      split at hq
      · rename_i v hv
        rw [val_ret_some] at hq; subst hq
        have hl := RAll.length hr
        have hi : i < us.size := by
          have := (List.getElem?_eq_some_iff.mp hv).1
          rw [Array.length_toList] at hl; omega
        refine Good.val h hd (x := us[i]) (bind_value (by simp [Instr.extract, e2, hi])) (RAll.get hr hv (by simp [hi]))
      · cases hq
    · cases hq
  case call c =>
    obtain ⟨cal, args, ts⟩ := c
    cases cal <;> first | cases hq; done | skip
    rename_i b
    simp only [resolve, Sem.run_bind, Sem.run_pure, Result.andThen_ok, invoke]
    exact bltin_sound (P := P) (ty := ty) h hq hd
  all_goals cases hq
end Go.Proofs.YtdbenenonfldkaaDoor.PE
