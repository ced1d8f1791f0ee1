/- A run hands on to one continuation, once, or to none. -/
import Derived.Test.YtdbenenonfldkaaDoorEOps1
namespace Go.Proofs.YtdbenenonfldkaaDoor.PE
set_option linter.unusedVariables false
open Go.RowKit
section
variable {α : Type} {β γ δ ε ζ : Type}
def Lin2 (f : (β → γ → Option α) → Option α) : Prop := (∃ b c, ∀ k, f k = k b c) ∨ ∀ k, f k = none
def Lin3 (f : (β → γ → δ → Option α) → Option α) : Prop := (∃ b c d, ∀ k, f k = k b c d) ∨ ∀ k, f k = none
theorem Lin2.bind2 {f : (β → γ → Option α) → Option α} {g : β → γ → (ε → ζ → Option α) → Option α} (hf : Lin2 f) (hg : ∀ b c, Lin2 (g b c)) : Lin2 fun k => f fun b c => g b c k := by
  rcases hf with ⟨b, c, h⟩ | h
  · rcases hg b c with ⟨x, y, h2⟩ | h2
    · exact .inl ⟨x, y, fun k => (h _).trans (h2 k)⟩
    · exact .inr fun k => (h _).trans (h2 k)
  · exact .inr fun k => h _
theorem Lin2.bind3 {f : (β → γ → Option α) → Option α} {g : β → γ → (δ → ε → ζ → Option α) → Option α} (hf : Lin2 f) (hg : ∀ b c, Lin3 (g b c)) : Lin3 fun k => f fun b c => g b c k := by
  rcases hf with ⟨b, c, h⟩ | h
  · rcases hg b c with ⟨x, y, z, h2⟩ | h2
    · exact .inl ⟨x, y, z, fun k => (h _).trans (h2 k)⟩
    · exact .inr fun k => (h _).trans (h2 k)
  · exact .inr fun k => h _
theorem Lin3.bind2 {f : (β → γ → δ → Option α) → Option α} {g : β → γ → δ → (ε → ζ → Option α) → Option α} (hf : Lin3 f) (hg : ∀ b c d, Lin2 (g b c d)) : Lin2 fun k => f fun b c d => g b c d k := by
  rcases hf with ⟨b, c, d, h⟩ | h
  · rcases hg b c d with ⟨x, y, h2⟩ | h2
    · exact .inl ⟨x, y, fun k => (h _).trans (h2 k)⟩
    · exact .inr fun k => (h _).trans (h2 k)
  · exact .inr fun k => h _
theorem Lin2.none' : Lin2 (α := α) (β := β) (γ := γ) fun _ => none := .inr fun _ => rfl
theorem Lin2.pure' (b : β) (c : γ) : Lin2 (α := α) fun k => k b c := .inl ⟨b, c, fun _ => rfl⟩
theorem Q.cps_lin (H : Nat → Option Ob) (q : Q β) (T : List Nat) : Lin2 (α := α) fun k => q.cps H T k := by
  cases h : (q.log H T) with
  | none => exact .inr fun k => (Q.cps_eq k q T).trans (by rw [h]; rfl)
  | some p => exact .inl ⟨p.1, p.2, fun k => (Q.cps_eq k q T).trans (by rw [h]; rfl)⟩
theorem Lin2.bif {c : Bool} {f g : (β → γ → Option α) → Option α} (hf : Lin2 f) (hg : Lin2 g) : Lin2 fun k => bif c then f k else g k := by
  cases c
  · exact hg
  · exact hf
def InlLin (inl : Inl α) : Prop := ∀ f base args ob, Lin3 fun k => inl f base args ob k
theorem quietC_lin (q : Q Upd) (refs : List Nat) (o : Oper) (σ : St) : Lin2 fun k => quietC (α := α) q refs o σ k :=
  (Q.cps_lin σ.ob q []).bind2 fun _ _ => Lin2.pure' _ _
theorem operC_lin {C : Cfg} {inl : Inl α} (hi : InlLin inl) (base : Nat) (o : Oper) (σ : St) : Lin2 fun k => operC C inl base o σ k := by
  unfold operC
  split
  · split
    · split
      · dsimp only
        split
        · exact quietC_lin _ _ _ _
        · exact (Q.cps_lin σ.ob _ []).bind2 fun ids T => (hi _ _ _ _).bind2 fun v ob kl => Lin2.bif (Lin2.pure' _ _) Lin2.none'
      · exact Lin2.none'
    · exact quietC_lin _ _ _ _
    · exact Lin2.none'
  · exact quietC_lin _ _ _ _
theorem stepC_lin {C : Cfg} {inl : Inl α} (hi : InlLin inl) (base : Nat) (all : List Oper) (o : Oper) (σ : St) : Lin2 fun k => stepC C inl base all o σ k := by
  unfold stepC
  split
  · exact operC_lin hi base o σ
  · split
    · exact Lin2.none'
    · split
      · exact Lin2.bif (Lin2.bif (operC_lin hi base o _) (Lin2.pure' _ _)) (Lin2.bif (Lin2.pure' _ _) (operC_lin hi base o _))
      · exact Lin2.pure' _ _
      · exact Lin2.none'
theorem cutL_eq (fn id : Nat) (b : St → Kt α → Option α) (σ : St) (k : Kt α) : cutL fn id b σ k = b σ k := by
  unfold cutL
  split
  · rename_i h
    exact h.choose_spec.symm
  · rename_i h
    cases hb : b σ k with
    | none => rfl
    | some r => exact absurd ⟨r, hb⟩ h
theorem runC_region (C : Cfg) (inl : Inl α) (fn base id : Nat) (ops : Array Oper) (draw : Bool) (cur : Nat) (σ : St) (k : Kt α) : runC C inl fn base (.region id ops draw) cur σ k = regC C inl base ops draw (hinted (C.hr fn id) σ) k := by
  unfold runC
  cases h : C.hr fn id with
  | none => rfl
  | some x =>
    dsimp only
    split
    · exact cutL_eq ..
    · rfl
theorem opsC_lin {C : Cfg} {inl : Inl α} (hi : InlLin inl) (base : Nat) (all : List Oper) : ∀ (os : List Oper) (i : Nat) (σ : St) (fs : List (Nat × Fp)), Lin2 fun k => opsC C inl base all i os σ fs k
  | [], i, σ, fs => Lin2.pure' _ _
  | o :: r, i, σ, fs => (stepC_lin hi base all o σ).bind2 fun σ' _ => opsC_lin hi base all r (i + 1) σ' _
def BLin (b : St → Kt α → Option α) : Prop := ∀ σ, (∃ e σ', ∀ k, b σ k = k e σ') ∨ ∀ k, b σ k = none
/-- A loop with rounds enough: it leaves, or it does not. -/
theorem iter_or {h : Option Hint} {b : St → Kt α → Option α} (hb : BLin b) : ∀ (n : Nat) (σ : St), (∃ e σ', e ≠ .normal ∧ ∀ k m, n ≤ m → iterN h b k m σ = k e σ') ∨ ∀ k, iterN h b k n σ = none
  | 0, σ => .inr fun k => rfl
  | n + 1, σ => by
    rcases hb σ with ⟨e, σ', he⟩ | he
    · cases e with
      | normal =>
        rcases iter_or hb n (hinted h σ') with ⟨e2, σ2, h2, h3⟩ | h2
        · refine .inl ⟨e2, σ2, h2, fun k m hm => ?_⟩
          obtain ⟨m, rfl⟩ : ∃ m', m = m' + 1 := ⟨m - 1, by omega⟩
          unfold iterN
          rw [he]
          exact h3 k m (by omega)
        · refine .inr fun k => ?_
          unfold iterN
          rw [he]
          exact h2 k
      | ret =>
        refine .inl ⟨.ret, σ', by simp, fun k m hm => ?_⟩
        obtain ⟨m, rfl⟩ : ∃ m', m = m' + 1 := ⟨m - 1, by omega⟩
        unfold iterN
        rw [he]
        rfl
      | exit id =>
        refine .inl ⟨.exit id, σ', by simp, fun k m hm => ?_⟩
        obtain ⟨m, rfl⟩ : ∃ m', m = m' + 1 := ⟨m - 1, by omega⟩
        unfold iterN
        rw [he]
        rfl
      | jump l =>
        refine .inl ⟨.jump l, σ', by simp, fun k m hm => ?_⟩
        obtain ⟨m, rfl⟩ : ∃ m', m = m' + 1 := ⟨m - 1, by omega⟩
        unfold iterN
        rw [he]
        rfl
    · refine .inr fun k => ?_
      unfold iterN
      rw [he]
theorem loopL_of {h : Option Hint} {b : St → Kt α → Option α} {σ : St} {k : Kt α} {o : Option α} (h1 : ∀ n r, iterN h b k n σ = some r → o = some r) (h2 : ∀ r, o = some r → ∃ n, iterN h b k n σ = some r) : loopL h b σ k = o := by
  unfold loopL
  split
  · rename_i hh
    exact (h1 _ _ hh.choose_spec.choose_spec).symm
  · rename_i hh
    cases o with
    | none => rfl
    | some r => exact absurd ⟨_, r, (h2 r rfl).choose_spec⟩ hh
theorem loopL_lin {h : Option Hint} {b : St → Kt α → Option α} (hb : BLin b) : BLin (loopL h b) := by
  intro σ
  by_cases hx : ∃ n, ∃ e σ', e ≠ Ex.normal ∧ ∀ k m, n ≤ m → iterN h b k m σ = k e σ'
  · obtain ⟨n, e, σ', he, hh⟩ := hx
    refine .inl ⟨e, σ', fun k => loopL_of (fun m r hr => ?_) fun r hr => ⟨n, by rw [hh k n (Nat.le_refl _)]; exact hr⟩⟩
    rcases iter_or hb (h := h) m σ with ⟨e2, σ2, h2, h3⟩ | h2
    · rw [← hh k (m + n) (by omega), h3 k (m + n) (by omega), ← h3 k m (Nat.le_refl _)]
      exact hr
    · rw [h2] at hr; cases hr
  · refine .inr fun k => loopL_of (fun m r hr => ?_) fun r hr => by cases hr
    rcases iter_or hb (h := h) m σ with h2 | h2
    · exact absurd ⟨m, h2⟩ hx
    · rw [h2] at hr; cases hr
theorem loopL_step' {h : Option Hint} {b : St → Kt α → Option α} (hb : BLin b) (σ : St) (k : Kt α) : loopL h b σ k = b σ (againK (fun σ' => loopL h b (hinted h σ') k) k) := by
  rcases hb σ with ⟨e, σ', he⟩ | he
  · rw [he]
    have hit : ∀ n, iterN h b k (n + 1) σ = againK (fun σ' => iterN h b k n (hinted h σ')) k e σ' := fun n => by
      show b σ _ = _
      rw [he]
    cases e with
    | normal =>
      show _ = loopL h b (hinted h σ') k
      refine loopL_of (fun n r hr => ?_) fun r hr => ?_
      · cases n with
        | zero => cases hr
        | succ n =>
          rw [hit] at hr
          rcases iter_or hb (h := h) n (hinted h σ') with ⟨e2, σ2, h2, h3⟩ | h2
          · refine loopL_of (fun m r2 hr2 => ?_) fun r2 hr2 => by cases hr2; exact ⟨n, hr⟩
            rcases iter_or hb (h := h) m (hinted h σ') with ⟨e4, σ4, h4, h5⟩ | h4
            · rw [← hr2, h5 k m (Nat.le_refl _), ← h5 k (m + n) (by omega), h3 k (m + n) (by omega), ← h3 k n (Nat.le_refl _)]
              exact hr.symm
            · rw [h4] at hr2; cases hr2
          · have hr' : iterN h b k n (hinted h σ') = some r := hr
            rw [h2] at hr'; cases hr'
      · unfold loopL at hr
        split at hr
        · rename_i hh
          cases hr
          exact ⟨hh.choose + 1, by rw [hit]; exact hh.choose_spec.choose_spec⟩
        · cases hr
    | ret =>
      refine loopL_of (fun n r hr => ?_) fun r hr => ⟨1, by rw [hit]; exact hr⟩
      cases n with
      | zero => cases hr
      | succ n => rw [hit] at hr; exact hr
    | exit id =>
      refine loopL_of (fun n r hr => ?_) fun r hr => ⟨1, by rw [hit]; exact hr⟩
      cases n with
      | zero => cases hr
      | succ n => rw [hit] at hr; exact hr
    | jump l =>
      refine loopL_of (fun n r hr => ?_) fun r hr => ⟨1, by rw [hit]; exact hr⟩
      cases n with
      | zero => cases hr
      | succ n => rw [hit] at hr; exact hr
  · rw [he]
    refine loopL_of (fun n r hr => ?_) fun r hr => by cases hr
    cases n with
    | zero => cases hr
    | succ n =>
      have hr' : b σ _ = some r := hr
      rw [he] at hr'; cases hr'
theorem loopU_lin {h : Option Hint} {b : St → Kt α → Option α} (hb : BLin b) (n : Nat) (σ : St) : (∃ e σ', ∀ k, loopU n h b σ k = k e σ') ∨ ∀ k, loopU n h b σ k = none := by
  cases n with
  | zero => exact loopL_lin hb σ
  | succ n =>
    rcases iter_or hb (h := h) (n + 1) σ with ⟨e, s, _, h2⟩ | h2
    · exact .inl ⟨e, s, fun k => h2 k (n + 1) (Nat.le_refl _)⟩
    · exact .inr h2
theorem loopU_ex {n : Nat} {h : Option Hint} {b : St → Kt α → Option α} {σ : St} {k : Kt α} {r : α} (hr : loopU n h b σ k = some r) : ∃ m, iterN h b k m σ = some r := by
  cases n with
  | zero =>
    have hr : loopL h b σ k = some r := hr
    unfold loopL at hr
    split at hr
    · rename_i hex
      have hN := hex.choose_spec.choose_spec
      rw [hr] at hN
      exact ⟨_, hN⟩
    · cases hr
  | succ n => exact ⟨_, hr⟩
theorem shut_lin {f : Kt α → Option α} (h : Lin2 f) : Lin2 fun k => f (shutK k) := by
  rcases h with ⟨e, σ, h⟩ | h
  · cases e with
    | jump l => exact .inr fun k => h _
    | normal => exact .inl ⟨_, _, fun k => h _⟩
    | ret => exact .inl ⟨_, _, fun k => h _⟩
    | exit id => exact .inl ⟨_, _, fun k => h _⟩
  · exact .inr fun k => h _
theorem jump_lin {l : Nat} {b : St → Kt α → Option α} (h : BLin b) : BLin fun σ k => b σ (jumpK l k) := fun σ => by
  rcases h σ with ⟨e, σ', h⟩ | h
  · cases e with
    | jump l' =>
      cases hl : Nat.beq l' l with
      | true => exact .inl ⟨.normal, σ', fun k => (h _).trans (by show (bif Nat.beq l' l then _ else _) = _; rw [hl]; rfl)⟩
      | false => exact .inr fun k => (h _).trans (by show (bif Nat.beq l' l then _ else _) = _; rw [hl]; rfl)
    | normal => exact .inr fun k => h _
    | ret => exact .inl ⟨_, _, fun k => h _⟩
    | exit id => exact .inl ⟨_, _, fun k => h _⟩
  · exact .inr fun k => h _
theorem then_lin {f : Kt α → Option α} {b : St → Kt α → Option α} (hf : Lin2 f) (hb : BLin b) : Lin2 fun k => f (thenK b k) := by
  rcases hf with ⟨e, σ', he⟩ | he
  · cases e with
    | normal =>
      rcases hb σ' with ⟨e2, σ2, h2⟩ | h2
      · exact .inl ⟨e2, σ2, fun k => (he _).trans (h2 k)⟩
      · exact .inr fun k => (he _).trans (h2 k)
    | ret => exact .inl ⟨_, _, fun k => he _⟩
    | exit id => exact .inl ⟨_, _, fun k => he _⟩
    | jump l => exact .inl ⟨_, _, fun k => he _⟩
  · exact .inr fun k => he _
theorem runC_lin {C : Cfg} {inl : Inl α} (hi : InlLin inl) (fn base : Nat) : ∀ (c : Code) (cur : Nat), BLin fun σ k => runC C inl fn base c cur σ k
  | .skip, cur, σ => Lin2.pure' _ _
  | .label _, cur, σ => Lin2.pure' _ _
  | .ret, cur, σ => Lin2.pure' _ _
  | .exit id, cur, σ => Lin2.pure' _ _
  | .seq a b, cur, σ => by
    rcases runC_lin hi fn base a cur σ with ⟨e, σ', he⟩ | he
    · cases e with
      | normal =>
        rcases runC_lin hi fn base b cur σ' with ⟨e2, σ2, h2⟩ | h2
        · exact .inl ⟨e2, σ2, fun k => (he _).trans (h2 k)⟩
        · exact .inr fun k => (he _).trans (h2 k)
      | ret => exact .inl ⟨_, _, fun k => he _⟩
      | exit id => exact .inl ⟨_, _, fun k => he _⟩
      | jump l => exact .inl ⟨_, _, fun k => he _⟩
    · exact .inr fun k => he _
  | .cond c a b, cur, σ => by
    show Lin2 fun k => (match opnd σ c with
      | .bool t => bif t then runC C inl fn base a cur σ k else runC C inl fn base b cur σ k
      | _ => none)
    split
    · rename_i t _
      cases t
      · exact runC_lin hi fn base b cur σ
      · exact runC_lin hi fn base a cur σ
    · exact Lin2.none'
  | .block id c, cur, σ => by
    rcases runC_lin hi fn base c id σ with ⟨e, σ', he⟩ | he
    · cases e with
      | exit i =>
        cases hb : Nat.beq i id with
        | true => exact .inl ⟨.normal, σ', fun k => (he _).trans (by show (bif Nat.beq i id then _ else _) = _; rw [hb]; rfl)⟩
        | false => exact .inl ⟨.exit i, σ', fun k => (he _).trans (by show (bif Nat.beq i id then _ else _) = _; rw [hb]; rfl)⟩
      | normal => exact .inl ⟨_, _, fun k => he _⟩
      | ret => exact .inl ⟨_, _, fun k => he _⟩
      | jump l => exact .inl ⟨_, _, fun k => he _⟩
    · exact .inr fun k => he _
  | .scope c, cur, σ => by
    show Lin2 fun k => runC C inl fn base (.scope c) cur σ k
    unfold runC
    split
    · rename_i r1 r2 l b
      refine Lin2.bif (shut_lin (f := fun k => runC C inl fn base r1 cur σ (thenK (fun σ' k' => runC C inl fn base r2 cur σ' (thenK (fun σ2 k2 =>
          loopL (C.hb fn (90000 + l)) (fun σ k => runC C inl fn base b cur σ (jumpK l k)) (hinted (C.hb fn (90000 + l)) σ2) k2) k')) k)) ?_) Lin2.none'
      exact then_lin (runC_lin hi fn base r1 cur σ) fun σ1 => then_lin (runC_lin hi fn base r2 cur σ1) fun σ2 => loopL_lin (jump_lin (runC_lin hi fn base b cur)) _
    · exact shut_lin (runC_lin hi fn base _ cur σ)
  | .loop c, cur, σ => loopU_lin (runC_lin hi fn base c cur) _ _
  | .region id ops draw, cur, σ => by
    have e : Lin2 fun k => regC C inl base ops draw (hinted (C.hr fn id) σ) k := by
      unfold regC
      cases draw with
      | false => exact (opsC_lin hi base ops.toList ops.toList 0 _ []).bind2 fun σ' fs => Lin2.pure' _ _
      | true => exact (opsC_lin hi base ops.toList ops.toList 0 _ []).bind2 fun σ' fs => Lin2.bif (Lin2.pure' _ _) Lin2.none'
    rcases e with ⟨x, y, e⟩ | e
    · exact .inl ⟨x, y, fun k => (runC_region ..).trans (e k)⟩
    · exact .inr fun k => (runC_region ..).trans (e k)
  | .goto _, cur, σ => Lin2.pure' _ _
  | .refuse _, cur, σ => Lin2.none'
  | .rangeFunc _ _ _ _, cur, σ => Lin2.none'
theorem Lin3.bif {c : Bool} {f : (β → γ → δ → Option α) → Option α} (hf : Lin3 f) : Lin3 fun k => bif c then f k else none := by
  cases c
  · exact .inr fun _ => rfl
  · exact hf
theorem psC_lin (s : Sig) (args : List AV) (ob : Nat → Option Ob) : Lin3 (α := α) fun k => psC s args ob k := by
  unfold psC
  split
  · split
    · rename_i cs _
      refine Lin2.bind3 (Q.cps_lin ob (argsCells (.agg cs :: _) s.pm) []) fun G _ => ?_
      split
      · exact .inr fun _ => rfl
      · rename_i o mk _
        cases o with
        | none => exact .inr fun _ => rfl
        | some r =>
          simp only [Option.bind_some]
          split
          · exact Lin3.bif (.inl ⟨_, _, _, fun k => rfl⟩)
          · exact .inr fun _ => rfl
    · exact .inr fun _ => rfl
  · exact .inr fun _ => rfl
theorem inlN_lin (C : Cfg) : ∀ d, InlLin (inlN C d : Inl α)
  | 0 => fun _ _ _ _ => .inr fun _ => rfl
  | d + 1 => fun f base args ob => by
    unfold inlN
    split
    · exact psC_lin _ _ _
    split
    · rename_i fn c _
      have hr : Lin2 fun k => runC C (inlN C d) f (base + 10000) c 0 (enter args ob) k := runC_lin (inlN_lin C d) f (base + 10000) c 0 (enter args ob)
      refine hr.bind3 (g := fun e σ k => retK C.P fn k e σ) fun e σ => ?_
      have fin : Lin3 (α := α) fun k => (resultsQ C.P σ fn.results.toList).cps σ.ob [] fun vs _ => k (resOf vs) σ.ob σ.kl := by
        rcases Q.cps_lin (α := α) σ.ob (resultsQ C.P σ fn.results.toList) [] with ⟨vs, T, h⟩ | h
        · exact .inl ⟨_, _, _, fun k => h _⟩
        · exact .inr fun k => h _
      cases e with
      | normal => exact fin
      | ret => exact fin
      | exit id => exact .inr fun _ => rfl
      | jump l => exact .inr fun _ => rfl
    · exact .inr fun _ => rfl
/-- A loop's first round. -/
theorem loopL_step {C : Cfg} {d : Nat} {fn base : Nat} {c : Code} {cur : Nat} {h : Option Hint} (σ : St) (k : Kt α) :
    loopL h (fun σ k => runC C (inlN C d) fn base c cur σ k) σ k = runC C (inlN C d) fn base c cur σ (againK (fun σ' => loopL h (fun σ k => runC C (inlN C d) fn base c cur σ k) (hinted h σ') k) k) :=
  loopL_step' (runC_lin (inlN_lin C d) fn base c cur) σ k
theorem loopAt_step (C : Cfg) (d fn : Nat) (rm : List Mode) (un : List DV → Option α) (path : List Bool) (σ : St) : loopAt C d fn rm un path σ = roundAt C d fn rm un path σ := by
  unfold loopAt roundAt
  split
  · congr 1
    funext c cur k
    cases c
    case loop c => exact loopL_step σ k
    case scope c =>
      split
      · rename_i h; cases h
      · exact loopL_step' (jump_lin (runC_lin (inlN_lin C d) fn 100 _ cur)) σ _
      · rfl
    all_goals rfl
  · rfl
theorem regAt_step (C : Cfg) (d fn : Nat) (rm : List Mode) (un : List DV → Option α) (path : List Bool) (σ : St) : regAt C d fn rm un path σ = regRun C d fn rm un path σ := by
  unfold regAt regRun
  split
  · congr 1
    funext c cur k
    cases c
    case region id ops draw => exact cutL_eq ..
    all_goals rfl
  · rfl
theorem ploopAt_step (C : Cfg) (d fn : Nat) (rm : List Mode) (un : List DV → Option α) (path : List Bool) (σ : St) : ploopAt C d fn rm un path σ = proundAt C d fn rm un path σ := by
  unfold ploopAt proundAt
  split
  · congr 1
    funext c cur k
    cases c
    case loop c => exact loopL_step σ k
    case scope c =>
      split
      · rename_i h; cases h
      · exact loopL_step' (jump_lin (runC_lin (inlN_lin C d) fn 100 _ cur)) σ _
      · rfl
    all_goals rfl
  · rfl
theorem pregAt_step (C : Cfg) (d fn : Nat) (rm : List Mode) (un : List DV → Option α) (path : List Bool) (σ : St) : pregAt C d fn rm un path σ = pregRun C d fn rm un path σ := by
  unfold pregAt pregRun
  split
  · congr 1
    funext c cur k
    cases c
    case region id ops draw => exact cutL_eq ..
    all_goals rfl
  · rfl
end
end Go.Proofs.YtdbenenonfldkaaDoor.PE
