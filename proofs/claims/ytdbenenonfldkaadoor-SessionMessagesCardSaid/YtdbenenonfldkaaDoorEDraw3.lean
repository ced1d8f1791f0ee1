/- A region that draws its order, held against the model's code. -/
import Derived.Test.YtdbenenonfldkaaDoorEDraw2
namespace Go.Proofs.YtdbenenonfldkaaDoor.PE
set_option linter.unusedVariables false
open Go.RowKit
section
variable {α : Type} {r : α} {P : Program} {w0 w w' : World} {F0 F F' : Nat → Prop} {g0 g g' : Nat → Loc} {ob0 : Nat → Option Ob} {mine : Nat → Prop} {n : Nat} {σ σ' : St} {a : Act}
theorem ORel.obs {ob ob' : Nat → Option Ob} (hh : w'.heap = w.heap) (hl : ∀ i, lenOf (ob' i) = lenOf (ob i)) {id : Nat} : ∀ {o : Ob}, ORel w F g ob mine id o → ORel w' F g ob' mine id o
  | .cells cs, h => by
    obtain ⟨b, c, T, fr, h1, h2, h3, h4, h5, h6, h7⟩ := h
    exact ⟨b, c, T, fr, h1, h2, h3, by rw [hh]; exact h4, h5, RAll.step (fun b _ => by rw [hh]) (fun _ h => h) h6 fun i _ => ⟨rfl, fun n hn => by rw [← hl]; exact hn⟩, h7⟩
  | .row e l cm frz, h => by
    obtain ⟨h1, h2, h3, h4, h5⟩ := h
    refine ⟨h1, h2, h3, h4, fun b hb => ?_⟩
    obtain ⟨c, T, fr, q1, q2, q3, q4, q5, q6⟩ := h5 b hb
    exact ⟨c, T, fr, by rw [hh]; exact q1, q2, q3, q4, q5, fun i y hy => (q6 i y hy).step (fun b _ => by rw [hh]) fun _ h => h⟩
theorem ORel.kill (ids : List Nat) {ob : Nat → Option Ob} {id : Nat} : ∀ {o : Ob}, ORel w F g ob mine id o → ORel w F g ob mine id (o.kill ids)
  | .cells cs, h => by
    obtain ⟨b, c, T, fr, h1, h2, h3, h4, h5, h6, h7⟩ := h
    exact ⟨b, c, T, fr, h1, h2, h3, h4, h5, RAll.kill ids h6, h7⟩
  | .row e l cm frz, h => h
theorem own_kill (ids : List Nat) : ∀ o : Ob, (o.kill ids).own ↔ o.own
  | .cells _ => .rfl
  | .row _ _ _ _ => .rfl
theorem Inv.kill (h : Inv w0 F0 g0 ob0 mine n w F g σ a) (N : List Nat) : Inv w0 F0 g0 ob0 mine n w F g (σ.kill N) a := by
  have hob : ∀ i o, (σ.kill N).ob i = some o → ∃ o1, σ.ob i = some o1 ∧ (o = o1 ∨ o = o1.kill N) := by
    intro i o hi
    rcases kill_ob σ N i with ⟨_, e⟩ | e
    · rw [e] at hi; exact ⟨o, hi, .inl rfl⟩
    · rw [e] at hi
      obtain ⟨o1, h1, rfl⟩ := Option.map_eq_some_iff.1 hi
      exact ⟨o1, h1, .inr rfl⟩
  have hown : ∀ i o, (σ.kill N).ob i = some o → o.own → ∃ o1, σ.ob i = some o1 ∧ o1.own := by
    intro i o hi ho
    obtain ⟨o1, h1, rfl | rfl⟩ := hob i o hi
    · exact ⟨_, h1, ho⟩
    · exact ⟨_, h1, (own_kill N o1).1 ho⟩
  refine ⟨⟨fun t => ?_, fun id o hid => ?_, fun i j o p b hi hj ho hp => ?_, h.rel.low, h.rel.up⟩, h.step, ?_, h.size, h.defers⟩
  · exact R.step (fun _ _ => rfl) (fun _ h => h) (kill_tm σ N t _ (h.rel.tm t)).1 fun id _ => ⟨rfl, fun m hm => by rw [lenOf_killOb] at hm; exact hm⟩
  · obtain ⟨o1, h1, rfl | rfl⟩ := hob id o hid
    · exact (h.rel.ob id _ h1).obs rfl fun i => lenOf_killOb σ N i
    · exact ((h.rel.ob id _ h1).kill N).obs rfl fun i => lenOf_killOb σ N i
  · obtain ⟨o1, h1, k1⟩ := hown i o hi ho
    obtain ⟨o2, h2, k2⟩ := hown j p hj hp
    exact h.rel.uniq i j o1 o2 b h1 h2 k1 k2
  · intro id hid
    have hk : id ∉ σ.kl := by
      cases N with
      | nil => exact hid
      | cons x l => exact hid
    exact ⟨(h.kept id hk).1, fun m hm => (h.kept id hk).2 m (by rw [lenOf_killOb] at hm; exact hm)⟩
theorem Inv.drew (h : Inv w0 F0 g0 ob0 mine n w F g σ a) : Inv w0 F0 g0 ob0 mine n { w with drawn := w.drawn + 1 } F g σ a :=
  ⟨⟨fun t => R.step (w := w) (w' := { w with drawn := w.drawn + 1 }) (fun _ _ => rfl) (fun _ h => h) (h.rel.tm t) fun id _ => ⟨rfl, fun _ h => h⟩, fun id o hid => ORel.obs (w := w) (w' := { w with drawn := w.drawn + 1 }) rfl (fun _ => rfl) (h.rel.ob id o hid), h.rel.uniq, h.rel.low, h.rel.up⟩,
    ⟨h.step.os, h.step.tape, h.step.output, h.step.size, h.step.kept, h.step.data, h.step.grow, h.step.from_⟩, h.kept, h.size, h.defers⟩
theorem Inv.same (h : Inv w0 F0 g0 ob0 mine n w F g σ a) (hs : Same σ σ') : Inv w0 F0 g0 ob0 mine n w F g σ' a := by
  refine ⟨⟨fun t => ?_, fun id o => ?_, fun i j o p b => ?_, h.rel.low, h.rel.up⟩, h.step, fun id hid => ?_, h.size, h.defers⟩
  · rw [← hs.tm t, ← hs.ob]; exact h.rel.tm t
  · rw [← hs.ob]; exact h.rel.ob id o
  · rw [← hs.ob]; exact h.rel.uniq i j o p b
  · rw [← hs.ob]; exact h.kept id fun hk => hid ((hs.kl id).1 hk)
theorem fp_wf (i : Nat) (o : Oper) (u : Upd) (t a : List Nat) : (Rec.mk i o u (u.fp t a)).Wf where
  v := fun j hj => by simp only [Upd.fp, List.mem_append]; exact .inr (.inr (.inl hj))
  s := fun p hp j hj => by simp only [Upd.fp, List.mem_append, List.mem_flatMap]; exact .inr (.inr (.inr ⟨p, hp, hj⟩))
  z := rfl
  kw := fun j hj => by simp only [Upd.fp, List.mem_append]; exact .inl hj
  sw := fun p hp => by simp only [Upd.fp, List.mem_append, List.mem_map]; exact .inr ⟨p, hp, rfl⟩
theorem set_same (τ : St) (d : Nat) (v : AV) (h : τ.tm d = v) : τ.set d v = τ := by
  have : (fun t => bif Nat.beq t d then v else τ.tm t) = τ.tm := by
    funext t
    cases e : Nat.beq t d
    · rfl
    · rw [Nat.eq_of_beq_eq_true e, h]; rfl
  unfold St.set
  rw [this]
theorem step_goes {C : Cfg} {inl : Inl α} (hi : InlLin inl) {base : Nat} {all : List Oper} {o : Oper} {k : St → Fp → Option α} (i : Nat) (h : stepC C inl base all o σ k = some r) :
    ∃ x : Rec, x.i = i ∧ x.o = o ∧ x.Wf ∧ k (x.app σ) x.f = some r ∧ Goes C inl base all x σ := by
  unfold stepC at h
  split at h
  · rename_i hg
    obtain ⟨u, t, a, h1, h2⟩ := operC_goes hi h
    refine ⟨⟨i, o, u, u.fp t a⟩, rfl, rfl, fp_wf _ _ _ _ _, h1, fun τ k' e1 e2 => ?_⟩
    unfold stepC
    simp only [hg]
    exact h2 τ k' (fun s hs => e1 s (by simp only [looks, List.mem_append, List.mem_filterMap]; exact .inl ⟨_, hs, rfl⟩)) e2
  · rename_i j want hg
    split at h
    · cases h
    · rename_i d hd
      split at h
      · rename_i b hb
        have hset := set_same σ d (.bool b) hb
        have hlk : d ∈ looks all o := by simp [looks, hg, hd]
        have run : operC C inl base o σ k = some r → b = want → ∃ x : Rec, x.i = i ∧ x.o = o ∧ x.Wf ∧ k (x.app σ) x.f = some r ∧ Goes C inl base all x σ := by
          intro h hw
          obtain ⟨u, t, a, h1, h2⟩ := operC_goes hi h
          refine ⟨⟨i, o, u, u.fp t a⟩, rfl, rfl, fp_wf _ _ _ _ _, h1, fun τ k' e1 e2 => ?_⟩
          have hτ : τ.tm d = .bool b := (e1 d hlk).trans hb
          have hset' := set_same τ d (.bool b) hτ
          unfold stepC
          simp only [hg, hd, hτ]
          have := h2 τ k' (fun s hs => e1 s (by simp only [looks, List.mem_append, List.mem_filterMap]; exact .inl ⟨_, hs, rfl⟩)) e2
          subst hw
          cases b <;> simp only [cond_true, cond_false, hset'] <;> exact this
        have skp : k (σ.put o.dst (.tup [])) ⟨[], [], [], []⟩ = some r → b ≠ want → ∃ x : Rec, x.i = i ∧ x.o = o ∧ x.Wf ∧ k (x.app σ) x.f = some r ∧ Goes C inl base all x σ := by
          intro h hw
          refine ⟨⟨i, o, { v := .tup [] }, ⟨[], [], [], []⟩⟩, rfl, rfl, ⟨fun _ h => h, fun _ h => absurd h (by simp), rfl, fun _ h => absurd h (by simp), fun _ h => absurd h (by simp)⟩, h, fun τ k' e1 e2 => ?_⟩
          have hτ : τ.tm d = .bool b := (e1 d hlk).trans hb
          have hset' := set_same τ d (.bool b) hτ
          unfold stepC
          simp only [hg, hd, hτ]
          cases b <;> cases want <;> simp only [cond_true, cond_false, hset'] <;> first | exact absurd rfl hw | rfl
        cases b <;> cases want <;> simp only [cond_true, cond_false, hset] at h
        · exact run h rfl
        · exact skp h (by simp)
        · exact skp h (by simp)
        · exact run h rfl
      · rename_i hb
        have hset := set_same σ d (.tup []) hb
        have hlk : d ∈ looks all o := by simp [looks, hg, hd]
        rw [hset] at h
        refine ⟨⟨i, o, { v := .tup [] }, ⟨[], [], [], []⟩⟩, rfl, rfl, ⟨fun _ h => h, fun _ h => absurd h (by simp), rfl, fun _ h => absurd h (by simp), fun _ h => absurd h (by simp)⟩, h, fun τ k' e1 e2 => ?_⟩
        have hτ : τ.tm d = .tup [] := (e1 d hlk).trans hb
        have hset' := set_same τ d (.tup []) hτ
        unfold stepC
        simp only [hg, hd, hτ]
        rw [hset']
        rfl
      · cases h
theorem ops_recs {C : Cfg} {inl : Inl α} (hi : InlLin inl) {base : Nat} {all : List Oper} : ∀ (rest : List Oper) (i : Nat) {σ : St} (fs : List (Nat × Fp)) (k : St → List (Nat × Fp) → Option α), opsC C inl base all i rest σ fs k = some r →
    ∃ (L : List Rec) (σ' : St), k σ' ((L.map fun x => (x.i, x.f)).reverse ++ fs) = some r ∧ Runs C inl base all σ L σ' ∧ (∀ x ∈ L, x.Wf) ∧ L.map (·.o) = rest ∧ L.map (·.i) = List.range' i rest.length
  | [], i, σ, fs, k, h => ⟨[], σ, h, Same.refl σ, by simp, rfl, rfl⟩
  | o :: rest, i, σ, fs, k, h => by
    unfold opsC at h
    obtain ⟨x, rfl, rfl, hw, hk, hg⟩ := step_goes hi i h
    obtain ⟨L, σ', k1, k2, k3, k4, k5⟩ := ops_recs hi rest (x.i + 1) _ k hk
    refine ⟨x :: L, σ', ?_, ⟨hg, k2⟩, ?_, by simp [k4], by simp [k5, List.range'_succ]⟩
    · simpa using k1
    · intro y hy
      rcases List.mem_cons.1 hy with rfl | hy
      · exact hw
      · exact k3 y hy
/-- What the bit sets are checked for. -/
def BitsP (ops : Array Oper) (bs : List Nat) : Prop := ∀ i o, ops[i]? = some o → (∀ e ∈ o.after.toList, Region.binds .any e = true → e.on < i) ∧
  ∀ j, j < i → Nat.testBit (bs.getD i 0) j = true → ∃ e ∈ o.after.toList, Region.binds .any e = true ∧ (e.on = j ∨ (j < e.on ∧ Nat.testBit (bs.getD e.on 0) j = true))
theorem bitsOk_spec {bs : List Nat} : ∀ {l : List Oper} {i : Nat}, bitsOk bs i l = true → ∀ m o, l[m]? = some o → (∀ e ∈ o.after.toList, Region.binds .any e = true → e.on < i + m) ∧
    ∀ j, j < i + m → Nat.testBit (bs.getD (i + m) 0) j = true → ∃ e ∈ o.after.toList, Region.binds .any e = true ∧ (e.on = j ∨ (j < e.on ∧ Nat.testBit (bs.getD e.on 0) j = true))
  | [], i, h, m, o, hm => by simp at hm
  | x :: l, i, h, m, o, hm => by
    unfold bitsOk at h
    simp only [Bool.and_eq_true, List.all_eq_true, Bool.or_eq_true, Bool.not_eq_true', List.any_eq_true, List.mem_range] at h
    obtain ⟨⟨h1, h2⟩, h3⟩ := h
    cases m with
    | zero =>
      simp only [List.getElem?_cons_zero, Option.some.injEq] at hm
      subst hm
      refine ⟨fun e he hb => ?_, fun j hj ht => ?_⟩
      · rcases h1 e he with h | h
        · rw [hb] at h; cases h
        · exact Nat.le_of_ble_eq_true h
      · rcases h2 j hj with h | ⟨e, he, hb, h⟩
        · rw [show bs.getD (i + 0) 0 = bs.getD i 0 from rfl, h] at ht; cases ht
        · refine ⟨e, he, hb, ?_⟩
          rcases h with h | ⟨h, h'⟩
          · exact .inl (Nat.eq_of_beq_eq_true h)
          · exact .inr ⟨Nat.le_of_ble_eq_true h, h'⟩
    | succ m =>
      simp only [List.getElem?_cons_succ] at hm
      have := bitsOk_spec h3 m o hm
      rw [show i + 1 + m = i + (m + 1) by omega] at this
      exact this
theorem meets_false {a b : List Nat} (h : meets a b = false) : ∀ i ∈ a, i ∉ b := by
  intro i hi hb
  have : meets a b = true := List.any_eq_true.2 ⟨i, hi, any_beq.2 hb⟩
  rw [h] at this; cases this
theorem light_spec {base : Nat} {all : List Oper} {o : Oper} {f : Fp} (ho : o ∈ all) (h : light base o f = true) : ∀ i ∈ f.z, i ∈ newNames base all := by
  intro i hi
  have := List.all_eq_true.1 h i hi
  simp only [Bool.and_eq_true] at this
  exact List.mem_flatMap.2 ⟨o, ho, List.mem_range'_1.2 ⟨Nat.le_of_ble_eq_true this.1, Nat.le_of_ble_eq_true this.2⟩⟩
theorem pairOk_spec {all : List Oper} {bs : List Nat} {x y : Rec} (hx : all[x.i]? = some x.o) (hy : all[y.i]? = some y.o) (h : pairOk all bs x.i x.f y.i y.f = true) : PairP all (moves all.length bs) bs x y := by
  unfold pairOk at h
  simp only [Bool.and_eq_true, Bool.not_eq_true', Bool.or_eq_true, hx, hy] at h
  refine ⟨fun hN => ?_, ?_⟩
  · rcases h.1 with h1 | h1
    · rw [hN] at h1; cases h1
    · exact meets_false h1
  rcases h.2 with h2 | ⟨⟨⟨h2, h3⟩, h4⟩, h5⟩
  · exact .inl h2
  · right
    unfold Fp.apart at h2
    unfold tmpApart at h3
    simp only [Bool.and_eq_true, Bool.not_eq_true', List.all_eq_true, Option.mem_toList] at h2 h3
    refine ⟨meets_false h2.1.1.1.1, meets_false h2.1.1.1.2, meets_false h2.1.1.2, meets_false h2.1.2, meets_false h2.2, fun d hd => any_beq_false.1 (h3.1 d hd).1, fun d hd e => ?_, fun d hd => any_beq_false.1 (h3.2 d hd), h4, h5⟩
    have := any_beq_false.1 (h3.1 d hd).2
    rw [e] at this
    simp at this
theorem pairsOk_spec {all : List Oper} {bs : List Nat} : ∀ {l : List (Nat × Fp)}, pairsOk all bs l = true → l.Pairwise fun y x => pairOk all bs x.1 x.2 y.1 y.2 = true
  | [], _ => .nil
  | (j, f) :: l, h => by
    unfold pairsOk at h
    simp only [Bool.and_eq_true, List.all_eq_true] at h
    exact List.pairwise_cons.2 ⟨fun x hx => h.1 x hx, pairsOk_spec h.2⟩
end
end Go.Proofs.YtdbenenonfldkaaDoor.PE
