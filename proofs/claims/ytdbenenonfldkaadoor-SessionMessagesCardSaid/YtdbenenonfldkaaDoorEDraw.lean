/- A region that draws its order: each order comes to what the text's comes to. -/
import Derived.Test.YtdbenenonfldkaaDoorEStepS
import Derived.Test.YtdbenenonfldkaaDoorELin
namespace Go.Proofs.YtdbenenonfldkaaDoor.PE
set_option linter.unusedVariables false
open Go.RowKit
section
variable {α β : Type}
theorem Q.log_local {H H' : Nat → Option Ob} {x : β} {T' : List Nat} : ∀ (q : Q β) (T : List Nat), q.log H T = some (x, T') → (∀ i ∈ T', H' i = H i) → q.log H' T = some (x, T') ∧ ∀ i ∈ T, i ∈ T'
  | .ret a, T, h, hH => by
    simp only [Q.log, Option.some.injEq, Prod.mk.injEq] at h
    obtain ⟨rfl, rfl⟩ := h
    exact ⟨rfl, fun i hi => hi⟩
  | .fail, _, h, _ => by cases h
  | .ask id g, T, h, hH => by
    simp only [Q.log] at h ⊢
    have h1 := Q.log_local (H := H) (H' := H) (g (H id)) (id :: T) h fun _ _ => rfl
    have hid := h1.2 id (by simp)
    rw [hH id hid]
    have h2 := Q.log_local (H := H) (H' := H') (g (H id)) (id :: T) h hH
    exact ⟨h2.1, fun i hi => h2.2 i (by simp [hi])⟩
  | .br c a b, T, h, hH => by
    cases c
    · exact Q.log_local b T h hH
    · exact Q.log_local a T h hH
  | .opt _ o g, T, h, hH => by
    cases o with
    | none => cases h
    | some y => exact Q.log_local (g y) T h hH
theorem opnd_congr {σ τ : St} {xs : List Operand} (h : ∀ t, Operand.tmp t ∈ xs → τ.tm t = σ.tm t) : ∀ x ∈ xs, opnd τ x = opnd σ x := by
  intro x hx
  cases x with
  | tmp t => exact h t hx
  | _ => rfl
theorem opQ_congr {P : Program} {nid : Nat} {ρ ρ' : Operand → AV} : ∀ (o : Op), (∀ c, o ≠ .call c) → (∀ x ∈ o.operands.toList, ρ x = ρ' x) → opQ P nid ρ o = opQ P nid ρ' o := by
  intro o hc h
  have pairs : ∀ ps : Array (Nat × Operand), (∀ x ∈ ps.toList.map (·.2), ρ x = ρ' x) → (ps.toList.map fun p => (p.1, ρ p.2)) = ps.toList.map fun p => (p.1, ρ' p.2) := fun ps hp =>
    List.map_congr_left fun p hm => by rw [hp p.2 (List.mem_map.2 ⟨p, hm, rfl⟩)]
  cases o <;> simp only [Op.operands, Array.toList_map] at h
  case call c => exact absurd rfl (hc c)
  case build t ps => simp only [opQ, pairs ps h]
  case buildSlice t n ps => simp only [opQ, pairs ps h]
  case makeFunc fn first captured =>
    have e : captured.toList.map ρ = captured.toList.map ρ' := List.map_congr_left fun x hx => h x (by simp [hx])
    unfold opQ
    split <;> simp_all
  case slice t x lo hi mx => cases lo <;> cases hi <;> cases mx <;> simp_all [opQ]
  all_goals (first | rfl | (simp_all [opQ]; done))
theorem quietC_goes {q : Q Upd} {refs : List Nat} {o : Oper} {σ : St} {k : St → Fp → Option α} {r : α} (h : quietC q refs o σ k = some r) :
    ∃ (u : Upd) (t a : List Nat), k (u.app σ o.dst) (u.fp t a) = some r ∧ ∀ (τ : St) (k' : St → Fp → Option α), (∀ i ∈ a, τ.ob i = σ.ob i) → quietC q refs o τ k' = k' (u.app τ o.dst) (u.fp t a) := by
  unfold quietC at h
  rw [Q.cps_eq] at h
  obtain ⟨⟨u, T⟩, hl, hk⟩ := Option.bind_eq_some_iff.1 h
  refine ⟨u, refs, T, hk, fun τ k' hτ => ?_⟩
  unfold quietC
  rw [Q.cps_eq, (Q.log_local q [] hl fun i hi => hτ i hi).1]
  rfl
theorem operC_other {C : Cfg} {inl : Inl α} {base : Nat} {o : Oper} (h : ∀ c, o.op ≠ .call c) (τ : St) (k : St → Fp → Option α) :
    operC C inl base o τ k = quietC (opQ C.P (idOf base o) (opnd τ) o.op) (AV.refsAll (o.op.operands.toList.map (opnd τ))) o τ k := by
  unfold operC
  split
  · rename_i c hc
    exact absurd hc (h c)
  · rfl
theorem operC_goes {C : Cfg} {inl : Inl α} (hi : InlLin inl) {base : Nat} {o : Oper} {σ : St} {k : St → Fp → Option α} {r : α} (h : operC C inl base o σ k = some r) :
    ∃ (u : Upd) (t a : List Nat), k (u.app σ o.dst) (u.fp t a) = some r ∧ ∀ (τ : St) (k' : St → Fp → Option α), (∀ t, Operand.tmp t ∈ o.op.operands.toList → τ.tm t = σ.tm t) → (∀ i ∈ a, τ.ob i = σ.ob i) → operC C inl base o τ k' = k' (u.app τ o.dst) (u.fp t a) := by
  by_cases hc : ∃ c, o.op = .call c
  · obtain ⟨c, hc⟩ := hc
    have hopn : ∀ τ : St, (∀ t, Operand.tmp t ∈ o.op.operands.toList → τ.tm t = σ.tm t) → (c.args.toList.map (opnd τ) = c.args.toList.map (opnd σ)) ∧ ∀ f, c.callee = .value f → opnd τ f = opnd σ f := by
      intro τ hτ
      have h1 := opnd_congr hτ
      rw [hc] at h1
      refine ⟨List.map_congr_left fun x hx => h1 x ?_, fun f hf => h1 f ?_⟩
      · simp only [Op.operands, Call.operands]
        split <;> simp [hx]
      · simp [Op.operands, Call.operands, hf]
    have hun : ∀ (τ : St) (k : St → Fp → Option α), operC C inl base o τ k = (match c.callee with
      | .value f => (match calleeOf (opnd τ f) with
        | some (g, first, caps) => (match C.sig g with
          | some s => quietC (callQ s (idOf base o) (first ++ c.args.toList.map (opnd τ) ++ caps)) (AV.refsAll (first ++ c.args.toList.map (opnd τ) ++ caps)) o τ k
          | none => (reachQ 4 (AV.refsAll (first ++ c.args.toList.map (opnd τ) ++ caps)) []).cps τ.ob [] fun ids T => inl g base (first ++ c.args.toList.map (opnd τ) ++ caps) (fun i => bif ids.any (Nat.beq i) then τ.ob i else none) fun v ob kl =>
            let x := inlUpd (idOf base o) ids v ob kl
            bif x.1.all (fun p => isRow (ob p.1) && !(ids.any (Nat.beq p.2))) then k (x.2.app τ o.dst) (x.2.fp [] (ids ++ T)) else none)
        | none => none)
      | .builtin b => quietC (builtinQ C.P C.mv (idOf base o) b c.argTypes.toList (c.args.toList.map (opnd τ))) (AV.refsAll (c.args.toList.map (opnd τ))) o τ k
      | _ => none) := by
      intro τ k
      unfold operC
      rw [hc]
      rfl
    rw [hun] at h
    split at h
    · rename_i f hf
      split at h
      · rename_i g first caps hfo
        split at h
        · rename_i s hs
          obtain ⟨u, t, a, h1, h2⟩ := quietC_goes h
          refine ⟨u, t, a, h1, fun τ k' hτ hob => ?_⟩
          rw [hun, hf]
          simp only [(hopn τ hτ).2 f hf, hfo, hs, (hopn τ hτ).1]
          exact h2 τ k' hob
        · rename_i hs
          rw [Q.cps_eq] at h
          obtain ⟨⟨ids, T⟩, hl, hk⟩ := Option.bind_eq_some_iff.1 h
          rcases hi g base (first ++ c.args.toList.map (opnd σ) ++ caps) (fun i => bif ids.any (Nat.beq i) then σ.ob i else none) with ⟨v, ob, kl, hv⟩ | hv
          · simp only [hv] at hk
            cases hb : (inlUpd (idOf base o) ids v ob kl).1.all (fun p => isRow (ob p.1) && !(ids.any (Nat.beq p.2))) with
            | false => rw [hb] at hk; cases hk
            | true =>
              rw [hb] at hk
              refine ⟨(inlUpd (idOf base o) ids v ob kl).2, [], ids ++ T, hk, fun τ k' hτ hob => ?_⟩
              rw [hun, hf]
              simp only [(hopn τ hτ).2 f hf, hfo, hs, (hopn τ hτ).1]
              rw [Q.cps_eq, (Q.log_local _ [] hl fun i hi => hob i (by simp [hi])).1]
              have e : (fun i => bif ids.any (Nat.beq i) then τ.ob i else none) = fun i => bif ids.any (Nat.beq i) then σ.ob i else none := by
                funext i
                cases hm : ids.any (Nat.beq i) with
                | false => rfl
                | true => exact hob i (by simp [any_beq.1 hm])
              simp only [Option.bind_some, e, hv, hb]
              rfl
          · simp only [hv] at hk; cases hk
      · cases h
    · rename_i b hb
      obtain ⟨u, t, a, h1, h2⟩ := quietC_goes h
      refine ⟨u, t, a, h1, fun τ k' hτ hob => ?_⟩
      rw [hun, hb]
      simp only [(hopn τ hτ).1]
      exact h2 τ k' hob
    · cases h
  · have hc' : ∀ c, o.op ≠ .call c := fun c e => hc ⟨c, e⟩
    rw [operC_other hc'] at h
    obtain ⟨u, t, a, h1, h2⟩ := quietC_goes h
    refine ⟨u, t, a, h1, fun τ k' hτ hob => ?_⟩
    rw [operC_other hc', opQ_congr o.op hc' (opnd_congr hτ), List.map_congr_left (opnd_congr hτ)]
    exact h2 τ k' hob
end
end Go.Proofs.YtdbenenonfldkaaDoor.PE
