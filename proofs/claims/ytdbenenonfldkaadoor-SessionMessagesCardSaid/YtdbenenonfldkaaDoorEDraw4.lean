/- Each order of a region comes to what the text's comes to. -/
import Derived.Test.YtdbenenonfldkaaDoorEDraw3
namespace Go.Proofs.YtdbenenonfldkaaDoor.PE
set_option linter.unusedVariables false
open Go.RowKit
section
variable {α : Type} {r : α} {P : Program} {w0 w w' : World} {F0 F F' : Nat → Prop} {g0 g g' : Nat → Loc} {ob0 : Nat → Option Ob} {mine : Nat → Prop} {n : Nat} {σ σ' : St} {a : Act}
theorem mem_ready {md : Region.Mode} {ops : Array Oper} {listed : Array Bool} {i : Nat} : i ∈ Region.ready md ops listed ↔ i < ops.size ∧ listed.getD i true = false ∧ ∃ o, ops[i]? = some o ∧ ∀ e ∈ o.after.toList, Region.binds md e = true → listed.getD e.on false = true := by
  unfold Region.ready
  simp only [List.mem_filter, List.mem_range, Bool.and_eq_true, Bool.not_eq_true']
  constructor
  · rintro ⟨h1, h2, h3⟩
    refine ⟨h1, h2, ?_⟩
    cases ho : ops[i]? with
    | none => rw [ho] at h3; simp at h3
    | some o =>
      rw [ho] at h3
      refine ⟨o, rfl, fun e he hb => ?_⟩
      simp only [Option.map_some, Option.getD_some] at h3
      have h3' := Array.all_eq_true'.1 h3 e (Array.mem_toList_iff.1 he)
      simp only [Bool.or_eq_true, Bool.not_eq_true'] at h3'
      rcases h3' with h | h
      · rw [hb] at h; cases h
      · exact h
  · rintro ⟨h1, h2, o, ho, h3⟩
    refine ⟨h1, h2, ?_⟩
    rw [ho]
    simp only [Option.map_some, Option.getD_some]
    refine Array.all_eq_true'.2 fun e he => ?_
    cases hb : Region.binds md e with
    | false => rfl
    | true => simp only [Bool.not_true, Bool.false_or]; exact h3 e (Array.mem_toList_iff.2 he) hb
theorem getD_both {listed : Array Bool} {i : Nat} (h : i < listed.size) : listed.getD i false = listed.getD i true := by
  simp [Array.getD_eq_getD_getElem?, Array.getElem?_eq_getElem h]
theorem getD_set {listed : Array Bool} {i j : Nat} (h : i < listed.size) : (listed.setIfInBounds i true).getD j true = if j = i then true else listed.getD j true := by
  simp only [Array.getD_eq_getD_getElem?]
  by_cases e : j = i
  · subst e
    rw [if_pos rfl, Array.getElem?_setIfInBounds_self_of_lt h]
    rfl
  · rw [if_neg e, Array.getElem?_setIfInBounds_ne fun e' => e e'.symm]
/-- What is left to do, and what was done. -/
structure Left (ops : Array Oper) (bs : List Nat) (listed : Array Bool) (L : List Rec) : Prop where
  size : listed.size = ops.size
  left : ∀ i, i < ops.size → (listed.getD i true = false ↔ ∃ x ∈ L, x.i = i)
  op : ∀ x ∈ L, ops[x.i]? = some x.o
  up : L.Pairwise fun x y => x.i < y.i
  closed : ∀ i, i < ops.size → listed.getD i true = true → ∀ j, j < i → Nat.testBit (bs.getD i 0) j = true → listed.getD j true = true
theorem Left.lt {ops : Array Oper} {bs : List Nat} {listed : Array Bool} {L : List Rec} (h : Left ops bs listed L) {x : Rec} (hx : x ∈ L) : x.i < ops.size := by
  have := h.op x hx
  rcases Nat.lt_or_ge x.i ops.size with h' | h'
  · exact h'
  · rw [Array.getElem?_eq_none h'] at this; cases this
theorem Left.nil {ops : Array Oper} {bs : List Nat} {listed : Array Bool} (h : Left ops bs listed []) : Region.ready .any ops listed = [] := by
  refine List.eq_nil_iff_forall_not_mem.2 fun i hi => ?_
  obtain ⟨h1, h2, _⟩ := mem_ready.1 hi
  obtain ⟨x, hx, _⟩ := (h.left i h1).1 h2
  cases hx
theorem draw_go [KnownC w0 F0] {C : Cfg} {inl : Inl α} (hsig : SigsOk C) (hinl : InlOk C.P inl r) {base : Nat} {ops : Array Oper} {N : Nat → Bool} {bs : List Nat} (hb : BitsP ops bs) {Qp : Exit → Act → World → Prop} (hd : ∀ o ∈ ops.toList, ∀ e, o.dst = some e → e < n)
    (hQ : ∀ w' F' g' a', Inv w0 F0 g0 ob0 mine n w' F' g' σ' a' → Qp .normal a' w') : ∀ (fuel : Nat) (L : List Rec) (listed : Array Bool) {w : World} {F : Nat → Prop} {g : Nat → Loc} {σ : St} {a : Act}, L.length ≤ fuel → Left ops bs listed L →
      Inv w0 F0 g0 ob0 mine n w F g σ a → Runs C inl base ops.toList σ L σ' → Fine ops.toList N bs σ L → wpAny C.P .any ops Qp fuel listed a w
  | 0, L, listed, w, F, g, σ, a, hlen, hl, hi, hr, hf => by
    cases L with
    | nil => exact ⟨hl.nil, hQ _ _ _ _ (hi.same hr)⟩
    | cons x L => simp at hlen
  | fuel + 1, L, listed, w, F, g, σ, a, hlen, hl, hi, hr, hf => by
    refine ⟨fun hnil => ?_, fun i hmem => ?_⟩
    · cases L with
      | nil => exact hQ _ _ _ _ (hi.same hr)
      | cons x L =>
        have hx : x ∈ x :: L := by simp
        have hlt := hl.lt hx
        have : x.i ∈ Region.ready .any ops listed := by
          refine mem_ready.2 ⟨hlt, (hl.left x.i hlt).2 ⟨x, hx, rfl⟩, x.o, hl.op x hx, fun e he hbd => ?_⟩
          have hlt' := (hb x.i x.o (hl.op x hx)).1 e he hbd
          rw [getD_both (by rw [hl.size]; omega)]
          cases hc : listed.getD e.on true with
          | true => rfl
          | false =>
            obtain ⟨y, hy, he'⟩ := (hl.left e.on (by omega)).1 hc
            rcases List.mem_cons.1 hy with rfl | hy
            · omega
            · have := (List.pairwise_cons.1 hl.up).1 y hy
              omega
        rw [hnil] at this
        cases this
    · obtain ⟨h1, h2, o, ho, h3⟩ := mem_ready.1 hmem
      obtain ⟨y, hy, rfl⟩ := (hl.left i h1).1 h2
      have hop := hl.op y hy
      obtain ⟨L1, L2, rfl⟩ := List.append_of_mem hy
      have hup := List.pairwise_append.1 hl.up
      have hdone : ∀ j, j < y.i → Nat.testBit (bs.getD y.i 0) j = true → listed.getD j true = true := by
        intro j hj ht
        obtain ⟨e, he, hbd, h⟩ := (hb y.i y.o hop).2 j hj ht
        have hlt' := (hb y.i y.o hop).1 e he hbd
        rw [hop] at ho
        have hdone := h3 e (by cases ho; exact he) hbd
        rw [getD_both (by rw [hl.size]; omega)] at hdone
        rcases h with rfl | ⟨h, h'⟩
        · exact hdone
        · exact hl.closed e.on (by omega) hdone j h h'
      obtain ⟨g1, g2, g3⟩ := pull L1 hr hf fun x hx => by
        cases ht : Nat.testBit (bs.getD y.i 0) x.i with
        | false => rfl
        | true =>
          have := hdone x.i (hup.2.2 x hx y (by simp)) ht
          rw [(hl.left x.i (hl.lt (by simp [hx]))).2 ⟨x, by simp [hx], rfl⟩] at this
          cases this
      have hleft : Left ops bs (listed.setIfInBounds y.i true) (L1 ++ L2) := by
        have hsz : y.i < listed.size := by rw [hl.size]; exact h1
        refine ⟨by simp [hl.size], fun j hj => ?_, fun x hx => hl.op x (by simp at hx ⊢; rcases hx with h | h <;> simp [h]), ?_, fun j hj hlj m hm ht => ?_⟩
        · rw [getD_set hsz]
          by_cases e : j = y.i
          · subst e
            rw [if_pos rfl]
            constructor
            · intro h; cases h
            · rintro ⟨x, hx, he⟩
              rcases List.mem_append.1 hx with h | h
              · have := hup.2.2 x h y (by simp); omega
              · have := (List.pairwise_cons.1 hup.2.1).1 x h; omega
          · rw [if_neg e, hl.left j hj]
            constructor
            · rintro ⟨x, hx, he⟩
              refine ⟨x, ?_, he⟩
              simp only [List.mem_append, List.mem_cons] at hx ⊢
              rcases hx with h | rfl | h
              · exact .inl h
              · exact absurd he.symm e
              · exact .inr h
            · rintro ⟨x, hx, he⟩
              exact ⟨x, by simp at hx ⊢; rcases hx with h | h <;> simp [h], he⟩
        · exact List.pairwise_append.2 ⟨hup.1, (List.pairwise_cons.1 hup.2.1).2, fun a ha b hb' => hup.2.2 a ha b (by simp [hb'])⟩
        · rw [getD_set hsz] at hlj ⊢
          by_cases e : m = y.i
          · rw [if_pos e]
          · rw [if_neg e]
            by_cases e' : j = y.i
            · subst e'
              exact hdone m hm ht
            · rw [if_neg e'] at hlj
              exact hl.closed j hj hlj m hm ht
      have hstep : stepC C inl base ops.toList y.o σ (fun s _ => open Classical in if s = y.app σ then some r else none) = some r := by
        rw [g1 σ _ (fun _ _ => rfl) fun _ _ => rfl]
        simp
      have hK := step_sound (Qp := Qp) (K := wpAny C.P .any ops Qp fuel (listed.setIfInBounds y.i true)) hsig hinl (ops := ops) rfl hi (hd y.o (List.mem_of_getElem? (by rw [Array.getElem?_toList]; exact hop))) hstep fun s fp w2 F2 g2' a2 hk hi2 => by
        have : s = y.app σ := by
          by_cases e : s = y.app σ
          · exact e
          · rw [if_neg e] at hk; cases hk
        subst this
        exact draw_go hsig hinl hb hd hQ fuel (L1 ++ L2) _ (by simp at hlen ⊢; omega) hleft hi2 g2 g3
      unfold wpOp
      simp only [hop]
      split
      · rename_i hw
        rw [if_pos hw] at hK
        exact .inl hK
      · rename_i hw
        rw [if_neg hw] at hK
        exact hK
/-- A region that draws its order. -/
theorem draw_sound [KnownC w0 F0] {C : Cfg} {inl : Inl α} (hsig : SigsOk C) (hinl : InlOk C.P inl r) (hlin : InlLin inl) {base id : Nat} {ops : Array Oper} {Qp : Exit → Act → World → Prop} (h : Inv w0 F0 g0 ob0 mine n w F g σ a) (hd : ∀ o ∈ ops.toList, ∀ e, o.dst = some e → e < n) {k : Kt α}
    (hq : (opsC C inl base ops.toList 0 ops.toList (σ.kill (newNames base ops.toList)) [] fun σ' fs => bif drawOk C.P base ops fs then k .normal σ' else none) = some r)
    (hQ : ∀ σ' w' F' g' a', k .normal σ' = some r → Inv w0 F0 g0 ob0 mine n w' F' g' σ' a' → Qp .normal a' w') : (Code.region id ops true).wp C.P Qp a w := by
  obtain ⟨L, σ', k1, k2, k3, k4, k5⟩ := ops_recs hlin _ _ _ _ hq
  cases hok : drawOk C.P base ops ((L.map fun x => (x.i, x.f)).reverse ++ []) with
  | false => rw [hok] at k1; cases k1
  | true =>
    rw [hok] at k1
    have hk : k .normal σ' = some r := k1
    unfold drawOk at hok
    simp only [Bool.and_eq_true, List.append_nil] at hok
    obtain ⟨⟨⟨hm, hbits⟩, hpairs⟩, hlights⟩ := hok
    have hidx : ∀ (m : Nat) (x : Rec), L[m]? = some x → x.i = m := by
      intro m x hx
      have h1 : (L.map (·.i))[m]? = some x.i := by rw [List.getElem?_map, hx]; rfl
      rw [k5, List.getElem?_range'] at h1
      · simpa using h1.symm
      · rw [← k4]
        rcases Nat.lt_or_ge m L.length with h' | h'
        · simpa using h'
        · rw [List.getElem?_eq_none h'] at hx; cases hx
    have hops : ∀ x ∈ L, ops.toList[x.i]? = some x.o := by
      intro x hx
      obtain ⟨m, hm⟩ := List.mem_iff_getElem?.1 hx
      rw [hidx m x hm, ← k4, List.getElem?_map, hm]
      rfl
    have hlight : ∀ x ∈ L, moves ops.toList.length (Region.before ops).toList x.i = true → ∀ i ∈ x.f.z, i ∈ newNames base ops.toList := by
      intro x hx hN
      have := List.all_eq_true.1 hlights (x.i, x.f) (by simp only [List.mem_reverse, List.mem_map]; exact ⟨x, hx, rfl⟩)
      simp only [hN, Bool.not_true, Bool.false_or, hops x hx] at this
      exact light_spec (List.mem_of_getElem? (hops x hx)) this
    have hall : L.length = ops.size := by
      have := congrArg List.length k4
      simpa using this
    refine wp_region_any hm (draw_go hsig hinl (N := moves ops.toList.length (Region.before ops).toList) (bs := (Region.before ops).toList) (fun i o ho => ?_) hd (fun w' F' g' a' hi => hQ σ' w' F' g' a' hk hi) ops.size L _ (by omega) ⟨by simp, fun i hi => ?_, fun x hx => by rw [← Array.getElem?_toList]; exact hops x hx, ?_, fun i hi hl => ?_⟩ (h.kill _).drew k2 ⟨k3, fun x hx hN => (kill_clean σ _).mono (hlight x hx hN), ?_⟩)
    · have := bitsOk_spec hbits i o (by rw [Array.getElem?_toList]; exact ho)
      simpa using this
    · refine ⟨fun _ => ?_, fun _ => by simp [Array.getD_eq_getD_getElem?, hi]⟩
      have hx : i < L.length := by omega
      exact ⟨L[i], List.getElem_mem hx, hidx i L[i] (List.getElem?_eq_getElem hx)⟩
    · refine List.pairwise_iff_getElem.2 fun i j hi hj hij => ?_
      rw [hidx i L[i] (List.getElem?_eq_getElem hi), hidx j L[j] (List.getElem?_eq_getElem hj)]
      exact hij
    · simp [Array.getD_eq_getD_getElem?, hi] at hl
    · have hp := pairsOk_spec hpairs
      rw [List.pairwise_reverse, List.pairwise_map] at hp
      refine hp.imp_of_mem fun {x y} hx hy hxy => pairOk_spec (hops x hx) (hops y hy) hxy
end
end Go.Proofs.YtdbenenonfldkaaDoor.PE
