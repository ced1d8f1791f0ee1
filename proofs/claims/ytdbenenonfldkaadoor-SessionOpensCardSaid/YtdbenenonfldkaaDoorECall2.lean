/- Calls by contract: the call itself. -/
import Derived.Test.YtdbenenonfldkaaDoorECall
import Derived.Test.YtdbenenonfldkaaDoorEKnown
namespace Go.Proofs.YtdbenenonfldkaaDoor.PE
set_option linter.unusedVariables false
open Go.RowKit
variable {P : Program} {w w' : World} {F F' : Nat → Prop} {g g' g1 : Nat → Loc} {mine : Nat → Prop} {σ : St} {a : Act} {ob1 : Nat → Option Ob}
/-- Values that read as these data; the rows among them are the reader's own. -/
structure Hand (w : World) (F : Nat → Prop) (g : Nat → Loc) (mine : Nat → Prop) (n : Nat) (ms : List Mode) (dvs : List DV) (vals : List Value) : Prop where
  vals : RAll w F g (setOb noOb (avVals n ms dvs).2) (avVals n ms dvs).1 vals
  ob : ∀ id o, setOb noOb (avVals n ms dvs).2 id = some o → ORel w F g (setOb noOb (avVals n ms dvs).2) mine id o
  uniq : ∀ i j o p b, setOb noOb (avVals n ms dvs).2 i = some o → setOb noOb (avVals n ms dvs).2 j = some p → o.own → p.own → (g i).blk = some b → (g j).blk = some b → i = j
theorem sets_at {ob : Nat → Option Ob} : ∀ {s : List (Nat × Option Ob)} {n : Nat} {x : List (Option Nat × Nat)}, SetsOk ob n s x → ∀ (f : Nat → Option Ob) (i : Nat),
    (i < n ∨ n + x.length ≤ i) ∧ setOb f s i = f i ∨ ∃ j q o, i = n + j ∧ x[j]? = some q ∧ setOb f s i = some o ∧ GivenOk ob q o ∧ s[j]? = some (i, some o)
  | [], n, x, h, f, i => by
    rw [show x = [] from h]
    exact .inl ⟨by simp; omega, rfl⟩
  | p :: r, n, _, h, f, i => by
    obtain ⟨q, s, o, rfl, rfl, h2, h3⟩ := h
    by_cases e : i = n
    · subst e
      right
      refine ⟨0, q, o, rfl, rfl, ?_, h2, rfl⟩
      rcases sets_at h3 (fun j => bif Nat.beq j i then some o else f j) i with ⟨_, k⟩ | ⟨j, _, _, e1, _⟩
      · show setOb _ r i = _
        rw [k]; simp [Nat.beq_refl]
      · omega
    · rcases sets_at h3 (fun j => bif Nat.beq j n then some o else f j) i with ⟨k0, k⟩ | ⟨j, q', o', e1, e2, e3, e4, e5⟩
      · left
        refine ⟨by simp only [List.length_cons]; omega, ?_⟩
        show setOb _ r i = _
        rw [k]
        cases hb : Nat.beq i n
        · rfl
        · exact absurd (Nat.eq_of_beq_eq_true hb) e
      · right
        exact ⟨j + 1, q', o', by omega, by simpa using e2, e3, e4, by simpa using e5⟩
theorem distinct_get : ∀ {l : List Nat}, distinct l = true → ∀ {i j : Nat} {x : Nat}, l[i]? = some x → l[j]? = some x → i = j
  | [], _, i, j, x, h, _ => by simp at h
  | y :: r, h, i, j, x, hi, hj => by
    simp only [distinct, Bool.and_eq_true] at h
    have hn : y ∉ r := by
      have := h.1
      simp only [Bool.not_eq_true'] at this
      exact any_beq_false.1 this
    cases i <;> cases j
    · rfl
    · simp at hi hj; subst hi; exact absurd (List.mem_of_getElem? hj) hn
    · simp at hi hj; subst hj; exact absurd (List.mem_of_getElem? hi) hn
    · rename_i i j
      simp at hi hj
      rw [distinct_get h.2 hi hj]
theorem filterMap_get : ∀ {l : List (Option Nat × Nat)} {i j : Nat} {x s t : Nat}, distinct (l.filterMap (·.1)) = true → l[i]? = some (some x, s) → l[j]? = some (some x, t) → i = j
  | [], i, j, x, s, t, _, h, _ => by simp at h
  | (none, u) :: r, i, j, x, s, t, hd, hi, hj => by
    cases i <;> cases j <;> simp at hi hj ⊢
    exact filterMap_get (by simpa using hd) hi hj
  | (some y, u) :: r, i, j, x, s, t, hd, hi, hj => by
    have hd' : distinct (y :: r.filterMap (·.1)) = true := by simpa using hd
    simp only [distinct, Bool.and_eq_true] at hd'
    have hn : y ∉ r.filterMap (·.1) := by
      have := hd'.1
      simp only [Bool.not_eq_true'] at this
      exact any_beq_false.1 this
    have mem : ∀ {k : Nat} {v : Nat}, r[k]? = some (some y, v) → False := fun hk => hn (List.mem_filterMap.2 ⟨_, List.mem_of_getElem? hk, rfl⟩)
    cases i <;> cases j
    · rfl
    · simp at hi hj; obtain ⟨rfl, rfl⟩ := hi; exact (mem hj).elim
    · simp at hi hj; obtain ⟨rfl, rfl⟩ := hj; exact (mem hi).elim
    · simp at hi hj
      rw [filterMap_get hd'.2 hi hj]
/-- What a callee may write: what it was handed, and what is new. -/
def mineOf (w : World) (g : Nat → Loc) (gone : List Nat) : Nat → Prop := fun b => (∃ id ∈ gone, (g id).blk = some b) ∨ w.heap.size ≤ b
theorem hand_of (h : Rel w F g mine σ a) {vs : List AV} {ms : List Mode} {xs : List Value} {G : Given} (hr : RAll w F g σ.ob vs xs) (hq : (argsCells vs ms).val σ.ob = some G)
    (hd : distinct (G.given.filterMap (·.1)) = true) (hdis : ∀ id ∈ G.given.filterMap (·.1), id ∉ G.lent) (n : Nat) :
    (∀ id ∈ G.lent, ∃ o, σ.ob id = some o) ∧ ∃ g1, Hand w (Frz F g G.lent) g1 (mineOf w g (G.given.filterMap (·.1))) n ms G.dvs xs := by
  obtain ⟨sets, c, k1, k2, k3, k4⟩ := argsCells_sound h hr hq (fun id hi => hi) n
  refine ⟨k2, ?_⟩
  obtain ⟨g1, hg1⟩ : ∃ g1 : Nat → Loc, ∀ j q, G.given[j]? = some q → g1 (n + j) = locOf g q :=
    ⟨fun i => match G.given[i - n]? with | some q => locOf g q | none => ⟨none, 0, 0⟩, fun j q hj => by simp [hj]⟩
  have notF : ∀ id e l cm b, id ∈ G.given.filterMap (·.1) → σ.ob id = some (.row e l cm false) → (g id).blk = some b → ¬ Frz F g G.lent b := by
    intro id e l cm b hid ho hb hF
    have hown := own_not_F h ho rfl hb
    rcases hF with hF | ⟨id', hid', hb'⟩
    · exact hown.1 hF
    · obtain ⟨o', ho'⟩ := k2 id' hid'
      cases o' with
      | cells cs => exact hdis id hid (by rw [h.uniq id id' _ _ b ho ho' rfl trivial hb hb']; exact hid')
      | row e' l' cm' frz' =>
      cases frz' with
      | false => exact hdis id hid (by rw [h.uniq id id' _ _ b ho ho' rfl rfl hb hb']; exact hid')
      | true =>
        obtain ⟨_, _, _, _, k5⟩ := h.ob _ _ ho'
        obtain ⟨_, _, _, _, _, _, q4, _⟩ := k5 b hb'
        exact hown.1 (q4 rfl)
  have memGone : ∀ j id sz, G.given[j]? = some (some id, sz) → id ∈ G.given.filterMap (·.1) := fun j id sz hj => List.mem_filterMap.2 ⟨_, List.mem_of_getElem? hj, rfl⟩
  refine ⟨g1, ?_, ?_, ?_⟩
  · rw [k3]
    refine k4 g1 _ hg1 fun p hp => ?_
    obtain ⟨j, hj⟩ := List.getElem?_of_mem hp
    obtain ⟨q, o, e1, e2, e3⟩ := k1.get hj
    rcases sets_at k1 noOb p.1 with ⟨e4, _⟩ | ⟨j', q', o', e4, e5, e6, e7, e8⟩
    · rw [e2] at e4
      have := (List.getElem?_eq_some_iff.mp e1).1
      simp only at e4; omega
    · rw [e2] at e4
      simp only at e4
      have : j' = j := by omega
      subst this
      rw [hj] at e8
      simp only [Option.some.injEq] at e8
      rw [e6, e8]
  · intro id o ho
    rw [k3] at ho ⊢
    rcases sets_at k1 noOb id with ⟨_, e⟩ | ⟨j, q, o', e1, e2, e3, e4, _⟩
    · rw [e] at ho; cases ho
    · rw [e3] at ho; cases ho
      have hloc := hg1 j q e2
      rw [← e1] at hloc
      cases e4 with
      | row id' e l cm n' h' hn' =>
        obtain ⟨q1, q2, q3, q4, q5⟩ := h.ob id' _ h'
        have hloc : g1 id = g id' := hloc
        refine ⟨by rw [hloc]; exact q1, by rw [hloc, List.length_take]; omega, by omega, by rw [hloc]; exact q4, fun b hb => ?_⟩
        rw [hloc] at hb ⊢
        obtain ⟨c', T, fr, r1, r2, r3, r4, r5, r6⟩ := q5 b hb
        refine ⟨c', T, fr, r1, r2, r3, (fun h => nomatch h), fun _ => ⟨.inl ⟨id', memGone j id' _ e2, hb⟩, notF id' e l cm b (memGone j id' _ e2) h' hb⟩, fun i x hx => ?_⟩
        have hi : i < n' := by
          have := (List.getElem?_eq_some_iff.mp hx).1
          rw [List.length_take] at this; omega
        rw [List.getElem?_take, if_pos hi] at hx
        exact (r6 i x hx).step (fun _ _ => rfl) (fun b hb => .inl hb)
      | nil e =>
        have hloc : g1 id = ⟨none, 0, e.cells⟩ := hloc
        exact ⟨by rw [hloc], by simp, by omega, by rw [hloc]; exact fun _ => rfl, fun b hb => by rw [hloc] at hb; cases hb⟩
  · intro i j o p b hi hj ho hp hbi hbj
    rw [k3] at hi hj
    rcases sets_at k1 noOb i with ⟨_, e⟩ | ⟨j1, q1, o1, e1, e2, e3, e4, _⟩
    · rw [e] at hi; cases hi
    rcases sets_at k1 noOb j with ⟨_, e⟩ | ⟨j2, q2, o2, f1, f2, f3, f4, _⟩
    · rw [e] at hj; cases hj
    have l1 := hg1 j1 q1 e2
    have l2 := hg1 j2 q2 f2
    rw [← e1] at l1
    rw [← f1] at l2
    rw [l1] at hbi
    rw [l2] at hbj
    cases e4 with
    | nil e => cases hbi
    | row id1 e l cm n1 h1 hn1 =>
      cases f4 with
      | nil e => cases hbj
      | row id2 e' l' cm' n2 h2 hn2 =>
        have hbi : (g id1).blk = some b := hbi
        have hbj : (g id2).blk = some b := hbj
        have := h.uniq id1 id2 _ _ b h1 h2 rfl rfl hbi hbj
        subst this
        have := filterMap_get hd e2 f2
        omega
def packV : List Value → Value
  | [v] => v
  | vs => .tuple vs.toArray
/-- What is proved of a function that is called by its contract. -/
def Contract (P : Program) (f : FuncId) (s : Sig) : Prop :=
  ∀ (w : World) (F : Nat → Prop) (g : Nat → Loc) (mine : Nat → Prop) (dvs : List DV) (vals : Array Value) (β : Type) (o : Option β) (mk : β → List DV) (x : β), s.f dvs = .yes β o mk → o = some x → Hand w F g mine 0 s.pm dvs vals.toList → KnownC w F →
    (∀ b, F b → b < w.heap.size) → (∀ b, w.heap.size ≤ b → mine b) → ∀ nid, Calls P f vals w fun e w' => ∃ v F' g' vs, e = .returned v ∧ Step mine w F w' F' ∧ (∀ b, F' b → b < w'.heap.size) ∧ Hand w' F' g' mine nid s.rm (mk x) vs ∧ v = packV vs
def SigOk (P : Program) (f : FuncId) (s : Sig) : Prop := (∃ fn c, P.funcs[f]? = some fn ∧ fn.body = some c ∧ (fn.name == "runtime.NumGoroutine") = false) ∧ Contract P f s
def lo0 : Nat → Loc := fun _ => ⟨none, 0, 0⟩
/-- What is proved of a method: of the cells that its receiver points to, ahead of its arguments, it makes cells, ahead of its results. -/
def PSigOk (P : Program) (f : FuncId) (s : Sig) : Prop := (∃ fn c, P.funcs[f]? = some fn ∧ fn.body = some c ∧ (fn.name == "runtime.NumGoroutine") = false) ∧
  ∀ (w : World) (F : Nat → Prop) (mine : Nat → Prop) (dvs : List DV) (b : Nat) (c : Array Value) T fr (rv : List Value) (β : Type) (o : Option β) (mk : β → List DV) (x : β), s.f dvs = .yes β o mk → o = some x →
    w.heap[b]? = some (.cells c T fr) → NoFr fr c.size → mine b → ¬ F b → RAll w F lo0 noOb (avVals 0 s.pm dvs).1 (.agg c :: rv) → (avVals 0 s.pm dvs).2 = [] → KnownC w F → (∀ b, F b → b < w.heap.size) → (∀ b, w.heap.size ≤ b → mine b) →
    Calls P f (Value.pointer (some ⟨b, 0, none⟩) :: rv).toArray w fun e w' => ∃ v F' vs c' T' fr', e = .returned v ∧ Step mine w F w' F' ∧ (∀ b, F' b → b < w'.heap.size) ∧ w'.heap[b]? = some (.cells c' T' fr') ∧ NoFr fr' c'.size ∧ c'.size = c.size ∧ ¬ F' b ∧
      ((avVals 0 s.rm (mk x)).2 = [] → RAll w' F' lo0 noOb (avVals 0 s.rm (mk x)).1 (.agg c' :: vs)) ∧ v = packV vs
end Go.Proofs.YtdbenenonfldkaaDoor.PE
