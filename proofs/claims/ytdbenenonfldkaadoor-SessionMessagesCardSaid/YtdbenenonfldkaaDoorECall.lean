/- Calls by contract: what is handed over, and back. -/
import Derived.Test.YtdbenenonfldkaaDoorEOps15
namespace Go.Proofs.YtdbenenonfldkaaDoor.PE
set_option linter.unusedVariables false
open Go.RowKit
variable {P : Program} {w w' : World} {F F' : Nat → Prop} {g g' g1 : Nat → Loc} {mine : Nat → Prop} {σ : St} {a : Act} {ob1 : Nat → Option Ob}
/-- A row that is handed over, and what it is to the one who has it then. -/
inductive GivenOk (ob : Nat → Option Ob) : Option Nat × Nat → Ob → Prop
  | row (id : Nat) (e : Ty) (l : List e.den) (cm n : Nat) (h : ob id = some (.row e l cm false)) (hn : n ≤ l.length) : GivenOk ob (some id, e.cells) (.row e (l.take n) 0 false)
  | nil (e : Ty) : GivenOk ob (none, e.cells) (.row e [] 0 false)
def locOf (g : Nat → Loc) : Option Nat × Nat → Loc
  | (some id, _) => g id
  | (none, sz) => ⟨none, 0, sz⟩
/-- Names and objects, one by one, from a number on. -/
def SetsOk (ob : Nat → Option Ob) : Nat → List (Nat × Option Ob) → List (Option Nat × Nat) → Prop
  | _, [], gs => gs = []
  | n, p :: r, gs => ∃ q s o, gs = q :: s ∧ p = (n, some o) ∧ GivenOk ob q o ∧ SetsOk ob (n + 1) r s
theorem SetsOk.append {ob : Nat → Option Ob} : ∀ {s t : List (Nat × Option Ob)} {n : Nat} {x y : List (Option Nat × Nat)}, SetsOk ob n s x → SetsOk ob (n + x.length) t y → SetsOk ob n (s ++ t) (x ++ y)
  | [], t, n, x, y, h, k => by rw [show x = [] from h] at k ⊢; simpa using k
  | p :: r, t, n, x, y, h, k => by
    obtain ⟨q, s, o, rfl, e1, e2, e3⟩ := h
    exact ⟨q, s ++ y, o, rfl, e1, e2, SetsOk.append e3 (by rw [List.length_cons] at k; rwa [show n + 1 + s.length = n + (s.length + 1) by omega])⟩
theorem SetsOk.length {ob : Nat → Option Ob} : ∀ {s : List (Nat × Option Ob)} {n : Nat} {x : List (Option Nat × Nat)}, SetsOk ob n s x → s.length = x.length
  | [], _, _, h => by rw [show _ = [] from h]; rfl
  | p :: r, _, _, h => by obtain ⟨q, s, o, rfl, _, _, h3⟩ := h; simp [SetsOk.length h3]
theorem SetsOk.get {ob : Nat → Option Ob} : ∀ {s : List (Nat × Option Ob)} {n : Nat} {x : List (Option Nat × Nat)}, SetsOk ob n s x → ∀ {j : Nat} {p : Nat × Option Ob}, s[j]? = some p → ∃ q o, x[j]? = some q ∧ p = (n + j, some o) ∧ GivenOk ob q o
  | [], _, _, _, j, p, hp => by simp at hp
  | p0 :: r, n, _, h, j, p, hp => by
    obtain ⟨q, s, o, rfl, e1, e2, h3⟩ := h
    cases j with
    | zero => simp at hp; subst hp; exact ⟨q, o, rfl, e1, e2⟩
    | succ j =>
      simp at hp
      obtain ⟨q', o', k1, k2, k3⟩ := SetsOk.get h3 hp
      exact ⟨q', o', by simpa using k1, by rw [k2]; congr 1; omega, k3⟩
theorem argCell_sound (h : Rel w F g mine σ a) {v : AV} {x : Value} (hv : R w F g σ.ob v x) {own : Bool} {t : Ty} {G : Given} (hq : (argCell own t v).val σ.ob = some G) {L : List Nat} (hL : ∀ id ∈ G.lent, id ∈ L) (n : Nat) (ms : List (Bool × Ty)) (ds : List DV) :
    ∃ sets, SetsOk σ.ob n sets G.given ∧ (∀ id ∈ G.lent, ∃ o, σ.ob id = some o) ∧
      (∀ r, avCells (n + G.given.length) ms ds = r → ∃ c, avCells n ((own, t) :: ms) (G.dvs ++ ds) = (c ++ r.1, sets ++ r.2.1, r.2.2.1, r.2.2.2) ∧
        ∀ g1 ob1, (∀ j q, G.given[j]? = some q → g1 (n + j) = locOf g q) → (∀ p ∈ sets, ob1 p.1 = p.2) → RAll w (Frz F g L) g1 ob1 c [x]) := by
  have hF : ∀ b, F b → Frz F g L b := fun b hb => .inl hb
  have hids : ∀ id b, id ∈ L → (g id).blk = some b → Frz F g L b := fun id b hi hb => .inr ⟨id, hi, hb⟩
  have data : ∀ (y : t.den) (hy : (Q.impAll t [v]).val σ.ob = some y) (hn : Named L v), G = ⟨[⟨t, y⟩], G.lent, []⟩ → own = false →
      (∀ r, avCells (n + G.given.length) ms ds = r → ∃ c, avCells n ((own, t) :: ms) (G.dvs ++ ds) = (c ++ r.1, [] ++ r.2.1, r.2.2.1, r.2.2.2) ∧
        ∀ g1 ob1, (∀ j q, G.given[j]? = some q → g1 (n + j) = locOf g q) → (∀ p ∈ ([] : List (Nat × Option Ob)), ob1 p.1 = p.2) → RAll w (Frz F g L) g1 ob1 c [x]) := by
    intro y hy hn e1 e2 r hr
    have hrd := impAll_sound h hF hids hy (fun u hu => by rw [List.mem_singleton.1 hu]; exact hn) (vs := [x]) ⟨x, [], rfl, hv, rfl⟩
    rw [e1] at hr ⊢
    subst e2
    refine ⟨t.exp y, ?_, fun g1 ob1 _ _ => exp_rel hrd⟩
    simp only [List.length_nil, Nat.add_zero] at hr
    simp only [List.cons_append, List.nil_append, avCells, hr]
  unfold argCell at hq
  split at hq
  · rename_i e id n'
    rw [val_ask_some] at hq
    split at hq
    · rename_i e' l cm ho
      split at hq
      · rename_i he _
        subst he
        simp only [val_br_some, val_ret_some, val_fail_some, and_false, or_false, castRow_self] at hq
        obtain ⟨hn, rfl⟩ := hq
        have hn := Nat.le_of_ble_eq_true hn
        refine ⟨[(n, some (.row e' (l.take n') 0 false))], ⟨_, _, _, rfl, rfl, .row id e' l cm n' ho hn, rfl⟩, fun id hid => (by cases hid), fun r hr => ⟨[.ow n], ?_, fun g1 ob1 hg hob => ?_⟩⟩
        · simp only [List.length_cons, List.length_nil, Nat.zero_add] at hr
          simp only [List.cons_append, List.nil_append, avCells, hr]
        · have e1 := hg 0 (some id, e'.cells) rfl
          have e2 := hob _ (List.mem_singleton.2 rfl)
          simp only [Nat.add_zero] at e1 e2
          obtain ⟨A, rfl, s⟩ := (show SlAt (g id) 0 n' x from hv)
          refine ⟨_, _, rfl, ⟨⟨_, _, _, rfl⟩, fun m hm => ?_⟩, rfl⟩
          rw [e2] at hm
          simp only [lenOf, Option.some.injEq, List.length_take] at hm
          have : m = n' := by omega
          subst this
          rw [e1]
          exact ⟨A, rfl, s⟩
      · cases hq
    · cases hq
  · rename_i e id
    rw [val_ask_some] at hq
    split at hq
    · rename_i e' l cm ho
      split at hq
      · rename_i he _
        subst he
        simp only [val_ret_some, castRow_self] at hq
        subst hq
        refine ⟨[(n, some (.row e' l 0 false))], ⟨_, _, _, rfl, rfl, by have := GivenOk.row id e' l cm l.length ho (Nat.le_refl _); rwa [List.take_length] at this, rfl⟩, fun id hid => (by cases hid), fun r hr => ⟨[.ow n], ?_, fun g1 ob1 hg hob => ?_⟩⟩
        · simp only [List.length_cons, List.length_nil, Nat.zero_add] at hr
          simp only [List.cons_append, List.nil_append, avCells, hr]
        · have e1 := hg 0 (some id, e'.cells) rfl
          have e2 := hob _ (List.mem_singleton.2 rfl)
          simp only [Nat.add_zero] at e1 e2
          refine ⟨_, _, rfl, ⟨hv.1, fun m hm => ?_⟩, rfl⟩
          rw [e2] at hm
          simp only [lenOf, Option.some.injEq] at hm
          subst hm
          rw [e1]
          exact hv.2 l.length (by rw [ho]; rfl)
      · cases hq
    · cases hq
  · rename_i e
    rw [val_ret_some] at hq
    subst hq
    refine ⟨[(n, some (.row e [] 0 false))], ⟨_, _, _, rfl, rfl, .nil e, rfl⟩, fun id hid => (by cases hid), fun r hr => ⟨[.ow n], ?_, fun g1 ob1 hg hob => ?_⟩⟩
    · simp only [List.length_cons, List.length_nil, Nat.zero_add] at hr
      simp only [List.cons_append, List.nil_append, avCells, hr]
    · have e1 := hg 0 (none, e.cells) rfl
      have e2 := hob _ (List.mem_singleton.2 rfl)
      simp only [Nat.add_zero] at e1 e2
      cases (show x = _ from hv)
      refine ⟨_, _, rfl, ⟨⟨_, _, _, rfl⟩, fun m hm => ?_⟩, rfl⟩
      rw [e2] at hm
      simp only [lenOf, Option.some.injEq, List.length_nil] at hm
      subst hm
      rw [e1]
      exact ⟨none, rfl, by simp [locOf], (fun b hb => by simp [locOf] at hb), fun _ => rfl⟩
  · cases hq
  · rename_i id off n'
    rw [val_ask_some] at hq
    split at hq
    · rename_i e l cm frz ho
      rw [val_bind_some] at hq
      obtain ⟨y, hy, hq⟩ := hq
      rw [val_ret_some] at hq
      subst hq
      exact ⟨[], rfl, fun i hi => (by rw [List.mem_singleton.1 hi]; exact ⟨_, ho⟩), data y hy ⟨fun id' o l e => by cases e; exact hL _ (by simp), (fun id' e => by cases e)⟩ rfl rfl⟩
    · cases hq
  · rename_i id
    rw [val_ask_some] at hq
    split at hq
    · rename_i e l cm frz ho
      rw [val_bind_some] at hq
      obtain ⟨y, hy, hq⟩ := hq
      rw [val_ret_some] at hq
      subst hq
      exact ⟨[], rfl, fun i hi => (by rw [List.mem_singleton.1 hi]; exact ⟨_, ho⟩), data y hy ⟨(fun id' o l e => by cases e), fun id' e => by cases e; exact hL _ (by simp)⟩ rfl rfl⟩
    · cases hq
  · rename_i f t f' cs
    split at hq
    · rename_i he _
      subst he
      rw [val_bind_some] at hq
      obtain ⟨⟨y, L', rest⟩, hy, hq⟩ := hq
      split at hq
      · rename_i hrest
        rw [val_ret_some] at hq
        subst hq
        simp only at hrest
        subst hrest
        obtain ⟨us, rfl, hus⟩ := hv
        obtain ⟨k0, c1, c2, e, k1, k2⟩ := caps_sound h hF hids t hy hL hus
        cases (show c2 = [] from k2)
        rw [List.append_nil] at e
        refine ⟨[], rfl, k0, fun r hr => ⟨[.func f' (t.exp y)], ?_, fun g1 ob1 _ _ => exp_rel (t := .fn f' t) ⟨us, rfl, by rw [e]; exact k1⟩⟩⟩
        simp only [List.length_nil, Nat.add_zero] at hr
        simp only [List.cons_append, List.nil_append, avCells, hr]
        rfl
      · cases hq
    · cases hq
  · rename_i hn1 hn2 _
    rw [val_bind_some] at hq
    obtain ⟨y, hy, hq⟩ := hq
    rw [val_ret_some] at hq
    subst hq
    exact ⟨[], rfl, fun i hi => (by cases hi), data y hy ⟨fun id' o l e => (hn1 _ _ _ e).elim, fun id' e => (hn2 _ e).elim⟩ rfl rfl⟩
/-- The cells of one argument. -/
theorem argCells_sound (h : Rel w F g mine σ a) {L : List Nat} : ∀ {cs : List AV} {ms : List (Bool × Ty)} {vs : List Value} {G : Given}, RAll w F g σ.ob cs vs → (argCells cs ms).val σ.ob = some G → (∀ id ∈ G.lent, id ∈ L) → ∀ (n : Nat) (ds : List DV),
    ∃ sets c, SetsOk σ.ob n sets G.given ∧ (∀ id ∈ G.lent, ∃ o, σ.ob id = some o) ∧ avCells n ms (G.dvs ++ ds) = (c, sets, n + G.given.length, ds) ∧
        ∀ g1 ob1, (∀ j q, G.given[j]? = some q → g1 (n + j) = locOf g q) → (∀ p ∈ sets, ob1 p.1 = p.2) → RAll w (Frz F g L) g1 ob1 c vs
  | [], [], vs, G, hr, hq, hL, n, ds => by
    simp only [argCells, val_ret_some] at hq
    subst hq
    rw [show vs = [] from hr]
    exact ⟨[], [], rfl, fun i hi => (by cases hi), by simp [avCells], fun _ _ _ _ => rfl⟩
  | [], _ :: _, _, _, _, hq, _, _, _ => by cases hq
  | _ :: _, [], _, _, _, hq, _, _, _ => by cases hq
  | v :: r, m :: ms, vs, G, hr, hq, hL, n, ds => by
    obtain ⟨x, s, rfl, hx, hs⟩ := hr
    simp only [argCells, val_bind_some, val_ret_some] at hq
    obtain ⟨G1, h1, G2, h2, rfl⟩ := hq
    have hL1 : ∀ id ∈ G1.lent, id ∈ L := fun id hi => hL id (List.mem_append_left _ hi)
    have hL2 : ∀ id ∈ G2.lent, id ∈ L := fun id hi => hL id (List.mem_append_right _ hi)
    obtain ⟨s2, c2, k1, k2, k3, k4⟩ := argCells_sound h hs h2 hL2 (n + G1.given.length) ds
    obtain ⟨s1, q1, q2, q3⟩ := argCell_sound h hx h1 hL1 n ms (G2.dvs ++ ds)
    obtain ⟨c1, q4, q5⟩ := q3 _ k3
    obtain ⟨mo, mt⟩ := m
    refine ⟨s1 ++ s2, c1 ++ c2, SetsOk.append q1 k1, fun id hi => ?_, ?_, fun g1 ob1 hg hob => ?_⟩
    · rcases List.mem_append.1 hi with hi | hi
      · exact q2 id hi
      · exact k2 id hi
    · simp only [Given.app, List.append_assoc, List.length_append] at *
      rw [q4, Nat.add_assoc]
    · have := RAll.append (q5 g1 ob1 (fun j q hj => hg j q (by simp only [Given.app]; rw [List.getElem?_append_left (List.getElem?_eq_some_iff.mp hj).1]; exact hj)) (fun p hp => hob p (List.mem_append_left _ hp)))
        (k4 g1 ob1 (fun j q hj => by
          have := hg (G1.given.length + j) q (by simp only [Given.app]; rw [List.getElem?_append_right (by omega), Nat.add_sub_cancel_left]; exact hj)
          rwa [← Nat.add_assoc] at this) (fun p hp => hob p (List.mem_append_right _ hp)))
      exact this
theorem isAgg_cells {ob : Nat → Option Ob} {v : AV} {x : Value} (hv : R w F g ob v x) (hs : v.solid = true) : (v.isAgg = true ∧ ∃ vs, x = .agg vs) ∨ (v.isAgg = false ∧ x.cells = #[x]) := by
  cases v with
  | agg cs => obtain ⟨vs, rfl, _⟩ := hv; exact .inl ⟨rfl, vs, rfl⟩
  | top => cases hs
  | tup _ => cases hs
  | int k n => cases (show _ = _ from hv); exact .inr ⟨rfl, rfl⟩
  | bool b => cases (show _ = _ from hv); exact .inr ⟨rfl, rfl⟩
  | str s => cases (show _ = _ from hv); exact .inr ⟨rfl, rfl⟩
  | flt n => obtain ⟨b, rfl, _⟩ := hv; exact .inr ⟨rfl, rfl⟩
  | cpx x y => obtain ⟨a, b, rfl, _⟩ := hv; exact .inr ⟨rfl, rfl⟩
  | nilp => cases (show _ = _ from hv); exact .inr ⟨rfl, rfl⟩
  | nils => cases (show _ = _ from hv); exact .inr ⟨rfl, rfl⟩
  | nilf => cases (show _ = _ from hv); exact .inr ⟨rfl, rfl⟩
  | any => obtain ⟨A, n, c, rfl⟩ := hv; exact .inr ⟨rfl, rfl⟩
  | ptr id off => obtain ⟨b, _, rfl⟩ := hv; exact .inr ⟨rfl, rfl⟩
  | eptr id i off => obtain ⟨b, _, rfl⟩ := hv; exact .inr ⟨rfl, rfl⟩
  | fptr t x off => obtain ⟨b, rfl, _⟩ := hv; exact .inr ⟨rfl, rfl⟩
  | sl id off len => obtain ⟨A, rfl, _⟩ := hv; exact .inr ⟨rfl, rfl⟩
  | ow id => obtain ⟨⟨A, n, c, rfl⟩, _⟩ := hv; exact .inr ⟨rfl, rfl⟩
  | fz e l full nn => obtain ⟨⟨A, n, c, e1, _⟩, _⟩ := hv; simp only [List.cons.injEq, and_true] at e1; subst e1; exact .inr ⟨rfl, rfl⟩
  | func f cs => obtain ⟨vs, rfl, _⟩ := hv; exact .inr ⟨rfl, rfl⟩
  | bnd f cs => obtain ⟨vs, rfl, _⟩ := hv; exact .inr ⟨rfl, rfl⟩
/-- The arguments of a call. -/
theorem argsCells_sound (h : Rel w F g mine σ a) {L : List Nat} : ∀ {vs : List AV} {ms : List Mode} {xs : List Value} {G : Given}, RAll w F g σ.ob vs xs → (argsCells vs ms).val σ.ob = some G → (∀ id ∈ G.lent, id ∈ L) → ∀ (n : Nat),
    ∃ sets c, SetsOk σ.ob n sets G.given ∧ (∀ id ∈ G.lent, ∃ o, σ.ob id = some o) ∧ avVals n ms G.dvs = (c, sets) ∧
        ∀ g1 ob1, (∀ j q, G.given[j]? = some q → g1 (n + j) = locOf g q) → (∀ p ∈ sets, ob1 p.1 = p.2) → RAll w (Frz F g L) g1 ob1 c xs
  | [], [], xs, G, hr, hq, hL, n => by
    simp only [argsCells, val_ret_some] at hq
    subst hq
    rw [show xs = [] from hr]
    exact ⟨[], [], rfl, fun i hi => (by cases hi), rfl, fun _ _ _ _ => rfl⟩
  | [], _ :: _, _, _, _, hq, _, _ => by cases hq
  | _ :: _, [], _, _, _, hq, _, _ => by cases hq
  | v :: r, m :: ms, xs, G, hr, hq, hL, n => by
    obtain ⟨x, s, rfl, hx, hs⟩ := hr
    simp only [argsCells, val_guard_some, val_bind_some, val_ret_some, Bool.and_eq_true] at hq
    obtain ⟨⟨hsol, hag⟩, G1, h1, G2, h2, rfl⟩ := hq
    have hag := eq_of_beq hag
    have hL1 : ∀ id ∈ G1.lent, id ∈ L := fun id hi => hL id (List.mem_append_left _ hi)
    have hL2 : ∀ id ∈ G2.lent, id ∈ L := fun id hi => hL id (List.mem_append_right _ hi)
    obtain ⟨s2, c2, k1, k2, k3, k4⟩ := argsCells_sound h hs h2 hL2 (n + G1.given.length)
    obtain ⟨s1, c1, q1, q2, q3, q4⟩ := argCells_sound h (cells_rel hsol hx) h1 hL1 n G2.dvs
    obtain ⟨mo, mt⟩ := m
    simp only at q3 hag
    refine ⟨s1 ++ s2, (bif mo then .agg c1 else oneAV c1) :: c2, SetsOk.append q1 k1, fun id hi => ?_, ?_, fun g1 ob1 hg hob => ?_⟩
    · rcases List.mem_append.1 hi with hi | hi
      · exact q2 id hi
      · exact k2 id hi
    · simp only [Given.app, avVals, q3, k3]
    · have hc := q4 g1 ob1 (fun j q hj => hg j q (by simp only [Given.app]; rw [List.getElem?_append_left (List.getElem?_eq_some_iff.mp hj).1]; exact hj)) (fun p hp => hob p (List.mem_append_left _ hp))
      refine ⟨x, s, rfl, ?_, k4 g1 ob1 (fun j q hj => by
          have := hg (G1.given.length + j) q (by simp only [Given.app]; rw [List.getElem?_append_right (by omega), Nat.add_sub_cancel_left]; exact hj)
          rwa [← Nat.add_assoc] at this) (fun p hp => hob p (List.mem_append_right _ hp))⟩
      rcases isAgg_cells hx hsol with ⟨e1, vs, rfl⟩ | ⟨e1, e2⟩
      · rw [← hag, e1]
        exact ⟨vs, rfl, hc⟩
      · rw [← hag, e1]
        rw [e2] at hc
        simp only [cond_false]
        cases c1 with
        | nil => cases (show [x] = [] from hc)
        | cons u us =>
          obtain ⟨y, t, e3, r1, r2⟩ := hc
          cases e3
          cases us with
          | nil => exact r1
          | cons _ _ => obtain ⟨_, _, e4, _⟩ := r2; cases e4
end Go.Proofs.YtdbenenonfldkaaDoor.PE
