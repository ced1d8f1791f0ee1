/- Data made of values; freezing; stores; held against the model's. -/
import Derived.Test.YtdbenenonfldkaaDoorEOps7
namespace Go.Proofs.YtdbenenonfldkaaDoor.PE
set_option linter.unusedVariables false
open Go.RowKit
variable {P : Program} {w w' : World} {F F' : Nat → Prop} {g g' : Nat → Loc} {mine : Nat → Prop} {σ : St} {a : Act}
theorem setOb_append {ob : Nat → Option Ob} : ∀ (s r : List (Nat × Option Ob)), setOb ob (s ++ r) = setOb (setOb ob s) r
  | [], _ => rfl
  | (id, o) :: s, r => by simp only [List.cons_append, setOb]; exact setOb_append s r
/-- Objects that are listed to be no one's from now on. -/
def IsFrz (ob : Nat → Option Ob) (s : List (Nat × Option Ob)) : Prop := ∀ p ∈ s, (∃ e l cm frz, ob p.1 = some (.row e l cm frz) ∧ p.2 = some (.row e l cm true)) ∨ ∃ cs, ob p.1 = some (.cells cs) ∧ p.2 = none
theorem setOb_at : ∀ (ob : Nat → Option Ob) (s : List (Nat × Option Ob)) (i : Nat), (i ∉ s.map (·.1) ∧ setOb ob s i = ob i) ∨ ∃ p ∈ s, p.1 = i ∧ setOb ob s i = p.2
  | _, [], i => .inl ⟨by simp, rfl⟩
  | ob, (id, o) :: r, i => by
    rcases setOb_at (fun i => bif Nat.beq i id then o else ob i) r i with ⟨h1, h2⟩ | ⟨p, hp, h1, h2⟩
    · by_cases e : i = id
      · subst e
        refine .inr ⟨(i, o), by simp, rfl, ?_⟩
        rw [setOb, h2]
        simp [Nat.beq_refl]
      · refine .inl ⟨by simp only [List.map_cons, List.mem_cons, not_or]; exact ⟨e, h1⟩, ?_⟩
        rw [setOb, h2]
        cases e' : Nat.beq i id
        · rfl
        · exact absurd (Nat.eq_of_beq_eq_true e') e
    · exact .inr ⟨p, by simp [hp], h1, by rw [setOb]; exact h2⟩
theorem setOb_frz {ob : Nat → Option Ob} {s : List (Nat × Option Ob)} (h : IsFrz ob s) (ob' : Nat → Option Ob) (i : Nat) :
    (i ∉ s.map (·.1) ∧ setOb ob' s i = ob' i) ∨ (i ∈ s.map (·.1) ∧ ((∃ e l cm frz, ob i = some (.row e l cm frz) ∧ setOb ob' s i = some (.row e l cm true)) ∨ ∃ cs, ob i = some (.cells cs) ∧ setOb ob' s i = none)) := by
  rcases setOb_at ob' s i with h1 | ⟨p, hp, rfl, e⟩
  · exact .inl h1
  · refine .inr ⟨List.mem_map.2 ⟨p, hp, rfl⟩, ?_⟩
    rcases h p hp with ⟨e', l, cm, frz, h1, h2⟩ | ⟨cs, h1, h2⟩
    · exact .inl ⟨e', l, cm, frz, h1, e.trans h2⟩
    · exact .inr ⟨cs, h1, e.trans h2⟩
def Frz (F : Nat → Prop) (g : Nat → Loc) (ids : List Nat) : Nat → Prop := fun b => F b ∨ ∃ id ∈ ids, (g id).blk = some b
theorem frz_ob {s : List (Nat × Option Ob)} (hs : IsFrz σ.ob s) (i : Nat) : (i ∉ s.map (·.1) ∧ setOb σ.ob s i = σ.ob i) ∨ (i ∈ s.map (·.1) ∧ ((∃ e l cm frz, σ.ob i = some (.row e l cm frz) ∧ setOb σ.ob s i = some (.row e l cm true)) ∨ ∃ cs, σ.ob i = some (.cells cs) ∧ setOb σ.ob s i = none)) :=
  setOb_frz hs _ i
theorem frz_len {s : List (Nat × Option Ob)} (hs : IsFrz σ.ob s) (i : Nat) : lenOf (setOb σ.ob s i) = lenOf (σ.ob i) := by
  rcases frz_ob hs i with ⟨_, h⟩ | ⟨_, ⟨e, l, cm, frz, h1, h2⟩ | ⟨cs, h1, h2⟩⟩
  · rw [h]
  · rw [h1, h2]; rfl
  · rw [h1, h2]; rfl
/-- Rows that are one's own become data that no one writes. -/
theorem Rel.freeze (h : Rel w F g mine σ a) {s : List (Nat × Option Ob)} (hs : IsFrz σ.ob s) :
    Step mine w F w (Frz F g (s.map (·.1))) ∧ Rel w (Frz F g (s.map (·.1))) g mine { σ with ob := setOb σ.ob s } a := by
  have blkOf : ∀ id b, id ∈ s.map (·.1) → (g id).blk = some b → b < w.heap.size ∧ (F b ∨ mine b) ∧ ∀ i o, σ.ob i = some o → o.own → i ∉ s.map (·.1) → (g i).blk = some b → False := by
    intro id b hid hb
    obtain ⟨p, hp, rfl⟩ := List.mem_map.1 hid
    rcases hs p hp with ⟨e, l, cm, frz, h1, h2⟩ | ⟨cs, h1, h2⟩
    rotate_left
    · exact ⟨ob_blk h h1 hb, .inr (own_not_F h h1 trivial hb).2.1, fun i o ho hown hi hbi => hi (by rw [h.uniq i p.1 o _ b ho h1 hown trivial hbi hb]; exact hid)⟩
    refine ⟨ob_blk h h1 hb, ?_, fun i o ho hown hi hbi => ?_⟩
    · cases frz with
      | false => exact .inr (own_not_F h h1 rfl hb).2.1
      | true =>
        obtain ⟨_, _, _, _, k5⟩ := h.ob _ _ h1
        obtain ⟨_, _, _, _, _, _, q4, _⟩ := k5 b hb
        exact .inl (q4 rfl)
    · cases frz with
      | false => exact hi (by rw [h.uniq i p.1 o _ b ho h1 hown rfl hbi hb]; exact hid)
      | true =>
        obtain ⟨_, _, _, _, k5⟩ := h.ob _ _ h1
        obtain ⟨_, _, _, _, _, _, q4, _⟩ := k5 b hb
        exact (own_not_F h ho hown hbi).1 (q4 rfl)
  have hmono : ∀ b, F b → Frz F g (s.map (·.1)) b := fun b hb => .inl hb
  have st : Step mine w F w (Frz F g (s.map (·.1))) := ⟨rfl, rfl, rfl, Nat.le_refl _, fun _ _ _ => rfl, fun _ _ => rfl, hmono, fun b hb => by
    rcases hb with hb | ⟨id, hid, hb⟩
    · exact .inl hb
    · exact (blkOf id b hid hb).2.1⟩
  refine ⟨st, fun t => R.step (fun _ _ => rfl) hmono (h.tm t) fun id _ => ⟨rfl, fun n hn => by rw [← frz_len hs]; exact hn⟩, ?_, ?_, ?_, h.up⟩
  · intro i o ho
    have ho' : setOb σ.ob s i = some o := ho
    rcases frz_ob hs i with ⟨hi, e1⟩ | ⟨hi, ⟨e, l, cm, frz, e1, e2⟩ | ⟨_, _, e2⟩⟩
    · rw [e1] at ho'
      have hO := h.ob i o ho'
      cases o with
      | cells cs =>
        obtain ⟨b, c, T, fr, k1, k2, k3, k4, k5, k6, k7⟩ := hO
        refine ⟨b, c, T, fr, k1, k2, fun hb => ?_, k4, k5, RAll.step (fun _ _ => rfl) hmono k6 fun id _ => ⟨rfl, fun n hn => by rw [← frz_len hs]; exact hn⟩, k7⟩
        rcases hb with hb | ⟨id, hid, hb⟩
        · exact k3 hb
        · exact (blkOf id b hid hb).2.2 i _ ho' trivial hi k1
      | row e l cm frz =>
        obtain ⟨k1, k2, k3, k4, k5⟩ := hO
        refine ⟨k1, k2, k3, k4, fun b hb => ?_⟩
        obtain ⟨c, T, fr, q1, q2, q3, q4, q5, q6⟩ := k5 b hb
        refine ⟨c, T, fr, q1, q2, q3, fun e => hmono _ (q4 e), fun e => ⟨(q5 e).1, fun hb' => ?_⟩, fun i x hx => (q6 i x hx).step (fun _ _ => rfl) hmono⟩
        rcases hb' with hb' | ⟨id, hid, hb'⟩
        · exact (q5 e).2 hb'
        · exact (blkOf id b hid hb').2.2 i _ ho' e hi hb
    · rw [e2] at ho'
      cases ho'
      obtain ⟨k1, k2, k3, k4, k5⟩ := h.ob i _ e1
      refine ⟨k1, k2, k3, k4, fun b hb => ?_⟩
      obtain ⟨c, T, fr, q1, q2, q3, q4, q5, q6⟩ := k5 b hb
      exact ⟨c, T, fr, q1, q2, q3, fun _ => .inr ⟨i, hi, hb⟩, (fun e => nomatch e), fun i x hx => (q6 i x hx).step (fun _ _ => rfl) hmono⟩
    · rw [e2] at ho'; cases ho'
  · intro i j o p b hi hj ho hp hbi hbj
    have src : ∀ k r, setOb σ.ob s k = some r → r.own → σ.ob k = some r := by
      intro k r hr hro
      rcases frz_ob hs k with ⟨_, e1⟩ | ⟨_, ⟨e, l, cm, frz, _, e2⟩ | ⟨_, _, e2⟩⟩
      · rw [← e1]; exact hr
      · rw [e2] at hr; cases hr; cases hro
      · rw [e2] at hr; cases hr
    exact h.uniq i j o p b (src i o hi ho) (src j p hj hp) ho hp hbi hbj
  · intro b hb
    rcases hb with hb | ⟨id, hid, hb⟩
    · exact h.low b hb
    · exact (blkOf id b hid hb).1
theorem imp_int {H : Nat → Option Ob} {k : IntKind} {cs rest : List AV} {y : Int} (hq : (Q.imp (.int k) cs).val H = some (y, rest)) : cs = .int k y :: rest := by
  cases cs with
  | nil => simp [Q.imp, Q.val] at hq
  | cons v r =>
    cases v with
    | int k' n =>
      simp only [Q.imp] at hq
      split at hq
      · rename_i hk _
        subst hk
        simp only [val_ret_some, Prod.mk.injEq] at hq
        obtain ⟨rfl, rfl⟩ := hq
        rfl
      · cases hq
    | _ => simp [Q.imp, Q.val] at hq
theorem imp_bool {H : Nat → Option Ob} {cs rest : List AV} {y : Bool} (hq : (Q.imp .bool cs).val H = some (y, rest)) : cs = .bool y :: rest := by
  cases cs with
  | nil => simp [Q.imp, Q.val] at hq
  | cons v r =>
    cases v with
    | bool n => simp only [Q.imp, val_ret_some, Prod.mk.injEq] at hq; obtain ⟨rfl, rfl⟩ := hq; rfl
    | _ => simp [Q.imp, Q.val] at hq
theorem imp_str {H : Nat → Option Ob} {cs rest : List AV} {y : ByteArray} (hq : (Q.imp .str cs).val H = some (y, rest)) : cs = .str y :: rest := by
  cases cs with
  | nil => simp [Q.imp, Q.val] at hq
  | cons v r =>
    cases v with
    | str n => simp only [Q.imp, val_ret_some, Prod.mk.injEq] at hq; obtain ⟨rfl, rfl⟩ := hq; rfl
    | _ => simp [Q.imp, Q.val] at hq
theorem imp_cpx {H : Nat → Option Ob} {cs rest : List AV} {y : Int × Int} (hq : (Q.imp .cpx cs).val H = some (y, rest)) : cs = .cpx y.1 y.2 :: rest := by
  cases cs with
  | nil => simp [Q.imp, Q.val] at hq
  | cons v r =>
    cases v with
    | cpx a b => simp only [Q.imp, val_ret_some, Prod.mk.injEq] at hq; obtain ⟨rfl, rfl⟩ := hq; rfl
    | _ => simp [Q.imp, Q.val] at hq
theorem imp_slice {H : Nat → Option Ob} {e : Ty} {cs rest : List AV} {y : List e.den} (hq : (Q.imp (.slice e) cs).val H = some (y, rest)) : ∃ v, cs = v :: rest ∧ (Q.elems e v).val H = some y := by
  cases cs with
  | nil => simp [Q.imp, Q.val] at hq
  | cons v r =>
    simp only [Q.imp, val_bind_some, val_ret_some, Prod.mk.injEq] at hq
    obtain ⟨l, h1, rfl, rfl⟩ := hq
    exact ⟨v, rfl, h1⟩
theorem imp_unit {H : Nat → Option Ob} {cs rest : List AV} {y : Unit} (hq : (Q.imp .unit cs).val H = some (y, rest)) : cs = rest := by
  simp only [Q.imp, val_ret_some, Prod.mk.injEq] at hq
  exact hq.2
theorem imp_pair {H : Nat → Option Ob} {t u : Ty} {cs rest : List AV} {y : t.den × u.den} (hq : (Q.imp (.pair t u) cs).val H = some (y, rest)) :
    ∃ x, (Q.imp t cs).val H = some (y.1, x) ∧ (Q.imp u x).val H = some (y.2, rest) := by
  simp only [Q.imp, val_bind_some, val_ret_some, Prod.mk.injEq] at hq
  obtain ⟨⟨x1, x2⟩, h1, ⟨y1, y2⟩, h2, rfl, rfl⟩ := hq
  exact ⟨x2, h1, h2⟩
/-- The rows that a cell names are among these. -/
def Named (ids : List Nat) (v : AV) : Prop := (∀ id off len, v = .sl id off len → id ∈ ids) ∧ (∀ id, v = .ow id → id ∈ ids)
/-- A slice's elements, read as data. -/
theorem elems_rd (h : Rel w F g mine σ a) (hF : ∀ b, F b → F' b) {e : Ty} {v : AV} {x : Value} (hv : R w F g σ.ob v x) {l : List e.den} (hq : (Q.elems e v).val σ.ob = some l) {ids : List Nat} (hids : ∀ id b, id ∈ ids → (g id).blk = some b → F' b) (hnm : Named ids v) : Rd w F' (.slice e) l [x] := by
  obtain ⟨A, n, c, rfl, h2, h3, h4, h5⟩ := elems_sound h hv hq
  refine ⟨A, n, c, rfl, h2, h3, h4, fun ad had hl => ?_⟩
  obtain ⟨b, off, arr, T, fr, e1, k1, k2, k3⟩ := h5 hl
  rw [had] at e1; cases e1
  refine ⟨?_, rfl, arr, T, fr, k1, k2, fun i y hy => (k3 i y hy).step (fun _ _ => rfl) hF⟩
  subst had
  have slc : ∀ id off' len, id ∈ ids → SlAt (g id) off' len (.slice (some ⟨b, off, none⟩) n c) → ((g id).blk = none → (g id).cap = 0) → F' b := by
    intro id off' len hid hs hz
    obtain ⟨A', e1, s1, s2, s3⟩ := hs
    simp only [Value.slice.injEq] at e1
    obtain ⟨rfl, rfl, rfl⟩ := e1
    cases hb : (g id).blk with
    | none => have := s3 hb; cases this
    | some b' =>
      have hpos : (g id).cap - off' ≠ 0 := by
        have : 0 < l.length := List.length_pos_iff.2 hl
        omega
      have := s2 b' hb hpos
      simp only [Option.some.injEq, Addr.mk.injEq] at this
      rw [this.1]
      exact hids id b' hid hb
  cases v with
  | nils => cases (show _ = _ from hv)
  | fz e' l' full nn =>
    simp only [Q.elems] at hq
    split at hq
    · rename_i he hh
      subst he
      simp only [val_ret_some, castRow_self] at hq
      subst hq
      obtain ⟨⟨A', n', c', e1, q2, q3, q4, q5⟩, _⟩ := hv
      simp only [List.cons.injEq, and_true, Value.slice.injEq] at e1
      obtain ⟨rfl, rfl, rfl⟩ := e1
      exact hF _ (q5 _ rfl hl).1
    · cases hq
  | sl id off' len =>
    simp only [Q.elems, val_ask_some] at hq
    split at hq
    · rename_i e' l' cm frz ho
      obtain ⟨_, _, _, k4, _⟩ := h.ob id _ ho
      exact slc id off' len (hnm.1 _ _ _ rfl) hv k4
    · cases hq
  | ow id =>
    simp only [Q.elems, val_ask_some] at hq
    split at hq
    · rename_i e' l' cm frz ho
      obtain ⟨_, _, _, k4, _⟩ := h.ob id _ ho
      exact slc id 0 _ (hnm.2 _ rfl) (hv.2 l'.length (by rw [ho]; rfl)) k4
    · cases hq
  | _ => cases hq
theorem mem_refsAll : ∀ {cs : List AV} {v : AV} {i : Nat}, v ∈ cs → i ∈ v.refs → i ∈ AV.refsAll cs
  | c :: r, v, i, h, hi => by
    simp only [AV.refsAll, List.mem_append]
    rcases List.mem_cons.1 h with rfl | h
    · exact .inl hi
    · exact .inr (mem_refsAll h hi)
theorem named_none {ids : List Nat} {v : AV} (h : ∀ i, i ∉ v.refs) : Named ids v := ⟨fun id off len e => by subst e; exact absurd (by simp [AV.refs]) (h id), fun id e => by subst e; exact absurd (by simp [AV.refs]) (h id)⟩
theorem exp_named {ids : List Nat} : ∀ {t : Ty} {x : t.den} {v : AV}, v ∈ t.exp x → Named ids v
  | .int _, _, v, h => by rw [show v = _ from List.mem_singleton.1 h]; exact ⟨(fun _ _ _ e => nomatch e), (fun _ e => nomatch e)⟩
  | .bool, _, v, h => by rw [show v = _ from List.mem_singleton.1 h]; exact ⟨(fun _ _ _ e => nomatch e), (fun _ e => nomatch e)⟩
  | .str, _, v, h => by rw [show v = _ from List.mem_singleton.1 h]; exact ⟨(fun _ _ _ e => nomatch e), (fun _ e => nomatch e)⟩
  | .cpx, _, v, h => by rw [show v = _ from List.mem_singleton.1 h]; exact ⟨(fun _ _ _ e => nomatch e), (fun _ e => nomatch e)⟩
  | .slice _, _, v, h => by rw [show v = _ from List.mem_singleton.1 h]; exact ⟨(fun _ _ _ e => nomatch e), (fun _ e => nomatch e)⟩
  | .unit, _, v, h => nomatch h
  | .fn _ _, _, v, h => by rw [show v = _ from List.mem_singleton.1 h]; exact ⟨(fun _ _ _ e => nomatch e), (fun _ e => nomatch e)⟩
  | .ref _, _, v, h => by rw [show v = _ from List.mem_singleton.1 h]; exact ⟨(fun _ _ _ e => nomatch e), (fun _ e => nomatch e)⟩
  | .pair a b, x, v, h => by
    rcases List.mem_append.1 (show v ∈ a.exp x.1 ++ b.exp x.2 from h) with h | h
    · exact exp_named h
    · exact exp_named h
/-- Cells that were made a datum: they read as it, once what they name is no one's. -/
theorem imp_sound (h : Rel w F g mine σ a) (hF : ∀ b, F b → F' b) {ids : List Nat} (hids : ∀ id b, id ∈ ids → (g id).blk = some b → F' b) : ∀ (t : Ty) {cs rest : List AV} {y : t.den} {vs : List Value},
    (Q.imp t cs).val σ.ob = some (y, rest) → (∀ v ∈ cs, Named ids v) → RAll w F g σ.ob cs vs → ∃ c1 c2, vs = c1 ++ c2 ∧ Rd w F' t y c1 ∧ RAll w F g σ.ob rest c2 ∧ ∀ v ∈ rest, Named ids v
  | .int k, cs, rest, y, vs, hq, hi, hr => by
    have := imp_int hq
    subst this
    obtain ⟨v, s, rfl, h1, h2⟩ := hr
    exact ⟨[v], s, rfl, by rw [show v = _ from h1]; rfl, h2, fun u hu => hi u (by simp [hu])⟩
  | .bool, cs, rest, y, vs, hq, hi, hr => by
    have := imp_bool hq
    subst this
    obtain ⟨v, s, rfl, h1, h2⟩ := hr
    exact ⟨[v], s, rfl, by rw [show v = _ from h1]; rfl, h2, fun u hu => hi u (by simp [hu])⟩
  | .str, cs, rest, y, vs, hq, hi, hr => by
    have := imp_str hq
    subst this
    obtain ⟨v, s, rfl, h1, h2⟩ := hr
    exact ⟨[v], s, rfl, by rw [show v = _ from h1]; rfl, h2, fun u hu => hi u (by simp [hu])⟩
  | .cpx, cs, rest, y, vs, hq, hi, hr => by
    have := imp_cpx hq
    subst this
    obtain ⟨v, s, rfl, ⟨a, b, e, h1⟩, h2⟩ := hr
    exact ⟨[v], s, rfl, ⟨a, b, by rw [e], h1⟩, h2, fun u hu => hi u (by simp [hu])⟩
  | .slice e, cs, rest, y, vs, hq, hi, hr => by
    obtain ⟨v, rfl, he⟩ := imp_slice hq
    obtain ⟨x, s, rfl, h1, h2⟩ := hr
    exact ⟨[x], s, rfl, elems_rd h hF h1 he hids (hi v (by simp)), h2, fun u hu => hi u (by simp [hu])⟩
  | .fn f t, cs, rest, y, vs, hq, hi, hr => by cases cs <;> cases hq
  | .ref t, cs, rest, y, vs, hq, hi, hr => by cases cs <;> cases hq
  | .unit, cs, rest, y, vs, hq, hi, hr => by
    have := imp_unit hq
    subst this
    exact ⟨[], vs, rfl, rfl, hr, hi⟩
  | .pair t u, cs, rest, y, vs, hq, hi, hr => by
    obtain ⟨x, q1, q2⟩ := imp_pair hq
    obtain ⟨c1, c2, rfl, r1, r2, r3⟩ := imp_sound h hF hids t q1 hi hr
    obtain ⟨c3, c4, rfl, r4, r5, r6⟩ := imp_sound h hF hids u q2 r3 r2
    exact ⟨c1 ++ c3, c4, by simp, ⟨c1, c3, rfl, r1, r4⟩, r5, r6⟩
theorem impAll_sound (h : Rel w F g mine σ a) (hF : ∀ b, F b → F' b) {ids : List Nat} (hids : ∀ id b, id ∈ ids → (g id).blk = some b → F' b) {t : Ty} {cs : List AV} {y : t.den} {vs : List Value}
    (hq : (Q.impAll t cs).val σ.ob = some y) (hi : ∀ v ∈ cs, Named ids v) (hr : RAll w F g σ.ob cs vs) : Rd w F' t y vs := by
  unfold Q.impAll at hq
  rw [val_bind_some] at hq
  obtain ⟨⟨x1, x2⟩, h1, h2⟩ := hq
  cases x2 with
  | nil =>
    simp only [val_ret_some] at h2
    subst h2
    obtain ⟨c1, c2, rfl, r1, r2, _⟩ := imp_sound h hF hids t h1 hi hr
    rw [show c2 = [] from r2, List.append_nil]
    exact r1
  | cons _ _ => cases h2
theorem castDen_self {e : Ty} (h : e = e) (x : e.den) : castDen h x = x := rfl
/-- What a function has captured, once the variables among it are no one's. -/
theorem caps_sound (h : Rel w F g mine σ a) (hF : ∀ b, F b → F' b) {ids : List Nat} (hids : ∀ id b, id ∈ ids → (g id).blk = some b → F' b) : ∀ (t : Ty) {cs rest : List AV} {y : t.den} {L : List Nat} {vs : List Value},
    (Q.caps t cs).val σ.ob = some (y, L, rest) → (∀ id ∈ L, id ∈ ids) → RAll w F g σ.ob cs vs → (∀ id ∈ L, ∃ o, σ.ob id = some o) ∧ ∃ c1 c2, vs = c1 ++ c2 ∧ Rd w F' t y c1 ∧ RAll w F g σ.ob rest c2
  | .unit, cs, rest, y, L, vs, hq, hL, hr => by
    have hq' : Q.val σ.ob (.ret ((), [], cs)) = some (y, L, rest) := by cases cs <;> exact hq
    rw [val_ret_some] at hq'
    cases hq'
    exact ⟨(fun _ h => by cases h), [], vs, rfl, rfl, hr⟩
  | .pair t u, cs, rest, y, L, vs, hq, hL, hr => by
    have hq' : ((Q.caps t cs).bind fun x => (Q.caps u x.2.2).bind fun y => .ret ((x.1, y.1), x.2.1 ++ y.2.1, y.2.2)).val σ.ob = some (y, L, rest) := by cases cs <;> exact hq
    simp only [val_bind_some, val_ret_some] at hq'
    obtain ⟨⟨x1, L1, r1⟩, q1, ⟨x2, L2, r2⟩, q2, e⟩ := hq'
    cases e
    obtain ⟨k0, c1, c2, rfl, k1, k2⟩ := caps_sound h hF hids t q1 (fun id hi => hL id (List.mem_append_left _ hi)) hr
    obtain ⟨m0, c3, c4, rfl, m1, m2⟩ := caps_sound h hF hids u q2 (fun id hi => hL id (List.mem_append_right _ hi)) k2
    exact ⟨fun id hi => (List.mem_append.1 hi).elim (k0 id) (m0 id), c1 ++ c3, c4, by simp, ⟨c1, c3, rfl, k1, m1⟩, m2⟩
  | .ref t, cs, rest, y, L, vs, hq, hL, hr => by
    cases cs with
    | nil => cases hq
    | cons v r =>
      cases v with
      | ptr id off =>
        cases off with
        | succ n => cases hq
        | zero =>
          simp only [Q.caps, val_ask_some] at hq
          split at hq
          · rename_i cs' ho
            split at hq
            · rename_i hre
              simp only [val_bind_some, val_ret_some] at hq
              obtain ⟨z, hz, e⟩ := hq
              cases e
              obtain ⟨x, s, rfl, ⟨b, hb, rfl⟩, h2⟩ := hr
              have hO := h.ob id _ ho
              obtain ⟨b', c, T, fr, k1, k2, k3, k4, k5, k6, k7⟩ := hO
              rw [hb] at k1
              cases k1
              have hrd := impAll_sound h hF hids hz (fun v hv => named_none (fun i hi => by have := mem_refsAll hv hi; rw [hre] at this; cases this)) k6
              have hlen := hrd.length
              refine ⟨fun i hi => by rw [List.mem_singleton.1 hi]; exact ⟨_, ho⟩, [_], s, rfl, ⟨⟨b, 0, none⟩, rfl, hids id b (hL id (by simp)) hb, c, T, fr, k4, ?_, ?_⟩, h2⟩
              · rw [← hlen]; simp
              · have : cut c 0 t.cells = c.toList := by
                  unfold cut
                  rw [List.drop_zero, List.take_of_length_le (by rw [hlen]; exact Nat.le_refl _)]
                rw [this]
                exact hrd
            · cases hq
          · cases hq
      | fptr t' x off =>
        cases off with
        | succ n => cases hq
        | zero =>
          simp only [Q.caps] at hq
          split at hq
          · rename_i he _
            subst he
            rw [val_ret_some] at hq
            cases hq
            obtain ⟨u, s, rfl, ⟨ad, rfl, h1, c, T, fr, h3, h4, h5⟩, h2⟩ := hr
            exact ⟨(fun _ h => by cases h), [_], s, rfl, ⟨ad, rfl, hF _ h1, c, T, fr, h3, h4, h5.step (fun _ _ => rfl) hF⟩, h2⟩
          · cases hq
      | _ => cases hq
  | .int _, cs, rest, y, L, vs, hq, hL, hr => by cases cs <;> cases hq
  | .bool, cs, rest, y, L, vs, hq, hL, hr => by cases cs <;> cases hq
  | .str, cs, rest, y, L, vs, hq, hL, hr => by cases cs <;> cases hq
  | .slice _, cs, rest, y, L, vs, hq, hL, hr => by cases cs <;> cases hq
  | .fn _ _, cs, rest, y, L, vs, hq, hL, hr => by cases cs <;> cases hq
/-- What is frozen of cells: all rows that they name. -/
theorem freeze_val {H : Nat → Option Ob} : ∀ {cs : List AV} {s : List (Nat × Option Ob)}, (Q.freeze cs).val H = some s → IsFrz H s ∧ ∀ v ∈ cs, Named (s.map (·.1)) v
  | [], s, h => by
    simp only [Q.freeze, val_ret_some] at h
    subst h
    exact ⟨(fun p hp => nomatch hp), (fun v hv => nomatch hv)⟩
  | v :: r, s, h => by
    have other : (Q.freeze r).val H = some s → (∀ id off len, v ≠ .sl id off len) → (∀ id, v ≠ .ow id) → IsFrz H s ∧ ∀ u ∈ v :: r, Named (s.map (·.1)) u := by
      intro h' n1 n2
      obtain ⟨k1, k2⟩ := freeze_val h'
      refine ⟨k1, fun u hu => ?_⟩
      rcases List.mem_cons.1 hu with rfl | hu
      · exact ⟨fun id off len e => absurd e (n1 id off len), fun id e => absurd e (n2 id)⟩
      · exact k2 u hu
    have row : ∀ id, (∃ e l cm frz, H id = some (.row e l cm frz) ∧ ∃ s', (Q.freeze r).val H = some s' ∧ s = (id, some (.row e l cm true)) :: s') → (v = .ow id ∨ ∃ off len, v = .sl id off len) → IsFrz H s ∧ ∀ u ∈ v :: r, Named (s.map (·.1)) u := by
      rintro id ⟨e, l, cm, frz, ho, s', hs', rfl⟩ hv
      obtain ⟨k1, k2⟩ := freeze_val hs'
      refine ⟨fun p hp => ?_, fun u hu => ?_⟩
      · rcases List.mem_cons.1 hp with rfl | hp
        · exact .inl ⟨e, l, cm, frz, ho, rfl⟩
        · exact k1 p hp
      · rcases List.mem_cons.1 hu with rfl | hu
        · rcases hv with rfl | ⟨off, len, rfl⟩
          · exact ⟨(fun _ _ _ e => nomatch e), fun id' e => by cases e; simp⟩
          · exact ⟨fun id' _ _ e => by cases e; simp, (fun _ e => nomatch e)⟩
        · exact ⟨fun id' off len e => by simp only [List.map_cons, List.mem_cons]; exact .inr ((k2 u hu).1 id' off len e), fun id' e => by simp only [List.map_cons, List.mem_cons]; exact .inr ((k2 u hu).2 id' e)⟩
    cases v with
    | ow id =>
      simp only [Q.freeze, val_ask_some] at h
      split at h
      · rename_i e l cm frz ho
        simp only [val_bind_some, val_ret_some] at h
        obtain ⟨s', h1, rfl⟩ := h
        exact row id ⟨e, l, cm, frz, ho, s', h1, rfl⟩ (.inl rfl)
      · cases h
    | sl id off len =>
      simp only [Q.freeze, val_ask_some] at h
      split at h
      · rename_i e l cm frz ho
        simp only [val_bind_some, val_ret_some] at h
        obtain ⟨s', h1, rfl⟩ := h
        exact row id ⟨e, l, cm, frz, ho, s', h1, rfl⟩ (.inr ⟨off, len, rfl⟩)
      · cases h
    | _ => exact other h (fun _ _ _ e => nomatch e) (fun _ e => nomatch e)
end Go.Proofs.YtdbenenonfldkaaDoor.PE
