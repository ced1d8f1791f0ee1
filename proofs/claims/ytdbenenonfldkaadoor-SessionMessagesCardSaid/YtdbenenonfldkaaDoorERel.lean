/- What abstract values and objects say of a world; how that stays. -/
import Derived.Test.YtdbenenonfldkaaDoorERun
import Derived.Test.YtdbenenonfldkaaDoorEFlt
import Derived.WalkKit
import Derived.Laws.Append
import Derived.Laws.StructEq
import Derived.Laws.BytesString
import Derived.Laws.Rows
namespace Go.Proofs.YtdbenenonfldkaaDoor.PE
set_option linter.unusedVariables false
open Go.RowKit
/-- The cells of a row, from a place on. -/
def cut (c : Array Value) (off n : Nat) : List Value := (c.toList.drop off).take n
def RowAt {α : Type} (w : World) (F : Nat → Prop) (rd : α → List Value → Prop) (sz : Nat) (a : Addr) (l : List α) : Prop :=
  F a.block ∧ a.spot = none ∧ ∃ c T fr, w.heap[a.block]? = some (.cells c T fr) ∧ a.off + l.length * sz ≤ c.size ∧ ∀ i x, l[i]? = some x → rd x (cut c (a.off + i * sz) sz)
/-- Cells that read as a datum; what it leads to lies in blocks that no one writes (F). -/
def Rd (w : World) (F : Nat → Prop) : (t : Ty) → t.den → List Value → Prop
  | .int k, n, cs => cs = [.int k n]
  | .bool, b, cs => cs = [.bool b]
  | .str, s, cs => cs = [.string s]
  | .slice e, l, cs => ∃ A n c, cs = [.slice A n c] ∧ n = l.length ∧ n ≤ c ∧ (A = none → c = 0) ∧ ∀ a, A = some a → l ≠ [] → RowAt w F (Rd w F e) e.cells a l
  | .unit, _, cs => cs = []
  | .fn f t, x, cs => ∃ vs : Array Value, cs = [.func (.func f) #[] vs] ∧ Rd w F t x vs.toList
  | .ref t, x, cs => ∃ a : Addr, cs = [.pointer (some ⟨a.block, a.off, none⟩)] ∧ F a.block ∧ ∃ c T fr, w.heap[a.block]? = some (.cells c T fr) ∧ a.off + t.cells ≤ c.size ∧ Rd w F t x (cut c a.off t.cells)
  | .pair a b, x, cs => ∃ c1 c2, cs = c1 ++ c2 ∧ Rd w F a x.1 c1 ∧ Rd w F b x.2 c2
  | .cpx, x, cs => ∃ a b, cs = [.complex .f64 a b] ∧ Fl a x.1 ∧ Fl b x.2
theorem Rd.length {w : World} {F : Nat → Prop} : ∀ {t : Ty} {x : t.den} {cs : List Value}, Rd w F t x cs → cs.length = t.cells
  | .int _, _, _, h => by cases (show _ = _ from h); rfl
  | .bool, _, _, h => by cases (show _ = _ from h); rfl
  | .str, _, _, h => by cases (show _ = _ from h); rfl
  | .slice _, _, _, h => by obtain ⟨_, _, _, rfl, _⟩ := h; rfl
  | .unit, _, _, h => by cases (show _ = _ from h); rfl
  | .fn _ _, _, _, h => by obtain ⟨_, rfl, _⟩ := h; rfl
  | .ref _, _, _, h => by obtain ⟨_, rfl, _⟩ := h; rfl
  | .cpx, _, _, h => by obtain ⟨_, _, rfl, _⟩ := h; rfl
  | .pair a b, _, _, h => by
    obtain ⟨c1, c2, rfl, h1, h2⟩ := h
    simp [Ty.cells, Rd.length h1, Rd.length h2]
theorem Rd.step {w w' : World} {F F' : Nat → Prop} (hb : ∀ b, F b → w'.heap[b]? = w.heap[b]?) (hF : ∀ b, F b → F' b) :
    ∀ {t : Ty} {x : t.den} {cs : List Value}, Rd w F t x cs → Rd w' F' t x cs
  | .int _, _, _, h => h
  | .bool, _, _, h => h
  | .str, _, _, h => h
  | .cpx, _, _, h => h
  | .slice e, l, _, h => by
    obtain ⟨A, n, c, h1, h2, h3, h4, h5⟩ := h
    refine ⟨A, n, c, h1, h2, h3, h4, fun a ha hl => ?_⟩
    obtain ⟨f1, f2, d, T, fr, g1, g2, g3⟩ := h5 a ha hl
    exact ⟨hF _ f1, f2, d, T, fr, by rw [hb _ f1]; exact g1, g2, fun i x hx => Rd.step hb hF (g3 i x hx)⟩
  | .unit, _, _, h => h
  | .fn _ _, _, _, h => by
    obtain ⟨vs, e, h1⟩ := h
    exact ⟨vs, e, Rd.step hb hF h1⟩
  | .ref _, _, _, h => by
    obtain ⟨a, e, f1, c, T, fr, g1, g2, g3⟩ := h
    exact ⟨a, e, hF _ f1, c, T, fr, by rw [hb _ f1]; exact g1, g2, Rd.step hb hF g3⟩
  | .pair a b, _, _, h => by
    obtain ⟨c1, c2, e, h1, h2⟩ := h
    exact ⟨c1, c2, e, Rd.step hb hF h1, Rd.step hb hF h2⟩
/-- A datum without addresses reads the same in each world. -/
theorem Rd.flat {w w' : World} {F F' : Nat → Prop} : ∀ {t : Ty} {x : t.den} {cs : List Value}, t.flat = true → Rd w F t x cs → Rd w' F' t x cs
  | .int _, _, _, _, h => h
  | .bool, _, _, _, h => h
  | .str, _, _, _, h => h
  | .cpx, _, _, _, h => h
  | .slice e, l, _, hf, _ => by cases hf
  | .unit, _, _, _, h => h
  | .fn _ _, _, _, hf, h => by
    obtain ⟨vs, e, h1⟩ := h
    exact ⟨vs, e, Rd.flat hf h1⟩
  | .ref _, _, _, hf, _ => by cases hf
  | .pair a b, _, _, hf, h => by
    obtain ⟨c1, c2, e, h1, h2⟩ := h
    simp only [Ty.flat, Bool.and_eq_true] at hf
    exact ⟨c1, c2, e, Rd.flat hf.1 h1, Rd.flat hf.2 h2⟩
/-- Where an object lies: its block, how many elements it has room for, and an element's cells. -/
structure Loc where
  blk : Option Nat
  cap : Nat
  sz : Nat
def SlAt (L : Loc) (off len : Nat) (v : Value) : Prop :=
  ∃ A, v = .slice A len (L.cap - off) ∧ off + len ≤ L.cap ∧ (∀ b, L.blk = some b → L.cap - off ≠ 0 → A = some ⟨b, off * L.sz, none⟩) ∧ (L.blk = none → A = none)
def lenOf : Option Ob → Option Nat
  | some (.row _ l _ _) => some l.length
  | _ => none
mutual
def R (w : World) (F : Nat → Prop) (g : Nat → Loc) (ob : Nat → Option Ob) : AV → Value → Prop
  | .top, _ => True
  | .int k n, v => v = .int k n
  | .bool b, v => v = .bool b
  | .str s, v => v = .string s
  | .flt n, v => ∃ b, v = .float .f64 b ∧ Fl b n
  | .cpx x y, v => ∃ a b, v = .complex .f64 a b ∧ Fl a x ∧ Fl b y
  | .nilp, v => v = .pointer none
  | .ptr id off, v => ∃ b, (g id).blk = some b ∧ v = .pointer (some ⟨b, off, none⟩)
  | .eptr id i off, v => ∃ b, (g id).blk = some b ∧ v = .pointer (some ⟨b, i * (g id).sz + off, none⟩)
  | .fptr t x off, v => ∃ a : Addr, v = .pointer (some ⟨a.block, a.off + off, none⟩) ∧ F a.block ∧ ∃ c T fr, w.heap[a.block]? = some (.cells c T fr) ∧ a.off + t.cells ≤ c.size ∧ Rd w F t x (cut c a.off t.cells)
  | .nils, v => v = .slice none 0 0
  | .sl id off len, v => SlAt (g id) off len v
  | .ow id, v => (∃ A n c, v = .slice A n c) ∧ ∀ n, lenOf (ob id) = some n → SlAt (g id) 0 n v
  | .fz e l full nn, v => Rd w F (.slice e) l [v] ∧ ∀ A n c, v = .slice A n c → (full = true → c = n) ∧ (nn = true → A ≠ none)
  | .nilf, v => v = .nilFunc
  | .any, v => ∃ A n c, v = .slice A n c
  | .func f cs, v => ∃ vs : Array Value, v = .func (.func f) #[] vs ∧ RAll w F g ob cs vs.toList
  | .bnd f cs, v => ∃ vs : Array Value, v = .func (.func f) vs #[] ∧ RAll w F g ob cs vs.toList
  | .agg cs, v => ∃ vs : Array Value, v = .agg vs ∧ RAll w F g ob cs vs.toList
  | .tup cs, v => ∃ vs : Array Value, v = .tuple vs ∧ RAll w F g ob cs vs.toList
def RAll (w : World) (F : Nat → Prop) (g : Nat → Loc) (ob : Nat → Option Ob) : List AV → List Value → Prop
  | [], vs => vs = []
  | a :: r, vs => ∃ v s, vs = v :: s ∧ R w F g ob a v ∧ RAll w F g ob r s
end
section
variable {w w' : World} {F F' : Nat → Prop} {g g' : Nat → Loc} {ob ob' : Nat → Option Ob}
mutual
/-- What is said of a value stays, where the blocks of data do and what it names lies where it lay. -/
theorem R.step (hb : ∀ b, F b → w'.heap[b]? = w.heap[b]?) (hF : ∀ b, F b → F' b) : ∀ {a : AV} {v : Value}, R w F g ob a v →
    (∀ id, id ∈ a.refs → g' id = g id ∧ ∀ n, lenOf (ob' id) = some n → lenOf (ob id) = some n) → R w' F' g' ob' a v
  | .top, _, _, _ => trivial
  | .int _ _, _, h, _ => h
  | .bool _, _, h, _ => h
  | .str _, _, h, _ => h
  | .flt _, _, h, _ => h
  | .cpx _ _, _, h, _ => h
  | .nilp, _, h, _ => h
  | .ptr id off, _, h, hg => by
    obtain ⟨b, h1, h2⟩ := h
    exact ⟨b, by rw [(hg id (by simp [AV.refs])).1]; exact h1, h2⟩
  | .eptr id i off, _, h, hg => by
    obtain ⟨b, h1, h2⟩ := h
    exact ⟨b, by rw [(hg id (by simp [AV.refs])).1]; exact h1, by rw [(hg id (by simp [AV.refs])).1]; exact h2⟩
  | .fptr t x off, _, h, _ => by
    obtain ⟨a, h1, h2, c, T, fr, h3, h4, h5⟩ := h
    exact ⟨a, h1, hF _ h2, c, T, fr, by rw [hb _ h2]; exact h3, h4, h5.step hb hF⟩
  | .nils, _, h, _ => h
  | .sl id off len, _, h, hg => by
    show SlAt (g' id) off len _
    rw [(hg id (by simp [AV.refs])).1]; exact h
  | .ow id, _, h, hg => ⟨h.1, fun n hn => by
    rw [(hg id (by simp [AV.refs])).1]
    exact h.2 n ((hg id (by simp [AV.refs])).2 n hn)⟩
  | .fz e l full nn, _, h, _ => ⟨h.1.step hb hF, h.2⟩
  | .nilf, _, h, _ => h
  | .any, _, h, _ => h
  | .func f cs, _, h, hg => by obtain ⟨vs, e, h⟩ := h; exact ⟨vs, e, RAll.step hb hF h fun id hi => hg id (by simpa [AV.refs] using hi)⟩
  | .bnd f cs, _, h, hg => by obtain ⟨vs, e, h⟩ := h; exact ⟨vs, e, RAll.step hb hF h fun id hi => hg id (by simpa [AV.refs] using hi)⟩
  | .agg cs, _, h, hg => by obtain ⟨vs, e, h⟩ := h; exact ⟨vs, e, RAll.step hb hF h fun id hi => hg id (by simpa [AV.refs] using hi)⟩
  | .tup cs, _, h, hg => by obtain ⟨vs, e, h⟩ := h; exact ⟨vs, e, RAll.step hb hF h fun id hi => hg id (by simpa [AV.refs] using hi)⟩
theorem RAll.step (hb : ∀ b, F b → w'.heap[b]? = w.heap[b]?) (hF : ∀ b, F b → F' b) : ∀ {cs : List AV} {vs : List Value}, RAll w F g ob cs vs →
    (∀ id, id ∈ AV.refsAll cs → g' id = g id ∧ ∀ n, lenOf (ob' id) = some n → lenOf (ob id) = some n) → RAll w' F' g' ob' cs vs
  | [], _, h, _ => h
  | a :: r, _, h, hg => by
    obtain ⟨v, s, e, h1, h2⟩ := h
    exact ⟨v, s, e, R.step hb hF h1 fun id hi => hg id (by simp [AV.refsAll, hi]), RAll.step hb hF h2 fun id hi => hg id (by simp [AV.refsAll, hi])⟩
end
theorem any_beq {ids : List Nat} {i : Nat} : ids.any (Nat.beq i) = true ↔ i ∈ ids := by
  rw [List.any_eq_true]
  constructor
  · rintro ⟨x, hx, e⟩
    rw [Nat.eq_of_beq_eq_true e]; exact hx
  · intro h; exact ⟨i, h, Nat.beq_refl i⟩
theorem any_beq_false {ids : List Nat} {i : Nat} : ids.any (Nat.beq i) = false ↔ i ∉ ids := by
  rw [← Bool.not_eq_true, any_beq]
mutual
theorem refs_kill (ids : List Nat) : ∀ (a : AV) (id : Nat), id ∈ (a.kill ids).refs → id ∈ a.refs ∧ id ∉ ids
  | .top, _, h | .int _ _, _, h | .bool _, _, h | .str _, _, h | .flt _, _, h | .cpx _ _, _, h | .nilp, _, h | .fptr _ _ _, _, h | .nils, _, h | .fz _ _ _ _, _, h | .nilf, _, h | .any, _, h => by simp [AV.kill, AV.refs] at h
  | .ptr i off, id, h => by
    unfold AV.kill at h
    cases e : ids.any (Nat.beq i) <;> rw [e] at h
    · simp only [cond_false, AV.refs, List.mem_singleton] at h ⊢; subst h; exact ⟨rfl, any_beq_false.1 e⟩
    · simp [AV.refs] at h
  | .eptr i j off, id, h => by
    unfold AV.kill at h
    cases e : ids.any (Nat.beq i) <;> rw [e] at h
    · simp only [cond_false, AV.refs, List.mem_singleton] at h ⊢; subst h; exact ⟨rfl, any_beq_false.1 e⟩
    · simp [AV.refs] at h
  | .sl i off len, id, h => by
    unfold AV.kill at h
    cases e : ids.any (Nat.beq i) <;> rw [e] at h
    · simp only [cond_false, AV.refs, List.mem_singleton] at h ⊢; subst h; exact ⟨rfl, any_beq_false.1 e⟩
    · simp [AV.refs] at h
  | .ow i, id, h => by
    unfold AV.kill at h
    cases e : ids.any (Nat.beq i) <;> rw [e] at h
    · simp only [cond_false, AV.refs, List.mem_singleton] at h ⊢; subst h; exact ⟨rfl, any_beq_false.1 e⟩
    · simp [AV.refs] at h
  | .func f cs, id, h => by simp only [AV.kill, AV.refs] at h ⊢; exact refsAll_kill ids cs id h
  | .bnd f cs, id, h => by simp only [AV.kill, AV.refs] at h ⊢; exact refsAll_kill ids cs id h
  | .agg cs, id, h => by simp only [AV.kill, AV.refs] at h ⊢; exact refsAll_kill ids cs id h
  | .tup cs, id, h => by simp only [AV.kill, AV.refs] at h ⊢; exact refsAll_kill ids cs id h
theorem refsAll_kill (ids : List Nat) : ∀ (cs : List AV) (id : Nat), id ∈ AV.refsAll (AV.killAll ids cs) → id ∈ AV.refsAll cs ∧ id ∉ ids
  | [], _, h => by simp [AV.killAll, AV.refsAll] at h
  | a :: r, id, h => by
    simp only [AV.killAll, AV.refsAll, List.mem_append] at h ⊢
    rcases h with h | h
    · exact ⟨.inl (refs_kill ids a id h).1, (refs_kill ids a id h).2⟩
    · exact ⟨.inr (refsAll_kill ids r id h).1, (refsAll_kill ids r id h).2⟩
end
mutual
theorem R.kill (ids : List Nat) : ∀ {a : AV} {v : Value}, R w F g ob a v → R w F g ob (a.kill ids) v
  | .top, _, h | .int _ _, _, h | .bool _, _, h | .str _, _, h | .flt _, _, h | .cpx _ _, _, h | .nilp, _, h | .fptr _ _ _, _, h | .nils, _, h | .fz _ _ _ _, _, h | .nilf, _, h | .any, _, h => h
  | .ptr i off, _, h => by unfold AV.kill; cases ids.any (Nat.beq i); exact h; exact trivial
  | .eptr i j off, _, h => by unfold AV.kill; cases ids.any (Nat.beq i); exact h; exact trivial
  | .sl i off len, _, h => by unfold AV.kill; cases ids.any (Nat.beq i); exact h; exact trivial
  | .ow i, _, h => by unfold AV.kill; cases ids.any (Nat.beq i); exact h; exact trivial
  | .func f cs, _, h => by obtain ⟨vs, e, h⟩ := h; exact ⟨vs, e, RAll.kill ids h⟩
  | .bnd f cs, _, h => by obtain ⟨vs, e, h⟩ := h; exact ⟨vs, e, RAll.kill ids h⟩
  | .agg cs, _, h => by obtain ⟨vs, e, h⟩ := h; exact ⟨vs, e, RAll.kill ids h⟩
  | .tup cs, _, h => by obtain ⟨vs, e, h⟩ := h; exact ⟨vs, e, RAll.kill ids h⟩
theorem RAll.kill (ids : List Nat) : ∀ {cs : List AV} {vs : List Value}, RAll w F g ob cs vs → RAll w F g ob (AV.killAll ids cs) vs
  | [], _, h => h
  | a :: r, _, h => by
    obtain ⟨v, s, e, h1, h2⟩ := h
    exact ⟨v, s, e, R.kill ids h1, RAll.kill ids h2⟩
end
/-- No cell of a row shares its bytes with a string. -/
def NoFr (fr : Nat × Nat) (n : Nat) : Prop := ∀ i, i < n → ¬ (fr.1 ≤ i ∧ i < fr.2)
theorem NoFr.of {fr : Nat × Nat} {n k : Nat} (h : NoFr fr (n + k)) : NoFr fr n := fun i hi => h i (by omega)
/-- A row that is no text's bytes has no mark behind its last cell. -/
def slack : Ty → Nat
  | .int .u8 => 0
  | _ => 1
def Ob.own : Ob → Prop
  | .cells _ => True
  | .row _ _ _ frz => frz = false
/-- What an object says of the world. -/
def ORel (w : World) (F : Nat → Prop) (g : Nat → Loc) (ob : Nat → Option Ob) (mine : Nat → Prop) (id : Nat) : Ob → Prop
  | .cells cs => ∃ b c T fr, (g id).blk = some b ∧ mine b ∧ ¬ F b ∧ w.heap[b]? = some (.cells c T fr) ∧ NoFr fr c.size ∧ RAll w F g ob cs c.toList ∧ (g id).cap = c.size ∧ (g id).sz = 1
  | .row e l cm frz => (g id).sz = e.cells ∧ l.length ≤ (g id).cap ∧ cm ≤ (g id).cap ∧ ((g id).blk = none → (g id).cap = 0) ∧
    ∀ b, (g id).blk = some b → ∃ c T fr, w.heap[b]? = some (.cells c T fr) ∧ c.size = (g id).cap * e.cells ∧ NoFr fr (c.size + slack e) ∧ (frz = true → F b) ∧ (frz = false → mine b ∧ ¬ F b) ∧
      ∀ i x, l[i]? = some x → Rd w F e x (cut c (i * e.cells) e.cells)
/-- An abstract state and an activation's. -/
structure Rel (w : World) (F : Nat → Prop) (g : Nat → Loc) (mine : Nat → Prop) (σ : St) (a : Act) : Prop where
  tm : ∀ t, R w F g σ.ob (σ.tm t) (a.tmps.getD t undef)
  ob : ∀ id o, σ.ob id = some o → ORel w F g σ.ob mine id o
  uniq : ∀ i j o p b, σ.ob i = some o → σ.ob j = some p → o.own → p.own → (g i).blk = some b → (g j).blk = some b → i = j
  low : ∀ b, F b → b < w.heap.size
  up : ∀ b, w.heap.size ≤ b → mine b
/-- From one world to a later one: only blocks of one's own were written, and none that data lies in. -/
structure Step (mine : Nat → Prop) (w : World) (F : Nat → Prop) (w' : World) (F' : Nat → Prop) : Prop where
  os : w'.os = w.os
  tape : w'.tape = w.tape
  output : w'.output = w.output
  size : w.heap.size ≤ w'.heap.size
  kept : ∀ b, b < w.heap.size → ¬ mine b → w'.heap[b]? = w.heap[b]?
  data : ∀ b, F b → w'.heap[b]? = w.heap[b]?
  grow : ∀ b, F b → F' b
  from_ : ∀ b, F' b → F b ∨ mine b
theorem Step.refl (mine : Nat → Prop) (w : World) (F : Nat → Prop) : Step mine w F w F := ⟨rfl, rfl, rfl, Nat.le_refl _, fun _ _ _ => rfl, fun _ _ => rfl, fun _ h => h, fun _ h => .inl h⟩
theorem Step.trans {mine : Nat → Prop} {a b c : World} {F G H : Nat → Prop} (h : Step mine a F b G) (k : Step mine b G c H) : Step mine a F c H where
  os := k.os.trans h.os
  tape := k.tape.trans h.tape
  output := k.output.trans h.output
  size := Nat.le_trans h.size k.size
  kept := fun x hx hm => (k.kept x (Nat.lt_of_lt_of_le hx h.size) hm).trans (h.kept x hx hm)
  data := fun x hx => (k.data x (h.grow x hx)).trans (h.data x hx)
  grow := fun x hx => k.grow x (h.grow x hx)
  from_ := fun x hx => (k.from_ x hx).elim (fun y => h.from_ x y) .inr
end
end Go.Proofs.YtdbenenonfldkaaDoor.PE
