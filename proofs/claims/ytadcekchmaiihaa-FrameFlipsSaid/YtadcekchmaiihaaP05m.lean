/- Records of bytes: what is written ahead of one, and what a reading finds: plain mathematics; torn anywhere; a byte turned. -/
import Derived.Test.YtadcekchmaiihaaCrcMath
namespace Go.Proofs.Ytadcekchmaiihaa.PE
set_option linter.unusedVariables false
open Go Go.RowKit Go.Proofs.Ytadcekchmaiihaa.Crc
theorem b_app {a b : List Int} (ha : Bytes a) (hb : Bytes b) : Bytes (a ++ b) := fun x hx => by
  rcases List.mem_append.mp hx with h | h
  · exact ha x h
  · exact hb x h
theorem b_drop {a : List Int} (ha : Bytes a) (n : Nat) : Bytes (a.drop n) := fun x hx => ha x (List.mem_of_mem_drop hx)
theorem b_take {a : List Int} (ha : Bytes a) (n : Nat) : Bytes (a.take n) := fun x hx => ha x (List.mem_of_mem_take hx)
theorem b_nil : Bytes [] := fun x hx => by cases hx
/-- The sum of some bytes. -/
def sumv (b : List Int) : Nat := M ^^^ run M b
theorem sumv_lt {b : List Int} (hb : Bytes b) : sumv b < 4294967296 := xor_lt (by decide) (run_lt (by decide) hb)
/-- A number as four bytes, the lowest first. -/
def le4 (n : Int) : List Int := [n % 256, n / 256 % 256, n / 65536 % 256, n / 16777216 % 256]
theorem le4_length (n : Int) : (le4 n).length = 4 := rfl
theorem le4_bytes (n : Int) : Bytes (le4 n) := fun x hx => by
  simp only [le4, List.mem_cons, List.not_mem_nil, or_false] at hx
  rcases hx with h | h | h | h <;> omega
/-- The number that four bytes are. -/
def g4 (b : List Int) : Int := b.getD 0 0 + 256 * b.getD 1 0 + 65536 * b.getD 2 0 + 16777216 * b.getD 3 0
theorem g4_range {b : List Int} (hb : Bytes b) (h : 4 ≤ b.length) : 0 ≤ g4 b ∧ g4 b < 4294967296 := by
  match b, h with
  | x0 :: x1 :: x2 :: x3 :: t, _ =>
    have h0 := hb x0 (by simp); have h1 := hb x1 (by simp); have h2 := hb x2 (by simp); have h3 := hb x3 (by simp)
    show 0 ≤ x0 + 256 * x1 + 65536 * x2 + 16777216 * x3 ∧ x0 + 256 * x1 + 65536 * x2 + 16777216 * x3 < 4294967296
    omega
theorem g4_le4 {n : Int} (h0 : 0 ≤ n) (h1 : n < 4294967296) (t : List Int) : g4 (le4 n ++ t) = n := by
  show n % 256 + 256 * (n / 256 % 256) + 65536 * (n / 65536 % 256) + 16777216 * (n / 16777216 % 256) = n
  omega
theorem g4_app {b : List Int} (h : 4 ≤ b.length) (t : List Int) : g4 (b ++ t) = g4 b := by
  match b, h with
  | x0 :: x1 :: x2 :: x3 :: q, _ => rfl
/-- Four other bytes are another number. -/
theorem g4_inj {a b : List Int} (ha : Bytes a) (hb : Bytes b) (la : a.length = 4) (lb : b.length = 4) (h : g4 a = g4 b) : a = b := by
  match a, la, b, lb with
  | [x0, x1, x2, x3], _, [y0, y1, y2, y3], _ =>
    have h0 := ha x0 (by simp); have h1 := ha x1 (by simp); have h2 := ha x2 (by simp); have h3 := ha x3 (by simp)
    have k0 := hb y0 (by simp); have k1 := hb y1 (by simp); have k2 := hb y2 (by simp); have k3 := hb y3 (by simp)
    have h : x0 + 256 * x1 + 65536 * x2 + 16777216 * x3 = y0 + 256 * y1 + 65536 * y2 + 16777216 * y3 := h
    have e0 : x0 = y0 := by omega
    have e1 : x1 = y1 := by omega
    have e2 : x2 = y2 := by omega
    have e3 : x3 = y3 := by omega
    rw [e0, e1, e2, e3]
/-- What stands ahead of a record, and the record. -/
def hd (r : List Int) : List Int := le4 ((r.length : Int) % 4294967296)
def rec_ (r : List Int) : List Int := hd r ++ (le4 ((sumv (hd r ++ r) : Nat) : Int) ++ r)
theorem hd_length (r : List Int) : (hd r).length = 4 := rfl
theorem hd_bytes (r : List Int) : Bytes (hd r) := le4_bytes _
theorem rec_length (r : List Int) : (rec_ r).length = 8 + r.length := by simp only [rec_, hd_length, le4_length, List.length_append]; omega
theorem rec_bytes {r : List Int} (h : Bytes r) : Bytes (rec_ r) := b_app (hd_bytes r) (b_app (le4_bytes _) h)
/-- The record that bytes begin with. -/
def step (b : List Int) : Option (List Int) :=
  if b.length < 8 then none
  else if b.length < 8 + (g4 b).toNat then none
  else if g4 (b.drop 4) = ((sumv (b.take 4 ++ (b.drop 8).take (g4 b).toNat) : Nat) : Int) then some ((b.drop 8).take (g4 b).toNat) else none
/-- The records that bytes begin with, and how many bytes these are. -/
def scn : Nat → List Int → List (List Int) × Nat
  | 0, _ => ([], 0)
  | f + 1, b => match step b with
    | none => ([], 0)
    | some r => (r :: (scn f (b.drop (8 + r.length))).1, 8 + r.length + (scn f (b.drop (8 + r.length))).2)
/-- .. where the sum that stands there may be any, and the record, too. -/
theorem step_form {s r : List Int} (hs : Bytes s) (ls : s.length = 4) (hl : r.length < 4294967296) (t : List Int) :
    step (hd r ++ (s ++ (r ++ t))) = if g4 s = ((sumv (hd r ++ r) : Nat) : Int) then some r else none := by
  have g0 : g4 (hd r ++ (s ++ (r ++ t))) = (r.length : Int) := by
    unfold hd; rw [g4_le4 (by omega) (by omega)]; omega
  have d4 : (hd r ++ (s ++ (r ++ t))).drop 4 = s ++ (r ++ t) := rfl
  have d8 : (hd r ++ (s ++ (r ++ t))).drop 8 = r ++ t := by
    rw [show (hd r ++ (s ++ (r ++ t))).drop 8 = (s ++ (r ++ t)).drop 4 from rfl, ← ls, List.drop_left]
  have t4 : (hd r ++ (s ++ (r ++ t))).take 4 = hd r := rfl
  have hlen : (hd r ++ (s ++ (r ++ t))).length = 8 + r.length + t.length := by simp only [List.length_append, hd_length, ls]; omega
  unfold step
  rw [if_neg (by omega), g0, if_neg (by omega), d4, d8, t4, g4_app (by omega), Int.toNat_natCast, List.take_left]
theorem step_rec {r : List Int} (hr : Bytes r) (hl : r.length < 4294967296) (t : List Int) : step (rec_ r ++ t) = some r := by
  have hs := sumv_lt (b_app (hd_bytes r) hr)
  rw [rec_, List.append_assoc, List.append_assoc, step_form (le4_bytes _) rfl hl, if_pos]
  have := g4_le4 (n := ((sumv (hd r ++ r) : Nat) : Int)) (by omega) (by omega) []
  rwa [List.append_nil] at this
theorem step_some {b r : List Int} (h : step b = some r) : 8 + r.length ≤ b.length ∧ r = (b.drop 8).take (g4 b).toNat ∧ r.length = (g4 b).toNat ∧ g4 (b.drop 4) = ((sumv (b.take 4 ++ r) : Nat) : Int) := by
  unfold step at h
  by_cases h1 : b.length < 8
  · rw [if_pos h1] at h; cases h
  rw [if_neg h1] at h
  by_cases h2 : b.length < 8 + (g4 b).toNat
  · rw [if_pos h2] at h; cases h
  rw [if_neg h2] at h
  by_cases h3 : g4 (b.drop 4) = ((sumv (b.take 4 ++ (b.drop 8).take (g4 b).toNat) : Nat) : Int)
  · rw [if_pos h3] at h
    have h := Option.some.inj h
    subst h
    have hl : ((b.drop 8).take (g4 b).toNat).length = (g4 b).toNat := by rw [List.length_take, List.length_drop]; omega
    exact ⟨by omega, rfl, hl, h3⟩
  · rw [if_neg h3] at h; cases h
theorem scn_none {b : List Int} (h : step b = none) (f : Nat) : scn f b = ([], 0) := by
  cases f with
  | zero => rfl
  | succ f => rw [scn, h]
theorem scn_rec {r : List Int} (hr : Bytes r) (hl : r.length < 4294967296) (t : List Int) (f : Nat) : scn (f + 1) (rec_ r ++ t) = (r :: (scn f t).1, 8 + r.length + (scn f t).2) := by
  have d : (rec_ r ++ t).drop (8 + r.length) = t := by rw [← rec_length r, List.drop_left]
  rw [scn, step_rec hr hl t]
  simp only [d]
theorem step_app {b r : List Int} (h : step b = some r) (t : List Int) : step (b ++ t) = some r := by
  obtain ⟨h1, h2, h3, h4⟩ := step_some h
  have l : (b ++ t).length = b.length + t.length := List.length_append
  have eg : g4 (b ++ t) = g4 b := g4_app (by omega) t
  have eg4 : g4 ((b ++ t).drop 4) = g4 (b.drop 4) := by
    rw [List.drop_append_of_le_length (by omega)]
    exact g4_app (by rw [List.length_drop]; omega) t
  unfold step
  rw [if_neg (by omega), eg, if_neg (by omega), eg4, List.take_append_of_le_length (by omega), List.drop_append_of_le_length (by omega), List.take_append_of_le_length (by rw [List.length_drop]; omega), ← h2, if_pos h4]
/-- How long some records are together; what they are when written. -/
def tot : List (List Int) → Nat
  | [] => 0
  | r :: t => r.length + tot t
def cat : List (List Int) → List Int
  | [] => []
  | r :: t => rec_ r ++ cat t
theorem cat_length : ∀ l, (cat l).length = 8 * l.length + tot l
  | [] => rfl
  | r :: t => by rw [cat, tot, List.length_append, rec_length, List.length_cons, cat_length t]; omega
theorem cat_bytes : ∀ {l : List (List Int)}, (∀ r ∈ l, Bytes r) → Bytes (cat l)
  | [], _ => b_nil
  | r :: t, h => b_app (rec_bytes (h r (by simp))) (cat_bytes fun q hq => h q (by simp [hq]))
theorem cat_app : ∀ (a b : List (List Int)), cat (a ++ b) = cat a ++ cat b
  | [], b => rfl
  | r :: a, b => by rw [List.cons_append, cat, cat, cat_app a b, List.append_assoc]
theorem tot_app : ∀ (a b : List (List Int)), tot (a ++ b) = tot a + tot b
  | [], b => by rw [List.nil_append, tot]; omega
  | r :: a, b => by rw [List.cons_append, tot, tot, tot_app a b]; omega
theorem tot_mem : ∀ {l : List (List Int)} {r : List Int}, r ∈ l → r.length ≤ tot l
  | q :: t, r, h => by
    rw [tot]
    rcases List.mem_cons.mp h with e | e
    · subst e; omega
    · have := tot_mem e; omega
theorem scn_cat (t : List Int) (f : Nat) : ∀ l : List (List Int), (∀ r ∈ l, Bytes r ∧ r.length < 4294967296) → scn (f + l.length) (cat l ++ t) = (l ++ (scn f t).1, (cat l).length + (scn f t).2)
  | [], _ => by simp [cat]
  | r :: q, h => by
    have h1 := h r (by simp)
    have h2 := scn_cat t f q (fun x hx => h x (by simp [hx]))
    rw [cat, List.append_assoc, List.length_cons, show f + (q.length + 1) = (f + q.length) + 1 by omega, scn_rec h1.1 h1.2, h2, List.length_append, rec_length]
    simp only [List.cons_append, Nat.add_assoc]
theorem step_short {b : List Int} (h : b.length < 8) : step b = none := by unfold step; rw [if_pos h]
theorem scn_more (f : Nat) : ∀ (b : List Int) (e : Nat), b.length < 8 * f → scn (f + e) b = scn f b := by
  induction f with
  | zero => intro b e h; omega
  | succ f ih =>
    intro b e h
    rw [show f + 1 + e = (f + e) + 1 by omega, scn, scn]
    cases hs : step b with
    | none => rfl
    | some r =>
      have := (step_some hs).1
      simp only [ih (b.drop (8 + r.length)) e (by rw [List.length_drop]; omega)]
/-- Torn anywhere: the first records, just those that are whole. -/
theorem scn_torn : ∀ (l : List (List Int)) (k f : Nat), (∀ r ∈ l, Bytes r ∧ r.length < 4294967296) → k ≤ (cat l).length → k < 8 * f →
    ∃ j, j ≤ l.length ∧ scn f ((cat l).take k) = (l.take j, (cat (l.take j)).length) ∧ (cat (l.take j)).length ≤ k ∧ (cat l).take (cat (l.take j)).length = cat (l.take j) ∧ (j = l.length ∨ ∃ r, l[j]? = some r ∧ k < (cat (l.take j)).length + 8 + r.length)
  | [], k, f, _, hk, hf => by
    refine ⟨0, Nat.le_refl _, ?_, Nat.zero_le _, rfl, .inl rfl⟩
    rw [show (cat []).take k = [] by simp [cat]]
    exact scn_none rfl f
  | r :: q, k, f, h, hk, hf => by
    obtain ⟨h1, h2⟩ := h r (by simp)
    cases f with
    | zero => omega
    | succ f =>
    by_cases hw : 8 + r.length ≤ k
    · obtain ⟨j, j1, j2, j3, j4, j5⟩ := scn_torn q (k - (8 + r.length)) f (fun x hx => h x (by simp [hx])) (by rw [cat, List.length_append, rec_length] at hk; omega) (by omega)
      refine ⟨j + 1, by rw [List.length_cons]; omega, ?_, ?_, ?_, ?_⟩
      · rw [cat, List.take_append, List.take_of_length_le (by rw [rec_length]; omega), rec_length, scn_rec h1 h2, j2, List.take_succ_cons, cat, List.length_append, rec_length]
      · rw [List.take_succ_cons, cat, List.length_append, rec_length]; omega
      · rw [List.take_succ_cons, cat, cat, List.length_append, List.take_length_add_append, j4]
      · rcases j5 with j5 | ⟨x, j5, j6⟩
        · exact .inl (by rw [List.length_cons]; omega)
        · refine .inr ⟨x, by simpa using j5, ?_⟩
          rw [List.take_succ_cons, cat, List.length_append, rec_length]; omega
    · refine ⟨0, Nat.zero_le _, ?_, Nat.zero_le _, rfl, .inr ⟨r, rfl, ?_⟩⟩
      · have : step ((cat (r :: q)).take k) = none := by
          cases hs : step ((cat (r :: q)).take k) with
          | none => rfl
          | some x =>
            exfalso
            have a1 := step_app hs ((cat (r :: q)).drop k)
            rw [List.take_append_drop, cat, step_rec h1 h2] at a1
            have e := Option.some.inj a1
            have a2 := (step_some hs).1
            rw [List.length_take] at a2
            rw [← e] at a2
            omega
        exact scn_none this _
      · show k < 0 + 8 + r.length; omega
/-! a byte turned -/
theorem run_turn (s : Nat) (a t : List Int) (x y : Nat) (hx : x < 256) (hy : y < 256) (hxy : x ≠ y) (hs : s < 4294967296) (ha : Bytes a) (ht : Bytes t) : run s (a ++ (x : Int) :: t) ≠ run s (a ++ (y : Int) :: t) := by
  rw [run_append, run_append, run_cons, run_cons, Int.toNat_natCast, Int.toNat_natCast]
  generalize hq : run s a = q
  have key : ∀ (t : List Int) (u v : Nat), u < 4294967296 → v < 4294967296 → Bytes t → u ≠ v → run u t ≠ run v t := by
    intro t
    induction t with
    | nil => intro u v _ _ _ h; exact h
    | cons c t ih =>
      intro u v hu hv hb h
      have hc := hb c (by simp)
      rw [run_cons, run_cons]
      refine ih _ _ (byt_lt hu (by omega)) (byt_lt hv (by omega)) (fun z hz => hb z (by simp [hz])) fun e => ?_
      have e2 : byt u c.toNat ^^^ byt v c.toNat = 0 := by rw [e, Nat.xor_self]
      rw [← byt_xor, Nat.xor_self] at e2
      have hne : u ^^^ v ≠ 0 := fun h0 => h (by
        have := congrArg (fun z => z ^^^ v) h0
        simpa [Nat.xor_assoc] using this)
      have := stn_ne (s := u ^^^ v) 8 (xor_lt hu hv) hne
      apply this
      rw [byt, Nat.xor_zero] at e2
      exact e2
  have hqs : q < 4294967296 := hq ▸ run_lt hs ha
  refine key t _ _ (byt_lt hqs (by omega)) (byt_lt hqs (by omega)) ht fun e => ?_
  have e2 : byt q x ^^^ byt q y = 0 := by rw [e, Nat.xor_self]
  rw [← byt_xor, Nat.xor_self] at e2
  have hne : x ^^^ y ≠ 0 := fun h0 => hxy (by
    have := congrArg (fun z => z ^^^ y) h0
    simpa [Nat.xor_assoc] using this)
  have := stn_ne (s := x ^^^ y) 8 (xor_lt (by omega) (by omega)) hne
  apply this
  rw [byt, Nat.zero_xor] at e2
  exact e2
theorem sumv_turn (a t : List Int) (x y : Nat) (hx : x < 256) (hy : y < 256) (hxy : x ≠ y) (ha : Bytes a) (ht : Bytes t) : sumv (a ++ (x : Int) :: t) ≠ sumv (a ++ (y : Int) :: t) := fun h => by
  have h2 : M ^^^ run M (a ++ (x : Int) :: t) = M ^^^ run M (a ++ (y : Int) :: t) := h
  have := congrArg (fun z => M ^^^ z) h2
  simp only [xor_self_l] at this
  exact run_turn M a t x y hx hy hxy (by decide) ha ht this
/-- Another sum ahead of a record: none is told. -/
theorem step_sum {s r : List Int} (hs : Bytes s) (ls : s.length = 4) (hr : Bytes r) (hl : r.length < 4294967296) (hne : s ≠ le4 ((sumv (hd r ++ r) : Nat) : Int)) (t : List Int) : step (hd r ++ (s ++ (r ++ t))) = none := by
  rw [step_form hs ls hl, if_neg]
  intro h
  have hb := sumv_lt (b_app (hd_bytes r) hr)
  have := g4_le4 (n := ((sumv (hd r ++ r) : Nat) : Int)) (by omega) (by omega) []
  rw [List.append_nil] at this
  exact hne (g4_inj hs (le4_bytes _) ls rfl (h.trans this.symm))
/-- Another record behind a sum: none is told. -/
theorem step_turn {a t : List Int} {x y : Nat} (hx : x < 256) (hy : y < 256) (hxy : x ≠ y) (ha : Bytes a) (ht : Bytes t) (hl : (a ++ (x : Int) :: t).length < 4294967296) (u : List Int) :
    step (hd (a ++ (x : Int) :: t) ++ (le4 ((sumv (hd (a ++ (x : Int) :: t) ++ (a ++ (x : Int) :: t)) : Nat) : Int) ++ ((a ++ (y : Int) :: t) ++ u))) = none := by
  have e : hd (a ++ (x : Int) :: t) = hd (a ++ (y : Int) :: t) := by unfold hd; rw [List.length_append, List.length_append]; rfl
  have hl2 : (a ++ (y : Int) :: t).length < 4294967296 := by rw [List.length_append, List.length_cons] at hl ⊢; exact hl
  have hbx : Bytes (a ++ (x : Int) :: t) := b_app ha (fun z hz => by rcases List.mem_cons.mp hz with rfl | hz; exact ⟨by omega, by omega⟩; exact ht z hz)
  have hb := sumv_lt (b_app (hd_bytes (a ++ (x : Int) :: t)) hbx)
  rw [e] at hb ⊢
  rw [step_form (le4_bytes _) rfl hl2, if_neg]
  intro h
  have g := g4_le4 (n := ((sumv (hd (a ++ (y : Int) :: t) ++ (a ++ (x : Int) :: t)) : Nat) : Int)) (by omega) (by omega) []
  rw [List.append_nil] at g
  rw [g] at h
  have h2 : sumv (hd (a ++ (y : Int) :: t) ++ (a ++ (x : Int) :: t)) = sumv (hd (a ++ (y : Int) :: t) ++ (a ++ (y : Int) :: t)) := by omega
  rw [← List.append_assoc, ← List.append_assoc] at h2
  exact sumv_turn _ t x y hx hy hxy (b_app (hd_bytes _) ha) ht h2
theorem set_at_app {a t : List Int} {v : Int} (i : Nat) : (a ++ t).set (a.length + i) v = a ++ t.set i v := by
  rw [List.set_append_right _ _ (Nat.le_add_right _ _), Nat.add_sub_cancel_left]
theorem nat_of {x : Int} (h : 0 ≤ x ∧ x < 256) : ∃ n : Nat, x = (n : Int) ∧ n < 256 := ⟨x.toNat, by omega, by omega⟩
/-- A byte turned, of a sum or of a record: the records ahead are told. -/
theorem scn_flip {l : List (List Int)} (h : ∀ r ∈ l, Bytes r ∧ r.length < 4294967296) {w : Nat} {r : List Int} (hw : l[w]? = some r) {j : Nat} (hj : j < 4 + r.length) {v : Int} (hv : 0 ≤ v ∧ v < 256)
    (hne : (cat l)[(cat (l.take w)).length + 4 + j]? ≠ some v) {f : Nat} (hf : (cat l).length < 8 * f) :
    scn f ((cat l).set ((cat (l.take w)).length + 4 + j) v) = (l.take w, (cat (l.take w)).length) := by
  have hlt : w < l.length := by
    rcases Nat.lt_or_ge w l.length with h1 | h1
    · exact h1
    · rw [List.getElem?_eq_none h1] at hw; cases hw
  obtain ⟨hr, hl⟩ := h r (List.mem_of_getElem? hw)
  have hsplit : l = l.take w ++ r :: l.drop (w + 1) := by
    rw [List.getElem?_eq_getElem hlt] at hw
    rw [← Option.some.inj hw, ← List.drop_eq_getElem_cons hlt, List.take_append_drop]
  have hcat : cat l = cat (l.take w) ++ (hd r ++ (le4 ((sumv (hd r ++ r) : Nat) : Int) ++ (r ++ cat (l.drop (w + 1))))) := by
    conv => lhs; rw [hsplit]
    rw [cat_app, cat, rec_]
    simp only [List.append_assoc]
  have hlen := cat_length l
  have hwl : (l.take w).length = w := by rw [List.length_take]; omega
  generalize hS : le4 ((sumv (hd r ++ r) : Nat) : Int) = S at hcat
  have lS : S.length = 4 := hS ▸ rfl
  have bS : Bytes S := hS ▸ le4_bytes _
  generalize cat (l.drop (w + 1)) = U at hcat
  have e4 : (cat (l.take w)).length + 4 + j = (cat (l.take w)).length + ((hd r).length + j) := by rw [hd_length]; omega
  have fin : ∀ T : List Int, step T = none → scn f (cat (l.take w) ++ T) = (l.take w, (cat (l.take w)).length) := fun T hT => by
    have := scn_cat T (f - w) (l.take w) (fun x hx => h x (List.mem_of_mem_take hx))
    rw [hwl, show f - w + w = f by omega, scn_none hT, List.append_nil, Nat.add_zero] at this
    exact this
  rw [e4, hcat] at hne ⊢
  rw [set_at_app, set_at_app]
  rw [List.getElem?_append_right (Nat.le_add_right _ _), Nat.add_sub_cancel_left, List.getElem?_append_right (Nat.le_add_right _ _), Nat.add_sub_cancel_left] at hne
  refine fin _ ?_
  by_cases hj4 : j < 4
  · rw [List.set_append_left _ _ (by omega)]
    rw [List.getElem?_append_left (by omega)] at hne
    refine step_sum (fun x hx => ?_) (by rw [List.length_set]; exact lS) hr hl ?_ U
    · rcases List.mem_or_eq_of_mem_set hx with hx | rfl
      · exact bS x hx
      · exact hv
    · rw [hS]
      intro he
      apply hne
      rw [← he, List.getElem?_set_self (by omega)]
  · have ej : j = S.length + (j - 4) := by omega
    rw [ej, List.getElem?_append_right (Nat.le_add_right _ _), Nat.add_sub_cancel_left, List.getElem?_append_left (by omega)] at hne
    rw [ej, set_at_app, List.set_append_left _ _ (by omega)]
    have hq : j - 4 < r.length := by omega
    generalize j - 4 = q at hne hq ⊢
    have hs2 : r = r.take q ++ r[q] :: r.drop (q + 1) := by rw [← List.drop_eq_getElem_cons hq, List.take_append_drop]
    have hset : r.set q v = r.take q ++ v :: r.drop (q + 1) := by
      conv => lhs; rw [hs2]
      have : q = (r.take q).length + 0 := by rw [List.length_take]; omega
      conv => lhs; arg 2; rw [this]
      rw [set_at_app]; rfl
    obtain ⟨x, hx, hx2⟩ := nat_of (hr _ (List.getElem_mem hq))
    obtain ⟨y, hy, hy2⟩ := nat_of hv
    rw [List.getElem?_eq_getElem hq] at hne
    rw [hx] at hs2 hne
    rw [hset, hy, ← hS]
    have := step_turn (a := r.take q) (t := r.drop (q + 1)) hx2 hy2 (fun e => hne (by rw [e, hy])) (b_take hr _) (b_drop hr _) (by rw [← hs2]; exact hl) U
    rw [← hs2] at this
    exact this
end Go.Proofs.Ytadcekchmaiihaa.PE
