import Derived.Test.YtadcekchmaiihaaRefSum
import Derived.Laws.BytesArg
/- Records of bytes: what is written ahead of one, and what a reading finds: plain mathematics. -/
namespace Go.Proofs.Ytadcekchmaiihaa.Frame
open Go Go.RowKit Go.Proofs.YtadcekchmaiihaaW.PrintWords Go.Proofs.YtadcekchmaiihaaW.PrintLast Go.Proofs.YtadcekchmaiihaaW.PrintMore Go.Proofs.Ytadcekchmaiihaa.Crc Go.Proofs.Ytadcekchmaiihaa.CrcOf

theorem b_app {a b : List Int} (ha : Bytes a) (hb : Bytes b) : Bytes (a ++ b) := fun x hx => by
  rcases List.mem_append.mp hx with h | h
  · exact ha x h
  · exact hb x h
theorem b_drop {a : List Int} (ha : Bytes a) (n : Nat) : Bytes (a.drop n) := fun x hx => ha x (List.mem_of_mem_drop hx)
theorem b_take {a : List Int} (ha : Bytes a) (n : Nat) : Bytes (a.take n) := fun x hx => ha x (List.mem_of_mem_take hx)
theorem b_nil : Bytes [] := fun x hx => by cases hx

/-- A number as four bytes, the lowest first. -/
def le4 (n : Int) : List Int := [n % 256, n / 256 % 256, n / 65536 % 256, n / 16777216 % 256]
theorem le4_length (n : Int) : (le4 n).length = 4 := rfl
theorem le4_bytes (n : Int) : Bytes (le4 n) := fun x hx => by
  simp only [le4, List.mem_cons, List.not_mem_nil, or_false] at hx
  rcases hx with h | h | h | h <;> omega
/-- The number that four bytes are. -/
def g (b : List Int) : Int := rd b 0 + 256 * rd b 1 + 65536 * rd b 2 + 16777216 * rd b 3
theorem g_range {b : List Int} (hb : Bytes b) (h : 4 ≤ b.length) : 0 ≤ g b ∧ g b < 4294967296 := by
  have e : ∀ i : Nat, i < 4 → 0 ≤ rd b (i : Int) ∧ rd b (i : Int) < 256 := fun i hi => by
    rw [rd_at (by omega)]; exact hb _ (List.getElem_mem _)
  have e0 := e 0 (by decide); have e1 := e 1 (by decide); have e2 := e 2 (by decide); have e3 := e 3 (by decide)
  simp only [Int.cast_ofNat_Int] at e0 e1 e2 e3
  unfold g; omega
theorem g_le4 {n : Int} (h0 : 0 ≤ n) (h1 : n < 4294967296) (t : List Int) : g (le4 n ++ t) = n := by
  have e0 : rd (le4 n ++ t) 0 = n % 256 := rfl
  have e1 : rd (le4 n ++ t) 1 = n / 256 % 256 := rfl
  have e2 : rd (le4 n ++ t) 2 = n / 65536 % 256 := rfl
  have e3 : rd (le4 n ++ t) 3 = n / 16777216 % 256 := rfl
  unfold g; rw [e0, e1, e2, e3]; omega
theorem le4_g {b : List Int} (hb : Bytes b) (h : 4 ≤ b.length) : le4 (g b) = b.take 4 := by
  match b, h with
  | x0 :: x1 :: x2 :: x3 :: t, _ =>
    have e0 : rd (x0 :: x1 :: x2 :: x3 :: t) 0 = x0 := rfl
    have e1 : rd (x0 :: x1 :: x2 :: x3 :: t) 1 = x1 := rfl
    have e2 : rd (x0 :: x1 :: x2 :: x3 :: t) 2 = x2 := rfl
    have e3 : rd (x0 :: x1 :: x2 :: x3 :: t) 3 = x3 := rfl
    have h0 := hb x0 (by simp); have h1 := hb x1 (by simp); have h2 := hb x2 (by simp); have h3 := hb x3 (by simp)
    unfold g le4; rw [e0, e1, e2, e3]
    simp only [List.take_succ_cons, List.take_zero, List.cons.injEq, and_true]
    refine ⟨?_, ?_, ?_, ?_⟩ <;> omega

/-- The sum of some bytes. -/
def sum (b : List Int) : Nat := M ^^^ run M b
theorem sum_lt {b : List Int} (hb : Bytes b) : sum b < 4294967296 := xor_lt (by decide) (run_lt (by decide) hb)
/-- What stands ahead of a record, and the record. -/
def hd (r : List Int) : List Int := le4 ((r.length : Int) % 4294967296)
def enc (r : List Int) : List Int := hd r ++ le4 ((sum (hd r ++ r) : Nat) : Int) ++ r
theorem hd_length (r : List Int) : (hd r).length = 4 := rfl
theorem hd_bytes (r : List Int) : Bytes (hd r) := le4_bytes _
theorem enc_length (r : List Int) : (enc r).length = 8 + r.length := by simp [enc, hd_length, le4_length]; omega
theorem enc_bytes {r : List Int} (h : Bytes r) : Bytes (enc r) := b_app (b_app (hd_bytes r) (le4_bytes _)) h

/-- The record that bytes begin with. -/
def step (b : List Int) : Option (List Int) :=
  if b.length < 8 then none
  else if b.length < 8 + (g b).toNat then none
  else if g (b.drop 4) = ((sum (b.take 4 ++ (b.drop 8).take (g b).toNat) : Nat) : Int) then some ((b.drop 8).take (g b).toNat) else none
/-- The records that bytes begin with, and how many bytes these are. -/
def scn : Nat → List Int → List (List Int) × Nat
  | 0, _ => ([], 0)
  | f + 1, b => match step b with
    | none => ([], 0)
    | some r => (r :: (scn f (b.drop (8 + r.length))).1, 8 + r.length + (scn f (b.drop (8 + r.length))).2)
theorem step_enc {r : List Int} (hr : Bytes r) (hl : r.length < 4294967296) (t : List Int) : step (enc r ++ t) = some r := by
  have e : enc r ++ t = hd r ++ (le4 ((sum (hd r ++ r) : Nat) : Int) ++ (r ++ t)) := by simp [enc]
  have hs := sum_lt (b_app (hd_bytes r) hr)
  have g0 : g (enc r ++ t) = (r.length : Int) := by
    rw [e]; unfold hd; rw [g_le4 (by omega) (by omega)]; omega
  have d4 : (enc r ++ t).drop 4 = le4 ((sum (hd r ++ r) : Nat) : Int) ++ (r ++ t) := by rw [e]; rfl
  have d8 : (enc r ++ t).drop 8 = r ++ t := by rw [e]; rfl
  have t4 : (enc r ++ t).take 4 = hd r := by rw [e]; rfl
  have hlen : (enc r ++ t).length = 8 + r.length + t.length := by rw [List.length_append, enc_length]
  unfold step
  rw [if_neg (by omega), g0, if_neg (by omega), d4, d8, t4, g_le4 (by omega) (by omega)]
  rw [Int.toNat_natCast, List.take_left, if_pos rfl]
theorem step_some {b r : List Int} (h : step b = some r) : 8 + r.length ≤ b.length ∧ r = (b.drop 8).take (g b).toNat ∧ r.length = (g b).toNat ∧ g (b.drop 4) = ((sum (b.take 4 ++ r) : Nat) : Int) := by
  unfold step at h
  by_cases h1 : b.length < 8
  · rw [if_pos h1] at h; cases h
  rw [if_neg h1] at h
  by_cases h2 : b.length < 8 + (g b).toNat
  · rw [if_pos h2] at h; cases h
  rw [if_neg h2] at h
  by_cases h3 : g (b.drop 4) = ((sum (b.take 4 ++ (b.drop 8).take (g b).toNat) : Nat) : Int)
  · rw [if_pos h3] at h
    have h := Option.some.inj h
    subst h
    have hl : ((b.drop 8).take (g b).toNat).length = (g b).toNat := by rw [List.length_take, List.length_drop]; omega
    exact ⟨by omega, rfl, hl, h3⟩
  · rw [if_neg h3] at h; cases h
theorem scn_le (f : Nat) : ∀ b : List Int, (scn f b).2 ≤ b.length := by
  induction f with
  | zero => intro b; exact Nat.zero_le _
  | succ f ih =>
    intro b
    unfold scn
    split
    · exact Nat.zero_le _
    · rename_i r hr
      have := (step_some hr).1
      have h2 := ih (b.drop (8 + r.length))
      rw [List.length_drop] at h2
      show 8 + r.length + _ ≤ _
      omega
theorem scn_enc {r : List Int} (hr : Bytes r) (hl : r.length < 4294967296) (t : List Int) (f : Nat) : scn (f + 1) (enc r ++ t) = (r :: (scn f t).1, 8 + r.length + (scn f t).2) := by
  have d : (enc r ++ t).drop (8 + r.length) = t := by rw [← enc_length r, List.drop_left]
  rw [scn, step_enc hr hl t]
  simp only [d]
theorem step_short {b : List Int} (h : b.length < 8) : step b = none := by unfold step; rw [if_pos h]
theorem scn_short {b : List Int} (h : b.length < 8) (f : Nat) : scn f b = ([], 0) := by
  cases f with
  | zero => rfl
  | succ f => rw [scn, step_short h]
/-- A reading finds the same, however long it may go on. -/
theorem scn_more (f : Nat) : ∀ (b : List Int) (e : Nat), b.length < 8 * f → scn (f + e) b = scn f b := by
  induction f with
  | zero => intro b e h; omega
  | succ f ih =>
    intro b e h
    rw [show f + 1 + e = (f + e) + 1 by omega, scn, scn]
    cases hs : step b with
    | none => rfl
    | some r =>
      have := (step_some hs).1
      simp only [ih (b.drop (8 + r.length)) e (by rw [List.length_drop]; omega)]
/-- Whole records ahead: what stands behind is read as if it stood alone. -/
theorem step_app {b r : List Int} (h : step b = some r) (t : List Int) : step (b ++ t) = some r := by
  obtain ⟨h1, h2, h3, h4⟩ := step_some h
  have l : (b ++ t).length = b.length + t.length := List.length_append
  have eg : g (b ++ t) = g b := by
    match b, h1 with
    | x0 :: x1 :: x2 :: x3 :: q, _ => rfl
    | [], h | [_], h | [_, _], h | [_, _, _], h => simp only [List.length_cons, List.length_nil] at h; omega
  have eg4 : g ((b ++ t).drop 4) = g (b.drop 4) := by
    rw [List.drop_append_of_le_length (by omega)]
    have hl : 4 ≤ (b.drop 4).length := by rw [List.length_drop]; omega
    generalize b.drop 4 = c at hl
    match c, hl with
    | x0 :: x1 :: x2 :: x3 :: q, _ => rfl
  unfold step
  rw [if_neg (by omega), eg, if_neg (by omega), eg4, List.take_append_of_le_length (by omega), List.drop_append_of_le_length (by omega), List.take_append_of_le_length (by rw [List.length_drop]; omega), ← h2, if_pos h4]
theorem scn_app (f : Nat) : ∀ (a b : List Int) (e : Nat), a.length < 8 * f → b.length < 8 * e → (scn f a).2 = a.length →
    scn (f + e) (a ++ b) = ((scn f a).1 ++ (scn e b).1, a.length + (scn e b).2) := by
  induction f with
  | zero => intro a b e h; omega
  | succ f ih =>
    intro a b e h he hw
    rw [scn] at hw ⊢
    cases hs : step a with
    | none =>
      rw [hs] at hw
      have ha : a = [] := List.length_eq_zero_iff.mp hw.symm
      subst ha
      rw [List.nil_append, List.nil_append]
      have := scn_more e b (f + 1) he
      rw [show f + 1 + e = e + (f + 1) by omega, this]
      simp
    | some r =>
      rw [hs] at hw
      have hr := (step_some hs).1
      have hw' : (scn f (a.drop (8 + r.length))).2 = (a.drop (8 + r.length)).length := by
        rw [List.length_drop]
        have : 8 + r.length + (scn f (a.drop (8 + r.length))).2 = a.length := hw
        omega
      have h2 := ih (a.drop (8 + r.length)) b e (by rw [List.length_drop]; omega) he hw'
      rw [show f + 1 + e = (f + e) + 1 by omega, scn, step_app hs b]
      simp only
      rw [List.drop_append_of_le_length hr, h2, List.length_drop]
      simp only [List.cons_append]
      rw [show 8 + r.length + (a.length - (8 + r.length) + (scn e b).2) = a.length + (scn e b).2 by omega]
end Go.Proofs.Ytadcekchmaiihaa.Frame
