/- Timers as bytes, there and back. -/
import Derived.Test.YtocglpmgamhaeaaP20e
namespace Go.Proofs.Ytocglpmgamhaeaa.PE
set_option linter.unusedVariables false
open Go Go.RowKit Go.Proofs.Ytocglpmgamhaeaa.Pack
/-- Timers as bytes, behind one that is due at a time. -/
def putB : Int → List T → List Int
  | _, [] => []
  | last, x :: r => enc (x.1 - last).toNat ++ enc x.2.1.toNat ++ enc x.2.2.toNat ++ putB x.1 r
/-- Timers whose numbers may stand in bytes. -/
def small : Int → List T → Prop
  | _, [] => True
  | last, x :: r => last ≤ x.1 ∧ x.1 ≤ 1099511627776 ∧ 0 ≤ x.2.1 ∧ x.2.1 ≤ 1099511627776 ∧ 0 ≤ x.2.2 ∧ x.2.2 ≤ 1099511627776 ∧ small x.1 r
theorem putB_len : ∀ (l : List T) (last : Int), (putB last l).length ≤ 30 * l.length
  | [], _ => Nat.le_refl _
  | x :: r, last => by
    have h1 := enc_length (x.1 - last).toNat
    have h2 := enc_length x.2.1.toNat
    have h3 := enc_length x.2.2.toNat
    have := putB_len r x.1
    rw [putB, List.length_append, List.length_append, List.length_append, List.length_cons]; omega
theorem pub {x0 : List Int} {n : Int} (h0 : 0 ≤ n) (h1 : n ≤ 1099511627776) (hl : x0.length ≤ 1000000) : pack_Uint x0 (IntKind.u64.wrap n) = some (x0 ++ enc n.toNat) := by
  rw [wrap_u64 h0 (by omega)]
  have := uint_spec (n := n.toNat) (x0 := x0) (by omega) (by omega)
  rw [Int.toNat_of_nonneg h0] at this
  exact this
theorem put_l0 {l : List T} (hl : l.length ≤ 10000) : ∀ (r : List T) (i : Nat) (last : Int) (o : List Int), l.drop i = r → 0 ≤ last → last ≤ 1099511627776 → small last r → o.length ≤ 30 * i + 10 → i ≤ l.length → timers_Put_l0 last l l.length i o = some (o ++ putB last r) := by
  intro r
  induction r with
  | nil =>
    intro i last o h _ _ _ ho hi
    have h1 := at_nil h
    rw [timers_Put_l0_eq, decide_eq_false (by omega), cond_false, putB, List.append_nil]
  | cons x r ih =>
    intro i last o h h0 hla hs ho hi
    obtain ⟨h1, h2, h3⟩ := at_drop h
    obtain ⟨s1, s2, s3, s4, s5, s6, s7⟩ := hs
    have e1 := enc_length (x.1 - last).toNat
    have e2 := enc_length x.2.1.toNat
    have e3 := enc_length x.2.2.toNat
    rw [timers_Put_l0_eq, decide_eq_true (show (i : Int) < _ by omega), cond_true, decide_eq_true (show (0 : Int) ≤ (i : Int) by omega), cond_true, Int.toNat_natCast, h2, Option.bind_some, wrap_i64 (x := x.1 - last) (by omega) (by omega), pub (by omega) (by omega) (by omega), Option.bind_some,
      pub s3 s4 (by rw [List.length_append]; omega), Option.bind_some, pub s5 s6 (by rw [List.length_append, List.length_append]; omega), Option.bind_some, wrap_succ (by omega), ih (i + 1) x.1 _ h3 (by omega) s2 s7 (by rw [List.length_append, List.length_append, List.length_append]; omega) (by omega), putB]
    simp only [List.append_assoc]
theorem put_spec {l : List T} (hl : l.length ≤ 10000) (hs : small 0 l) : timers_Put [] l = some (enc l.length ++ putB 0 l) := by
  have := put_l0 hl l 0 0 (enc l.length) rfl (Int.le_refl _) (by decide) hs (by have := enc_length l.length; omega) (Nat.zero_le _)
  rw [Int.natCast_zero] at this
  rw [timers_Put_eq, ilen_eq, pub (by omega) (by omega) (by decide), Option.bind_some, Int.toNat_natCast, List.nil_append, this]
theorem up_small : ∀ {l : List T} {p : Option T} {last : Int}, up p l = true → (∀ q, p = some q → q.1 = last) → (p = none → last = 0) → small last l
  | [], _, _, _, _, _ => trivial
  | x :: r, p, last, h, h1, h2 => by
    have h' : oneS x = true ∧ last ≤ x.1 ∧ up (some x) r = true := by
      cases p with
      | none =>
        have : (oneS x && up (some x) r) = true := h
        rw [Bool.and_eq_true] at this
        refine ⟨this.1, ?_, this.2⟩
        rw [h2 rfl]
        have := this.1
        rw [oneS, inR, Bool.and_eq_true, Bool.and_eq_true, decide_eq_true_eq] at this
        exact this.1.1
      | some q =>
        have : (oneS x && (decide (lt q x) && up (some x) r)) = true := h
        rw [Bool.and_eq_true, Bool.and_eq_true, decide_eq_true_eq] at this
        refine ⟨this.1, ?_, this.2.2⟩
        rw [← h1 q rfl]
        exact lt_le this.2.1
    obtain ⟨k1, k2, k3⟩ := h'
    rw [oneS, inR, inR, inR] at k1
    simp only [Bool.and_eq_true, decide_eq_true_eq] at k1
    exact ⟨k2, k1.1.2, by omega, k1.2.1.2, by omega, k1.2.2.2, up_small k3 (fun q e => by cases e; rfl) (fun e => nomatch e)⟩
end Go.Proofs.Ytocglpmgamhaeaa.PE
