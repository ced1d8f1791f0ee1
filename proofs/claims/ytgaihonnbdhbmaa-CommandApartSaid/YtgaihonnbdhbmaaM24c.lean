/- What the chapter says of commands, notes. Printed by mk24t.py. What the chapter says of variables, of commands and notes. Whether a note may be. Whether a reply may be. -/
import Derived.Test.YtgaihonnbdhbmaaM24b
namespace Go.Proofs.Ytgaihonnbdhbmaa.PE
set_option linter.unusedVariables false
open Go Go.RowKit Go.Proofs.Ytgaihonnbdhbmaa.Pack
def anyB (c : Int) (l : List UInt8) : Bool := l.any fun b => (b.toNat : Int) == c
theorem has_l1 (c : Int) (s : ByteArray) (hs : s.size ≤ 1000) : ∀ (r : List UInt8) (i : Nat), s.data.toList.drop i = r → ref24_has_l1 c s (i : Int) = some (anyB c r) := by
  intro r
  induction r with
  | nil =>
    intro i hd
    have := at_nil hd
    have e : isize s = (s.data.toList.length : Int) := isize_eq s
    rw [ref24_has_l1_eq, e, Bool.cond_decide, if_neg (by omega)]; rfl
  | cons x r ih =>
    intro i hd
    obtain ⟨h1, h2, h3⟩ := at_drop hd
    have e : isize s = (s.data.toList.length : Int) := isize_eq s
    have hl : s.data.toList.length ≤ 1000 := hs
    rw [ref24_has_l1_eq, e, Bool.cond_decide, if_pos (by omega), Bool.cond_decide, if_pos (by omega), Int.toNat_natCast, ← Array.getElem?_toList, h2, Option.bind_some, wrap_succ (by omega), ih (i + 1) h3, anyB, anyB, List.any_cons]
    cases ((x.toNat : Int) == c) <;> rfl
theorem has_str (c : Int) (s : ByteArray) (hs : s.size ≤ 1000) : ref24_has_r27 c s = some (anyB c s.data.toList) := by
  rw [ref24_has_r27_eq]; exact has_l1 c s hs _ 0 rfl

theorem has_a {k : Int} (hk : 1 ≤ k ∧ k ≤ 12) : ref24_has k 97 = some (hs k 1) :=
  kinds (P := fun k => ref24_has k 97 = some (hs k 1)) k hk
    ((ref24_has_eq 1 97).trans (show ref24_has_r27 97 (⟨#[116]⟩ : ByteArray) = _ from (has_str 97 _ (by decide)).trans (by kernel_rfl)))
    ((ref24_has_eq 2 97).trans (show ref24_has_r27 97 (⟨#[97, 100]⟩ : ByteArray) = _ from (has_str 97 _ (by decide)).trans (by kernel_rfl)))
    ((ref24_has_eq 3 97).trans (show ref24_has_r27 97 (⟨#[97, 110, 118]⟩ : ByteArray) = _ from (has_str 97 _ (by decide)).trans (by kernel_rfl)))
    ((ref24_has_eq 4 97).trans (show ref24_has_r27 97 (⟨#[97, 110, 107, 118, 99]⟩ : ByteArray) = _ from (has_str 97 _ (by decide)).trans (by kernel_rfl)))
    ((ref24_has_eq 5 97).trans (show ref24_has_r27 97 (⟨#[97, 110, 119, 99, 116]⟩ : ByteArray) = _ from (has_str 97 _ (by decide)).trans (by kernel_rfl)))
    ((ref24_has_eq 6 97).trans (show ref24_has_r27 97 (⟨#[97, 119, 118, 105]⟩ : ByteArray) = _ from (has_str 97 _ (by decide)).trans (by kernel_rfl)))
    ((ref24_has_eq 7 97).trans (show ref24_has_r27 97 (⟨#[97, 119, 105]⟩ : ByteArray) = _ from (has_str 97 _ (by decide)).trans (by kernel_rfl)))
    ((ref24_has_eq 8 97).trans (show ref24_has_r27 97 (⟨#[97, 118, 105, 111]⟩ : ByteArray) = _ from (has_str 97 _ (by decide)).trans (by kernel_rfl)))
    ((ref24_has_eq 9 97).trans (show ref24_has_r27 97 (⟨#[97, 105, 99]⟩ : ByteArray) = _ from (has_str 97 _ (by decide)).trans (by kernel_rfl)))
    ((ref24_has_eq 10 97).trans (show ref24_has_r27 97 (⟨#[97, 105]⟩ : ByteArray) = _ from (has_str 97 _ (by decide)).trans (by kernel_rfl)))
    ((ref24_has_eq 11 97).trans (show ref24_has_r27 97 (⟨#[105, 99, 100]⟩ : ByteArray) = _ from (has_str 97 _ (by decide)).trans (by kernel_rfl)))
    ((ref24_has_eq 12 97).trans (show ref24_has_r27 97 (⟨#[105, 99]⟩ : ByteArray) = _ from (has_str 97 _ (by decide)).trans (by kernel_rfl)))

theorem has_n {k : Int} (hk : 1 ≤ k ∧ k ≤ 12) : ref24_has k 110 = some (hs k 2) :=
  kinds (P := fun k => ref24_has k 110 = some (hs k 2)) k hk
    ((ref24_has_eq 1 110).trans (show ref24_has_r27 110 (⟨#[116]⟩ : ByteArray) = _ from (has_str 110 _ (by decide)).trans (by kernel_rfl)))
    ((ref24_has_eq 2 110).trans (show ref24_has_r27 110 (⟨#[97, 100]⟩ : ByteArray) = _ from (has_str 110 _ (by decide)).trans (by kernel_rfl)))
    ((ref24_has_eq 3 110).trans (show ref24_has_r27 110 (⟨#[97, 110, 118]⟩ : ByteArray) = _ from (has_str 110 _ (by decide)).trans (by kernel_rfl)))
    ((ref24_has_eq 4 110).trans (show ref24_has_r27 110 (⟨#[97, 110, 107, 118, 99]⟩ : ByteArray) = _ from (has_str 110 _ (by decide)).trans (by kernel_rfl)))
    ((ref24_has_eq 5 110).trans (show ref24_has_r27 110 (⟨#[97, 110, 119, 99, 116]⟩ : ByteArray) = _ from (has_str 110 _ (by decide)).trans (by kernel_rfl)))
    ((ref24_has_eq 6 110).trans (show ref24_has_r27 110 (⟨#[97, 119, 118, 105]⟩ : ByteArray) = _ from (has_str 110 _ (by decide)).trans (by kernel_rfl)))
    ((ref24_has_eq 7 110).trans (show ref24_has_r27 110 (⟨#[97, 119, 105]⟩ : ByteArray) = _ from (has_str 110 _ (by decide)).trans (by kernel_rfl)))
    ((ref24_has_eq 8 110).trans (show ref24_has_r27 110 (⟨#[97, 118, 105, 111]⟩ : ByteArray) = _ from (has_str 110 _ (by decide)).trans (by kernel_rfl)))
    ((ref24_has_eq 9 110).trans (show ref24_has_r27 110 (⟨#[97, 105, 99]⟩ : ByteArray) = _ from (has_str 110 _ (by decide)).trans (by kernel_rfl)))
    ((ref24_has_eq 10 110).trans (show ref24_has_r27 110 (⟨#[97, 105]⟩ : ByteArray) = _ from (has_str 110 _ (by decide)).trans (by kernel_rfl)))
    ((ref24_has_eq 11 110).trans (show ref24_has_r27 110 (⟨#[105, 99, 100]⟩ : ByteArray) = _ from (has_str 110 _ (by decide)).trans (by kernel_rfl)))
    ((ref24_has_eq 12 110).trans (show ref24_has_r27 110 (⟨#[105, 99]⟩ : ByteArray) = _ from (has_str 110 _ (by decide)).trans (by kernel_rfl)))

theorem has_w {k : Int} (hk : 1 ≤ k ∧ k ≤ 12) : ref24_has k 119 = some (hs k 4) :=
  kinds (P := fun k => ref24_has k 119 = some (hs k 4)) k hk
    ((ref24_has_eq 1 119).trans (show ref24_has_r27 119 (⟨#[116]⟩ : ByteArray) = _ from (has_str 119 _ (by decide)).trans (by kernel_rfl)))
    ((ref24_has_eq 2 119).trans (show ref24_has_r27 119 (⟨#[97, 100]⟩ : ByteArray) = _ from (has_str 119 _ (by decide)).trans (by kernel_rfl)))
    ((ref24_has_eq 3 119).trans (show ref24_has_r27 119 (⟨#[97, 110, 118]⟩ : ByteArray) = _ from (has_str 119 _ (by decide)).trans (by kernel_rfl)))
    ((ref24_has_eq 4 119).trans (show ref24_has_r27 119 (⟨#[97, 110, 107, 118, 99]⟩ : ByteArray) = _ from (has_str 119 _ (by decide)).trans (by kernel_rfl)))
    ((ref24_has_eq 5 119).trans (show ref24_has_r27 119 (⟨#[97, 110, 119, 99, 116]⟩ : ByteArray) = _ from (has_str 119 _ (by decide)).trans (by kernel_rfl)))
    ((ref24_has_eq 6 119).trans (show ref24_has_r27 119 (⟨#[97, 119, 118, 105]⟩ : ByteArray) = _ from (has_str 119 _ (by decide)).trans (by kernel_rfl)))
    ((ref24_has_eq 7 119).trans (show ref24_has_r27 119 (⟨#[97, 119, 105]⟩ : ByteArray) = _ from (has_str 119 _ (by decide)).trans (by kernel_rfl)))
    ((ref24_has_eq 8 119).trans (show ref24_has_r27 119 (⟨#[97, 118, 105, 111]⟩ : ByteArray) = _ from (has_str 119 _ (by decide)).trans (by kernel_rfl)))
    ((ref24_has_eq 9 119).trans (show ref24_has_r27 119 (⟨#[97, 105, 99]⟩ : ByteArray) = _ from (has_str 119 _ (by decide)).trans (by kernel_rfl)))
    ((ref24_has_eq 10 119).trans (show ref24_has_r27 119 (⟨#[97, 105]⟩ : ByteArray) = _ from (has_str 119 _ (by decide)).trans (by kernel_rfl)))
    ((ref24_has_eq 11 119).trans (show ref24_has_r27 119 (⟨#[105, 99, 100]⟩ : ByteArray) = _ from (has_str 119 _ (by decide)).trans (by kernel_rfl)))
    ((ref24_has_eq 12 119).trans (show ref24_has_r27 119 (⟨#[105, 99]⟩ : ByteArray) = _ from (has_str 119 _ (by decide)).trans (by kernel_rfl)))

theorem has_k {k : Int} (hk : 1 ≤ k ∧ k ≤ 12) : ref24_has k 107 = some (hs k 8) :=
  kinds (P := fun k => ref24_has k 107 = some (hs k 8)) k hk
    ((ref24_has_eq 1 107).trans (show ref24_has_r27 107 (⟨#[116]⟩ : ByteArray) = _ from (has_str 107 _ (by decide)).trans (by kernel_rfl)))
    ((ref24_has_eq 2 107).trans (show ref24_has_r27 107 (⟨#[97, 100]⟩ : ByteArray) = _ from (has_str 107 _ (by decide)).trans (by kernel_rfl)))
    ((ref24_has_eq 3 107).trans (show ref24_has_r27 107 (⟨#[97, 110, 118]⟩ : ByteArray) = _ from (has_str 107 _ (by decide)).trans (by kernel_rfl)))
    ((ref24_has_eq 4 107).trans (show ref24_has_r27 107 (⟨#[97, 110, 107, 118, 99]⟩ : ByteArray) = _ from (has_str 107 _ (by decide)).trans (by kernel_rfl)))
    ((ref24_has_eq 5 107).trans (show ref24_has_r27 107 (⟨#[97, 110, 119, 99, 116]⟩ : ByteArray) = _ from (has_str 107 _ (by decide)).trans (by kernel_rfl)))
    ((ref24_has_eq 6 107).trans (show ref24_has_r27 107 (⟨#[97, 119, 118, 105]⟩ : ByteArray) = _ from (has_str 107 _ (by decide)).trans (by kernel_rfl)))
    ((ref24_has_eq 7 107).trans (show ref24_has_r27 107 (⟨#[97, 119, 105]⟩ : ByteArray) = _ from (has_str 107 _ (by decide)).trans (by kernel_rfl)))
    ((ref24_has_eq 8 107).trans (show ref24_has_r27 107 (⟨#[97, 118, 105, 111]⟩ : ByteArray) = _ from (has_str 107 _ (by decide)).trans (by kernel_rfl)))
    ((ref24_has_eq 9 107).trans (show ref24_has_r27 107 (⟨#[97, 105, 99]⟩ : ByteArray) = _ from (has_str 107 _ (by decide)).trans (by kernel_rfl)))
    ((ref24_has_eq 10 107).trans (show ref24_has_r27 107 (⟨#[97, 105]⟩ : ByteArray) = _ from (has_str 107 _ (by decide)).trans (by kernel_rfl)))
    ((ref24_has_eq 11 107).trans (show ref24_has_r27 107 (⟨#[105, 99, 100]⟩ : ByteArray) = _ from (has_str 107 _ (by decide)).trans (by kernel_rfl)))
    ((ref24_has_eq 12 107).trans (show ref24_has_r27 107 (⟨#[105, 99]⟩ : ByteArray) = _ from (has_str 107 _ (by decide)).trans (by kernel_rfl)))

theorem has_v {k : Int} (hk : 1 ≤ k ∧ k ≤ 12) : ref24_has k 118 = some (hs k 16) :=
  kinds (P := fun k => ref24_has k 118 = some (hs k 16)) k hk
    ((ref24_has_eq 1 118).trans (show ref24_has_r27 118 (⟨#[116]⟩ : ByteArray) = _ from (has_str 118 _ (by decide)).trans (by kernel_rfl)))
    ((ref24_has_eq 2 118).trans (show ref24_has_r27 118 (⟨#[97, 100]⟩ : ByteArray) = _ from (has_str 118 _ (by decide)).trans (by kernel_rfl)))
    ((ref24_has_eq 3 118).trans (show ref24_has_r27 118 (⟨#[97, 110, 118]⟩ : ByteArray) = _ from (has_str 118 _ (by decide)).trans (by kernel_rfl)))
    ((ref24_has_eq 4 118).trans (show ref24_has_r27 118 (⟨#[97, 110, 107, 118, 99]⟩ : ByteArray) = _ from (has_str 118 _ (by decide)).trans (by kernel_rfl)))
    ((ref24_has_eq 5 118).trans (show ref24_has_r27 118 (⟨#[97, 110, 119, 99, 116]⟩ : ByteArray) = _ from (has_str 118 _ (by decide)).trans (by kernel_rfl)))
    ((ref24_has_eq 6 118).trans (show ref24_has_r27 118 (⟨#[97, 119, 118, 105]⟩ : ByteArray) = _ from (has_str 118 _ (by decide)).trans (by kernel_rfl)))
    ((ref24_has_eq 7 118).trans (show ref24_has_r27 118 (⟨#[97, 119, 105]⟩ : ByteArray) = _ from (has_str 118 _ (by decide)).trans (by kernel_rfl)))
    ((ref24_has_eq 8 118).trans (show ref24_has_r27 118 (⟨#[97, 118, 105, 111]⟩ : ByteArray) = _ from (has_str 118 _ (by decide)).trans (by kernel_rfl)))
    ((ref24_has_eq 9 118).trans (show ref24_has_r27 118 (⟨#[97, 105, 99]⟩ : ByteArray) = _ from (has_str 118 _ (by decide)).trans (by kernel_rfl)))
    ((ref24_has_eq 10 118).trans (show ref24_has_r27 118 (⟨#[97, 105]⟩ : ByteArray) = _ from (has_str 118 _ (by decide)).trans (by kernel_rfl)))
    ((ref24_has_eq 11 118).trans (show ref24_has_r27 118 (⟨#[105, 99, 100]⟩ : ByteArray) = _ from (has_str 118 _ (by decide)).trans (by kernel_rfl)))
    ((ref24_has_eq 12 118).trans (show ref24_has_r27 118 (⟨#[105, 99]⟩ : ByteArray) = _ from (has_str 118 _ (by decide)).trans (by kernel_rfl)))

theorem has_i {k : Int} (hk : 1 ≤ k ∧ k ≤ 12) : ref24_has k 105 = some (hs k 32) :=
  kinds (P := fun k => ref24_has k 105 = some (hs k 32)) k hk
    ((ref24_has_eq 1 105).trans (show ref24_has_r27 105 (⟨#[116]⟩ : ByteArray) = _ from (has_str 105 _ (by decide)).trans (by kernel_rfl)))
    ((ref24_has_eq 2 105).trans (show ref24_has_r27 105 (⟨#[97, 100]⟩ : ByteArray) = _ from (has_str 105 _ (by decide)).trans (by kernel_rfl)))
    ((ref24_has_eq 3 105).trans (show ref24_has_r27 105 (⟨#[97, 110, 118]⟩ : ByteArray) = _ from (has_str 105 _ (by decide)).trans (by kernel_rfl)))
    ((ref24_has_eq 4 105).trans (show ref24_has_r27 105 (⟨#[97, 110, 107, 118, 99]⟩ : ByteArray) = _ from (has_str 105 _ (by decide)).trans (by kernel_rfl)))
    ((ref24_has_eq 5 105).trans (show ref24_has_r27 105 (⟨#[97, 110, 119, 99, 116]⟩ : ByteArray) = _ from (has_str 105 _ (by decide)).trans (by kernel_rfl)))
    ((ref24_has_eq 6 105).trans (show ref24_has_r27 105 (⟨#[97, 119, 118, 105]⟩ : ByteArray) = _ from (has_str 105 _ (by decide)).trans (by kernel_rfl)))
    ((ref24_has_eq 7 105).trans (show ref24_has_r27 105 (⟨#[97, 119, 105]⟩ : ByteArray) = _ from (has_str 105 _ (by decide)).trans (by kernel_rfl)))
    ((ref24_has_eq 8 105).trans (show ref24_has_r27 105 (⟨#[97, 118, 105, 111]⟩ : ByteArray) = _ from (has_str 105 _ (by decide)).trans (by kernel_rfl)))
    ((ref24_has_eq 9 105).trans (show ref24_has_r27 105 (⟨#[97, 105, 99]⟩ : ByteArray) = _ from (has_str 105 _ (by decide)).trans (by kernel_rfl)))
    ((ref24_has_eq 10 105).trans (show ref24_has_r27 105 (⟨#[97, 105]⟩ : ByteArray) = _ from (has_str 105 _ (by decide)).trans (by kernel_rfl)))
    ((ref24_has_eq 11 105).trans (show ref24_has_r27 105 (⟨#[105, 99, 100]⟩ : ByteArray) = _ from (has_str 105 _ (by decide)).trans (by kernel_rfl)))
    ((ref24_has_eq 12 105).trans (show ref24_has_r27 105 (⟨#[105, 99]⟩ : ByteArray) = _ from (has_str 105 _ (by decide)).trans (by kernel_rfl)))

theorem has_o {k : Int} (hk : 1 ≤ k ∧ k ≤ 12) : ref24_has k 111 = some (hs k 64) :=
  kinds (P := fun k => ref24_has k 111 = some (hs k 64)) k hk
    ((ref24_has_eq 1 111).trans (show ref24_has_r27 111 (⟨#[116]⟩ : ByteArray) = _ from (has_str 111 _ (by decide)).trans (by kernel_rfl)))
    ((ref24_has_eq 2 111).trans (show ref24_has_r27 111 (⟨#[97, 100]⟩ : ByteArray) = _ from (has_str 111 _ (by decide)).trans (by kernel_rfl)))
    ((ref24_has_eq 3 111).trans (show ref24_has_r27 111 (⟨#[97, 110, 118]⟩ : ByteArray) = _ from (has_str 111 _ (by decide)).trans (by kernel_rfl)))
    ((ref24_has_eq 4 111).trans (show ref24_has_r27 111 (⟨#[97, 110, 107, 118, 99]⟩ : ByteArray) = _ from (has_str 111 _ (by decide)).trans (by kernel_rfl)))
    ((ref24_has_eq 5 111).trans (show ref24_has_r27 111 (⟨#[97, 110, 119, 99, 116]⟩ : ByteArray) = _ from (has_str 111 _ (by decide)).trans (by kernel_rfl)))
    ((ref24_has_eq 6 111).trans (show ref24_has_r27 111 (⟨#[97, 119, 118, 105]⟩ : ByteArray) = _ from (has_str 111 _ (by decide)).trans (by kernel_rfl)))
    ((ref24_has_eq 7 111).trans (show ref24_has_r27 111 (⟨#[97, 119, 105]⟩ : ByteArray) = _ from (has_str 111 _ (by decide)).trans (by kernel_rfl)))
    ((ref24_has_eq 8 111).trans (show ref24_has_r27 111 (⟨#[97, 118, 105, 111]⟩ : ByteArray) = _ from (has_str 111 _ (by decide)).trans (by kernel_rfl)))
    ((ref24_has_eq 9 111).trans (show ref24_has_r27 111 (⟨#[97, 105, 99]⟩ : ByteArray) = _ from (has_str 111 _ (by decide)).trans (by kernel_rfl)))
    ((ref24_has_eq 10 111).trans (show ref24_has_r27 111 (⟨#[97, 105]⟩ : ByteArray) = _ from (has_str 111 _ (by decide)).trans (by kernel_rfl)))
    ((ref24_has_eq 11 111).trans (show ref24_has_r27 111 (⟨#[105, 99, 100]⟩ : ByteArray) = _ from (has_str 111 _ (by decide)).trans (by kernel_rfl)))
    ((ref24_has_eq 12 111).trans (show ref24_has_r27 111 (⟨#[105, 99]⟩ : ByteArray) = _ from (has_str 111 _ (by decide)).trans (by kernel_rfl)))

theorem has_c {k : Int} (hk : 1 ≤ k ∧ k ≤ 12) : ref24_has k 99 = some (hs k 128) :=
  kinds (P := fun k => ref24_has k 99 = some (hs k 128)) k hk
    ((ref24_has_eq 1 99).trans (show ref24_has_r27 99 (⟨#[116]⟩ : ByteArray) = _ from (has_str 99 _ (by decide)).trans (by kernel_rfl)))
    ((ref24_has_eq 2 99).trans (show ref24_has_r27 99 (⟨#[97, 100]⟩ : ByteArray) = _ from (has_str 99 _ (by decide)).trans (by kernel_rfl)))
    ((ref24_has_eq 3 99).trans (show ref24_has_r27 99 (⟨#[97, 110, 118]⟩ : ByteArray) = _ from (has_str 99 _ (by decide)).trans (by kernel_rfl)))
    ((ref24_has_eq 4 99).trans (show ref24_has_r27 99 (⟨#[97, 110, 107, 118, 99]⟩ : ByteArray) = _ from (has_str 99 _ (by decide)).trans (by kernel_rfl)))
    ((ref24_has_eq 5 99).trans (show ref24_has_r27 99 (⟨#[97, 110, 119, 99, 116]⟩ : ByteArray) = _ from (has_str 99 _ (by decide)).trans (by kernel_rfl)))
    ((ref24_has_eq 6 99).trans (show ref24_has_r27 99 (⟨#[97, 119, 118, 105]⟩ : ByteArray) = _ from (has_str 99 _ (by decide)).trans (by kernel_rfl)))
    ((ref24_has_eq 7 99).trans (show ref24_has_r27 99 (⟨#[97, 119, 105]⟩ : ByteArray) = _ from (has_str 99 _ (by decide)).trans (by kernel_rfl)))
    ((ref24_has_eq 8 99).trans (show ref24_has_r27 99 (⟨#[97, 118, 105, 111]⟩ : ByteArray) = _ from (has_str 99 _ (by decide)).trans (by kernel_rfl)))
    ((ref24_has_eq 9 99).trans (show ref24_has_r27 99 (⟨#[97, 105, 99]⟩ : ByteArray) = _ from (has_str 99 _ (by decide)).trans (by kernel_rfl)))
    ((ref24_has_eq 10 99).trans (show ref24_has_r27 99 (⟨#[97, 105]⟩ : ByteArray) = _ from (has_str 99 _ (by decide)).trans (by kernel_rfl)))
    ((ref24_has_eq 11 99).trans (show ref24_has_r27 99 (⟨#[105, 99, 100]⟩ : ByteArray) = _ from (has_str 99 _ (by decide)).trans (by kernel_rfl)))
    ((ref24_has_eq 12 99).trans (show ref24_has_r27 99 (⟨#[105, 99]⟩ : ByteArray) = _ from (has_str 99 _ (by decide)).trans (by kernel_rfl)))

theorem has_t {k : Int} (hk : 1 ≤ k ∧ k ≤ 12) : ref24_has k 116 = some (hs k 256) :=
  kinds (P := fun k => ref24_has k 116 = some (hs k 256)) k hk
    ((ref24_has_eq 1 116).trans (show ref24_has_r27 116 (⟨#[116]⟩ : ByteArray) = _ from (has_str 116 _ (by decide)).trans (by kernel_rfl)))
    ((ref24_has_eq 2 116).trans (show ref24_has_r27 116 (⟨#[97, 100]⟩ : ByteArray) = _ from (has_str 116 _ (by decide)).trans (by kernel_rfl)))
    ((ref24_has_eq 3 116).trans (show ref24_has_r27 116 (⟨#[97, 110, 118]⟩ : ByteArray) = _ from (has_str 116 _ (by decide)).trans (by kernel_rfl)))
    ((ref24_has_eq 4 116).trans (show ref24_has_r27 116 (⟨#[97, 110, 107, 118, 99]⟩ : ByteArray) = _ from (has_str 116 _ (by decide)).trans (by kernel_rfl)))
    ((ref24_has_eq 5 116).trans (show ref24_has_r27 116 (⟨#[97, 110, 119, 99, 116]⟩ : ByteArray) = _ from (has_str 116 _ (by decide)).trans (by kernel_rfl)))
    ((ref24_has_eq 6 116).trans (show ref24_has_r27 116 (⟨#[97, 119, 118, 105]⟩ : ByteArray) = _ from (has_str 116 _ (by decide)).trans (by kernel_rfl)))
    ((ref24_has_eq 7 116).trans (show ref24_has_r27 116 (⟨#[97, 119, 105]⟩ : ByteArray) = _ from (has_str 116 _ (by decide)).trans (by kernel_rfl)))
    ((ref24_has_eq 8 116).trans (show ref24_has_r27 116 (⟨#[97, 118, 105, 111]⟩ : ByteArray) = _ from (has_str 116 _ (by decide)).trans (by kernel_rfl)))
    ((ref24_has_eq 9 116).trans (show ref24_has_r27 116 (⟨#[97, 105, 99]⟩ : ByteArray) = _ from (has_str 116 _ (by decide)).trans (by kernel_rfl)))
    ((ref24_has_eq 10 116).trans (show ref24_has_r27 116 (⟨#[97, 105]⟩ : ByteArray) = _ from (has_str 116 _ (by decide)).trans (by kernel_rfl)))
    ((ref24_has_eq 11 116).trans (show ref24_has_r27 116 (⟨#[105, 99, 100]⟩ : ByteArray) = _ from (has_str 116 _ (by decide)).trans (by kernel_rfl)))
    ((ref24_has_eq 12 116).trans (show ref24_has_r27 116 (⟨#[105, 99]⟩ : ByteArray) = _ from (has_str 116 _ (by decide)).trans (by kernel_rfl)))

theorem has_d {k : Int} (hk : 1 ≤ k ∧ k ≤ 12) : ref24_has k 100 = some (hs k 512) :=
  kinds (P := fun k => ref24_has k 100 = some (hs k 512)) k hk
    ((ref24_has_eq 1 100).trans (show ref24_has_r27 100 (⟨#[116]⟩ : ByteArray) = _ from (has_str 100 _ (by decide)).trans (by kernel_rfl)))
    ((ref24_has_eq 2 100).trans (show ref24_has_r27 100 (⟨#[97, 100]⟩ : ByteArray) = _ from (has_str 100 _ (by decide)).trans (by kernel_rfl)))
    ((ref24_has_eq 3 100).trans (show ref24_has_r27 100 (⟨#[97, 110, 118]⟩ : ByteArray) = _ from (has_str 100 _ (by decide)).trans (by kernel_rfl)))
    ((ref24_has_eq 4 100).trans (show ref24_has_r27 100 (⟨#[97, 110, 107, 118, 99]⟩ : ByteArray) = _ from (has_str 100 _ (by decide)).trans (by kernel_rfl)))
    ((ref24_has_eq 5 100).trans (show ref24_has_r27 100 (⟨#[97, 110, 119, 99, 116]⟩ : ByteArray) = _ from (has_str 100 _ (by decide)).trans (by kernel_rfl)))
    ((ref24_has_eq 6 100).trans (show ref24_has_r27 100 (⟨#[97, 119, 118, 105]⟩ : ByteArray) = _ from (has_str 100 _ (by decide)).trans (by kernel_rfl)))
    ((ref24_has_eq 7 100).trans (show ref24_has_r27 100 (⟨#[97, 119, 105]⟩ : ByteArray) = _ from (has_str 100 _ (by decide)).trans (by kernel_rfl)))
    ((ref24_has_eq 8 100).trans (show ref24_has_r27 100 (⟨#[97, 118, 105, 111]⟩ : ByteArray) = _ from (has_str 100 _ (by decide)).trans (by kernel_rfl)))
    ((ref24_has_eq 9 100).trans (show ref24_has_r27 100 (⟨#[97, 105, 99]⟩ : ByteArray) = _ from (has_str 100 _ (by decide)).trans (by kernel_rfl)))
    ((ref24_has_eq 10 100).trans (show ref24_has_r27 100 (⟨#[97, 105]⟩ : ByteArray) = _ from (has_str 100 _ (by decide)).trans (by kernel_rfl)))
    ((ref24_has_eq 11 100).trans (show ref24_has_r27 100 (⟨#[105, 99, 100]⟩ : ByteArray) = _ from (has_str 100 _ (by decide)).trans (by kernel_rfl)))
    ((ref24_has_eq 12 100).trans (show ref24_has_r27 100 (⟨#[105, 99]⟩ : ByteArray) = _ from (has_str 100 _ (by decide)).trans (by kernel_rfl)))

theorem refIn_spec (n : Int) (a : Bool) (lo : Int) : ref24_in n a lo = some (fromS n a lo 1099511627776) := by
  rw [ref24_in_eq, fromS, inR]
  cases a with
  | false => rfl
  | true =>
    rw [cond_true, cond_true, Bool.cond_decide]
    by_cases h : n ≥ lo
    · rw [if_pos h, decide_eq_true (show lo ≤ n from h), Bool.true_and]
    · rw [if_neg h, decide_eq_false (show ¬ lo ≤ n from h), Bool.false_and]
theorem refText_spec {s : ByteArray} (a : Bool) (h : s.size ≤ 140737488351232) : ref24_text s a = some (textS s a) := by
  rw [ref24_text_eq, textS, refName_spec h, Option.bind_some]
  cases a <;> rfl
end Go.Proofs.Ytgaihonnbdhbmaa.PE
namespace Go.Proofs.Ytgaihonnbdhbmaa.PE
open Go Go.RowKit Go.Proofs.Ytgaihonnbdhbmaa.Pack
theorem rvcheck_l0 {ns : List ByteArray} {vs : List Int} (hl : ns.length ≤ 1000) (ht : Txt ns) : ∀ (r : List ByteArray) (i : Nat) (p : Option ByteArray), ns.drop i = r → (i = 0 → p = none) → (∀ k, i = k + 1 → ∃ q, ns[k]? = some q ∧ p = some q) →
    ref09_Check_l0 (i : Int) ns vs = some (if goodV p r = true then 0 else 1) := by
  intro r
  induction r with
  | nil =>
    intro i p hd _ _
    have := at_nil hd
    rw [ref09_Check_l0_eq, ilen_eq, Bool.cond_decide, if_neg (by omega), goodV, if_pos rfl]
  | cons s r ih =>
    intro i p hd hp0 hp1
    obtain ⟨h1, h2, h3⟩ := at_drop hd
    have ihs := ih (i + 1) (some s) h3 (fun h => by omega) (fun k hk => ⟨s, by rw [show k = i by omega]; exact h2, rfl⟩)
    rw [ref09_Check_l0_eq, ilen_eq, Bool.cond_decide, if_pos (by omega), Bool.cond_decide, if_pos (by omega), Int.toNat_natCast, h2, Option.bind_some, refName_spec (ht s (List.mem_of_getElem? h2)), Option.bind_some, wrap_succ (by omega), ihs, goodV,
      show (⟨#[121, 101, 115]⟩ : ByteArray) = yesB from rfl, show (⟨#[110, 111]⟩ : ByteArray) = noB from rfl]
    cases nameS s with
    | false => rfl
    | true =>
      cases (s.toList == yesB.toList) with
      | true => rfl
      | false =>
        cases (s.toList == noB.toList) with
        | true => rfl
        | false =>
          rw [Bool.not_true, cond_false, cond_false, cond_false, Bool.cond_decide]
          cases i with
          | zero =>
            rw [hp0 rfl, if_neg (by omega)]
            simp only [ahead, Bool.not_false, Bool.true_and]
          | succ k =>
            obtain ⟨q, hq, rfl⟩ := hp1 k rfl
            rw [if_pos (by omega), wrap_i64 (x := ((k + 1 : Nat) : Int) - 1) (by omega) (by omega), show ((k + 1 : Nat) : Int) - 1 = (k : Int) by omega, Bool.cond_decide, if_pos (by omega), Int.toNat_natCast, hq, Option.bind_some, ahead]
            cases Op.bytesLess q.toList s.toList <;> simp
theorem rvcheck_spec {ns : List ByteArray} (vs : List Int) (hl : ns.length ≤ 9223372036854775806) (hv : vs.length ≤ 9223372036854775806) (ht : Txt ns) : ref09_Check ns vs = some (chkV ns vs) := by
  rw [ref09_Check_eq, ilen_eq, ilen_eq, chkV]
  by_cases h1 : ns.length = vs.length
  · rw [bne_no (by omega), cond_false, if_neg (fun h => h h1), Bool.cond_decide]
    by_cases h2 : ns.length > 64
    · rw [if_pos (by omega), if_pos h2]
    · rw [if_neg (by omega), if_neg h2]
      exact rvcheck_l0 (by omega) ht ns 0 none rfl (fun _ => rfl) (fun k hk => by omega)
  · rw [bne_yes (by omega), cond_true, if_pos h1]
theorem refSome_spec {ns : List ByteArray} (vs : List Int) (a : Bool) (hl : ns.length ≤ 1000000000000000) (hv : vs.length ≤ 1000000000000000) (ht : Txt ns) : ref24_some ns vs a = some (varsS ns vs a) := by
  rw [ref24_some_eq, varsS, rvcheck_spec vs (by omega) (by omega) ht, Option.bind_some, ilen_eq, ilen_eq, wrap_i64 (by omega) (by omega)]
  cases a with
  | true => rfl
  | false =>
    rw [Bool.not_false, cond_true, cond_false, Bool.cond_decide]
    by_cases h1 : 0 < ns.length
    · rw [if_pos (by omega), decide_eq_true h1, Bool.true_or]; rfl
    · rw [decide_eq_false h1, Bool.false_or, Bool.cond_decide]
      by_cases h2 : 0 < vs.length
      · rw [if_pos (by omega), if_pos h2]
      · rw [if_neg (by omega), if_neg h2]
theorem flag_in {k : Int} (h : 1 ≤ k ∧ k ≤ 12) : ¬ flag k = 0 :=
  kinds (P := fun k => ¬ flag k = 0) k h (by decide) (by decide) (by decide) (by decide) (by decide) (by decide) (by decide) (by decide) (by decide) (by decide) (by decide) (by decide)
theorem refCheck24_spec (x0 : Int) (x1 x2 : Int) (x3 x4 : ByteArray) (x5 : Int) (x6 : List ByteArray) (x7 : List Int) (x8 x9 x10 x11 : Int) (x12 : List Int) (h3 : x3.size ≤ 140737488351232) (h4 : x4.size ≤ 140737488351232) (hl : x6.length ≤ 1000000000000000) (hv : x7.length ≤ 1000000000000000) (ht : Txt x6) :
    ref24_Check x0 x1 x2 x3 x4 x5 x6 x7 x8 x9 x10 x11 x12 = some (chkC x0 x1 x2 x3 x4 x5 x6 x7 x8 x9 x10 x11 x12) := by
  rw [ref24_Check_eq, chkC, Bool.cond_decide, Bool.cond_decide]
  by_cases h : 1 ≤ x0 ∧ x0 ≤ 12
  · rw [if_neg (by omega), if_neg (by omega), if_neg (flag_in h)]
    simp only [has_a h, has_n h, has_w h, has_k h, has_v h, has_i h, has_o h, has_c h, has_t h, has_d h, Option.bind_some, refIn_spec, refText_spec _ h3, refText_spec _ h4, refSome_spec x7 _ hl hv ht, bif_some, chkB]
    cases fromS x1 (hs x0 1) 1 1099511627776 with
    | false => rfl
    | true =>
    cases fromS x2 (hs x0 1) 1 1099511627776 with
    | false => rfl
    | true =>
    cases textS x3 (hs x0 2) with
    | false => rfl
    | true =>
    cases textS x4 (hs x0 4) with
    | false => rfl
    | true =>
    cases (x5 != 0) <;> cases hs x0 8 <;> cases fromS x8 (hs x0 32) 0 1099511627776 <;> cases fromS x9 (hs x0 64) 0 1099511627776 <;> cases fromS x10 (hs x0 128) 0 1099511627776 <;> cases fromS x11 (hs x0 256) 0 1099511627776 <;> cases decide (ilen x12 > 0) <;> cases hs x0 512 <;> rfl
  · rw [if_pos (flag_out h)]
    by_cases h1 : x0 < 1
    · rw [if_pos h1]
    · rw [if_neg h1, if_pos (by omega)]
end Go.Proofs.Ytgaihonnbdhbmaa.PE
namespace Go.Proofs.Ytgaihonnbdhbmaa.PE
open Go Go.RowKit Go.Proofs.Ytgaihonnbdhbmaa.Pack
def chkN (x0 x1 x2 x3 : Int) (x4 : ByteArray) (x5 : Int) (x6 : List ByteArray) (x7 : List Int) : Int :=
  if 1 ≤ x0 ∧ x0 ≤ 3 then
    bif !fromS x1 true 1 1099511627776 then 2 else bif !fromS x2 (x0 == 1) 1 1099511627776 then 2 else bif !fromS x3 (x0 == 2) 1 1099511627776 then 2 else bif !textS x4 (x0 == 1) then 1 else bif (!(x0 == 1) && x5 != 0) then 1 else varsS x6 x7 (x0 == 2)
  else 1
theorem note_spec (x0 x1 x2 x3 : Int) (x4 : ByteArray) (x5 : Int) (x6 : List ByteArray) (x7 : List Int) (h4 : x4.size ≤ 140737488351232) (hl : x6.length ≤ 9223372036854775806) (hv : x7.length ≤ 9223372036854775806) (ht : Txt x6) :
    command_CheckNote x0 x1 x2 x3 x4 x5 x6 x7 = some (chkN x0 x1 x2 x3 x4 x5 x6 x7) := by
  rw [command_CheckNote_eq, chkN]
  simp only [from_spec, text_spec _ h4, variables_spec x7 _ hl hv ht, Option.bind_some, bif_some]
  by_cases h : 1 ≤ x0 ∧ x0 ≤ 3
  · rw [if_pos h]
    by_cases e1 : x0 = 1
    · rw [beq_yes e1]; cases (x5 != 0) <;> rfl
    · rw [beq_no e1]
      by_cases e2 : x0 = 2
      · rw [beq_yes e2]; cases (x5 != 0) <;> rfl
      · rw [beq_no e2, bne_no (show x0 = 3 by omega)]; cases (x5 != 0) <;> rfl
  · rw [if_neg h, beq_no (show ¬ x0 = 1 by omega), beq_no (show ¬ x0 = 2 by omega), bne_yes (show ¬ x0 = 3 by omega)]
    rfl
theorem refNote_spec (x0 x1 x2 x3 : Int) (x4 : ByteArray) (x5 : Int) (x6 : List ByteArray) (x7 : List Int) (h4 : x4.size ≤ 140737488351232) (hl : x6.length ≤ 1000000000000000) (hv : x7.length ≤ 1000000000000000) (ht : Txt x6) :
    ref24_CheckNote x0 x1 x2 x3 x4 x5 x6 x7 = some (chkN x0 x1 x2 x3 x4 x5 x6 x7) := by
  rw [ref24_CheckNote_eq, chkN, Bool.cond_decide, Bool.cond_decide]
  simp only [refIn_spec, refText_spec _ h4, refSome_spec x7 _ hl hv ht, Option.bind_some, bif_some]
  by_cases h : 1 ≤ x0 ∧ x0 ≤ 3
  · rw [if_neg (by omega), if_neg (by omega), if_pos h]
    cases (x5 != 0) <;> cases (x0 == 1) <;> rfl
  · rw [if_neg h]
    by_cases h1 : x0 < 1
    · rw [if_pos h1]
    · rw [if_neg h1, if_pos (by omega)]
end Go.Proofs.Ytgaihonnbdhbmaa.PE
namespace Go.Proofs.Ytgaihonnbdhbmaa.PE
open Go Go.RowKit Go.Proofs.Ytgaihonnbdhbmaa.Pack
def big24 (x : Int) : Bool := inR x 0 1099511627776
def chkR (x0 x1 x2 x3 : Int) (l : List J) : Int :=
  bif !big24 x0 then 1 else bif !big24 x1 then 1 else bif !big24 x3 then 1 else bif decide (x2 < 0) then 1 else bif decide (x2 > 17) then 1 else bif decide (ilen l > 8) then 1 else bif rising 0 l then 0 else 1
theorem refReply_spec (x0 x1 x2 x3 : Int) {l : List J} (hl : l.length ≤ 1000000) (ht : ∀ j ∈ l, TxJ j) : ref24_CheckReply x0 x1 x2 x3 l = some (chkR x0 x1 x2 x3 l) := by
  have f : ∀ x, fromS x true 0 1099511627776 = big24 x := fun _ => rfl
  rw [ref24_CheckReply_eq, chkR]
  simp only [refIn_spec, Option.bind_some, refCheck_spec hl ht, f, bif_some]
theorem reply_step (i : Nat) (n : Int) (x0 x1 x2 x3 : Int) (l : List J) (q : List Int) (h : q[i]? = some n) (hi : i < 3) (hq : q.length = 3) :
    command_CheckReply_l0 3 (i : Int) x0 x1 x2 x3 l q = bif !big24 n then some 1 else command_CheckReply_l0 3 ((i + 1 : Nat) : Int) x0 x1 x2 x3 l q := by
  rw [command_CheckReply_l0_eq, ilen_eq, hq, Bool.cond_decide, if_pos (by omega), Bool.cond_decide, if_pos (by omega), Bool.cond_decide, if_pos (by omega), Int.toNat_natCast, h, Option.bind_some, wrap_succ (by omega), Bool.cond_decide, Bool.cond_decide, big24, inR]
  by_cases h1 : n < 0
  · rw [if_pos h1, decide_eq_false (show ¬ 0 ≤ n by omega)]; rfl
  · rw [if_neg h1, decide_eq_true (show 0 ≤ n by omega)]
    by_cases h2 : n > 1099511627776
    · rw [if_pos h2, decide_eq_false (show ¬ n ≤ 1099511627776 by omega)]; rfl
    · rw [if_neg h2, decide_eq_true (show n ≤ 1099511627776 by omega)]; rfl
theorem reply_spec (x0 x1 x2 x3 : Int) {l : List J} (hl : l.length ≤ 1000000) (ht : ∀ j ∈ l, TxJ j) : command_CheckReply x0 x1 x2 x3 l = some (chkR x0 x1 x2 x3 l) := by
  have s0 := reply_step 0 x0 x0 x1 x2 x3 l [x0, x1, x3] rfl (by omega) rfl
  have s1 := reply_step 1 x1 x0 x1 x2 x3 l [x0, x1, x3] rfl (by omega) rfl
  have s2 := reply_step 2 x3 x0 x1 x2 x3 l [x0, x1, x3] rfl (by omega) rfl
  have s3 : command_CheckReply_l0 3 ((3 : Nat) : Int) x0 x1 x2 x3 l [x0, x1, x3] = _ := command_CheckReply_l0_eq _ _ _ _ _ _ _ _
  rw [Bool.cond_decide, if_neg (by omega), check_spec hl ht, Option.bind_some] at s3
  rw [command_CheckReply_eq, ilen_eq]
  show command_CheckReply_l0 3 ((0 : Nat) : Int) x0 x1 x2 x3 l [x0, x1, x3] = _
  rw [s0, s1, s2, s3, chkR]
  simp only [bif_some]
end Go.Proofs.Ytgaihonnbdhbmaa.PE
