/- Whether a command may be. Printed by mk24.py. Commands as bytes. Printed by mk24p.py. A command that may be, and its bytes. Printed by mk24q.py. What Put answers. Printed by mk24s.py. -/
import Derived.Test.YtgaihonnbdhbmaaM24a
namespace Go.Proofs.Ytgaihonnbdhbmaa.PE
set_option linter.unusedVariables false
open Go Go.RowKit Go.Proofs.Ytgaihonnbdhbmaa.Pack
def fromS (n : Int) (a : Bool) (lo hi : Int) : Bool := bif a then inR n lo hi else n == 0
def textS (s : ByteArray) (a : Bool) : Bool := bif a then nameS s else s.toList == (⟨#[]⟩ : ByteArray).toList
def varsS (ns : List ByteArray) (vs : List Int) (a : Bool) : Int := bif a then chkV ns vs else bif decide (0 < ns.length) || decide (0 < vs.length) then 1 else chkV ns vs
theorem from_spec (n : Int) (a : Bool) (lo hi : Int) : command_from n a lo hi = some (fromS n a lo hi) := by
  rw [command_from_eq, fromS, inR]
  cases a with
  | false => rfl
  | true =>
    rw [Bool.not_true, cond_false, cond_true, Bool.cond_decide]
    by_cases h : n ≥ lo
    · rw [if_pos h, decide_eq_true (show lo ≤ n from h), Bool.true_and]
    · rw [if_neg h, decide_eq_false (show ¬ lo ≤ n from h), Bool.false_and]
theorem text_spec {s : ByteArray} (a : Bool) (h : s.size ≤ 140737488351232) : command_text s a = some (textS s a) := by
  rw [command_text_eq, textS, name_spec h, Option.bind_some]
  cases a <;> rfl
theorem variables_spec {ns : List ByteArray} (vs : List Int) (a : Bool) (hl : ns.length ≤ 9223372036854775806) (hv : vs.length ≤ 9223372036854775806) (ht : Txt ns) : command_variables ns vs a = some (varsS ns vs a) := by
  rw [command_variables_eq, varsS, vcheck_spec vs hl hv ht, Option.bind_some, ilen_eq, ilen_eq]
  cases a with
  | true => rfl
  | false =>
    rw [Bool.not_false, cond_true, cond_false, Bool.cond_decide, Bool.cond_decide]
    by_cases h1 : 0 < ns.length
    · rw [if_pos (by omega), decide_eq_true h1, Bool.true_or]; rfl
    · rw [if_neg (by omega), decide_eq_false h1, Bool.false_or, Bool.cond_decide]
      by_cases h2 : 0 < vs.length
      · rw [if_pos (by omega), if_pos h2]
      · rw [if_neg (by omega), if_neg h2]

noncomputable def chkGen (a n w k v i o c t d : Bool) (x1 x2 : Int) (x3 x4 : ByteArray) (x5 : Int) (x6 : List ByteArray) (x7 : List Int) (x8 x9 x10 x11 : Int) (x12 : List Int) : Option Int :=
  (command_from x1 a 1 1099511627776).bind fun r => bif !r then some 1 else (command_from x2 a 1 1099511627776).bind fun r => bif !r then some 1 else (command_text x3 n).bind fun r => bif !r then some 1 else (command_text x4 w).bind fun r => bif !r then some 1 else bif (!k && x5 != 0) then some 1 else (command_from x8 i 0 1099511627776).bind fun r => bif !r then some 2 else (command_from x9 o 0 1099511627776).bind fun r => bif !r then some 2 else (command_from x10 c 0 1099511627776).bind fun r => bif !r then some 2 else (command_from x11 t 0 1099511627776).bind fun r => bif !r then some 2 else bif (!d && decide (ilen x12 > 0)) then some 1 else bif decide (ilen x12 > 65536) then some 6 else (command_variables x6 x7 v).bind fun r => some r

def chkB (a n w k v i o c t d : Bool) (x1 x2 : Int) (x3 x4 : ByteArray) (x5 : Int) (x6 : List ByteArray) (x7 : List Int) (x8 x9 x10 x11 : Int) (x12 : List Int) : Int :=
  bif !fromS x1 a 1 1099511627776 then 1 else bif !fromS x2 a 1 1099511627776 then 1 else bif !textS x3 n then 1 else bif !textS x4 w then 1 else bif (!k && x5 != 0) then 1 else bif !fromS x8 i 0 1099511627776 then 2 else bif !fromS x9 o 0 1099511627776 then 2 else bif !fromS x10 c 0 1099511627776 then 2 else bif !fromS x11 t 0 1099511627776 then 2 else bif (!d && decide (ilen x12 > 0)) then 1 else bif decide (ilen x12 > 65536) then 6 else varsS x6 x7 v

theorem bif_some {α : Type} (c : Bool) (a b : α) : (bif c then some a else some b) = some (bif c then a else b) := by cases c <;> rfl
theorem chkGen_spec (a n w k v i o c t d : Bool) (x1 x2 : Int) (x3 x4 : ByteArray) (x5 : Int) (x6 : List ByteArray) (x7 : List Int) (x8 x9 x10 x11 : Int) (x12 : List Int) (h3 : x3.size ≤ 140737488351232) (h4 : x4.size ≤ 140737488351232) (hl : x6.length ≤ 9223372036854775806) (hv : x7.length ≤ 9223372036854775806) (ht : Txt x6) :
    chkGen a n w k v i o c t d x1 x2 x3 x4 x5 x6 x7 x8 x9 x10 x11 x12 = some (chkB a n w k v i o c t d x1 x2 x3 x4 x5 x6 x7 x8 x9 x10 x11 x12) := by
  unfold chkGen chkB
  simp only [from_spec, text_spec _ h3, text_spec _ h4, variables_spec x7 v hl hv ht, Option.bind_some, bif_some]

/-- What a kind of command is about. -/
def flag (k : Int) : Nat := if k = 1 then 256 else if k = 2 then 513 else if k = 3 then 19 else if k = 4 then 155 else if k = 5 then 391 else if k = 6 then 53 else if k = 7 then 37 else if k = 8 then 113 else if k = 9 then 161 else if k = 10 then 33 else if k = 11 then 672 else if k = 12 then 160 else 0
def hs (k : Int) (w : Nat) : Bool := decide (flag k / w % 2 = 1)

def chkC (x0 : Int) (x1 x2 : Int) (x3 x4 : ByteArray) (x5 : Int) (x6 : List ByteArray) (x7 : List Int) (x8 x9 x10 x11 : Int) (x12 : List Int) : Int := if flag x0 = 0 then 1 else chkB (hs x0 1) (hs x0 2) (hs x0 4) (hs x0 8) (hs x0 16) (hs x0 32) (hs x0 64) (hs x0 128) (hs x0 256) (hs x0 512) x1 x2 x3 x4 x5 x6 x7 x8 x9 x10 x11 x12

theorem cmd_Check_1 (x1 x2 : Int) (x3 x4 : ByteArray) (x5 : Int) (x6 : List ByteArray) (x7 : List Int) (x8 x9 x10 x11 : Int) (x12 : List Int) : cmd_Check 1 x1 x2 x3 x4 x5 x6 x7 x8 x9 x10 x11 x12 = chkGen false false false false false false false false true false x1 x2 x3 x4 x5 x6 x7 x8 x9 x10 x11 x12 := (cmd_Check_eq _ _ _ _ _ _ _ _ _ _ _ _ _).trans (by kernel_rfl)

theorem cmd_Check_2 (x1 x2 : Int) (x3 x4 : ByteArray) (x5 : Int) (x6 : List ByteArray) (x7 : List Int) (x8 x9 x10 x11 : Int) (x12 : List Int) : cmd_Check 2 x1 x2 x3 x4 x5 x6 x7 x8 x9 x10 x11 x12 = chkGen true false false false false false false false false true x1 x2 x3 x4 x5 x6 x7 x8 x9 x10 x11 x12 := (cmd_Check_eq _ _ _ _ _ _ _ _ _ _ _ _ _).trans (by kernel_rfl)

theorem cmd_Check_3 (x1 x2 : Int) (x3 x4 : ByteArray) (x5 : Int) (x6 : List ByteArray) (x7 : List Int) (x8 x9 x10 x11 : Int) (x12 : List Int) : cmd_Check 3 x1 x2 x3 x4 x5 x6 x7 x8 x9 x10 x11 x12 = chkGen true true false false true false false false false false x1 x2 x3 x4 x5 x6 x7 x8 x9 x10 x11 x12 := (cmd_Check_eq _ _ _ _ _ _ _ _ _ _ _ _ _).trans (by kernel_rfl)

theorem cmd_Check_4 (x1 x2 : Int) (x3 x4 : ByteArray) (x5 : Int) (x6 : List ByteArray) (x7 : List Int) (x8 x9 x10 x11 : Int) (x12 : List Int) : cmd_Check 4 x1 x2 x3 x4 x5 x6 x7 x8 x9 x10 x11 x12 = chkGen true true false true true false false true false false x1 x2 x3 x4 x5 x6 x7 x8 x9 x10 x11 x12 := (cmd_Check_eq _ _ _ _ _ _ _ _ _ _ _ _ _).trans (by kernel_rfl)

theorem cmd_Check_5 (x1 x2 : Int) (x3 x4 : ByteArray) (x5 : Int) (x6 : List ByteArray) (x7 : List Int) (x8 x9 x10 x11 : Int) (x12 : List Int) : cmd_Check 5 x1 x2 x3 x4 x5 x6 x7 x8 x9 x10 x11 x12 = chkGen true true true false false false false true true false x1 x2 x3 x4 x5 x6 x7 x8 x9 x10 x11 x12 := (cmd_Check_eq _ _ _ _ _ _ _ _ _ _ _ _ _).trans (by kernel_rfl)

theorem cmd_Check_6 (x1 x2 : Int) (x3 x4 : ByteArray) (x5 : Int) (x6 : List ByteArray) (x7 : List Int) (x8 x9 x10 x11 : Int) (x12 : List Int) : cmd_Check 6 x1 x2 x3 x4 x5 x6 x7 x8 x9 x10 x11 x12 = chkGen true false true false true true false false false false x1 x2 x3 x4 x5 x6 x7 x8 x9 x10 x11 x12 := (cmd_Check_eq _ _ _ _ _ _ _ _ _ _ _ _ _).trans (by kernel_rfl)

theorem cmd_Check_7 (x1 x2 : Int) (x3 x4 : ByteArray) (x5 : Int) (x6 : List ByteArray) (x7 : List Int) (x8 x9 x10 x11 : Int) (x12 : List Int) : cmd_Check 7 x1 x2 x3 x4 x5 x6 x7 x8 x9 x10 x11 x12 = chkGen true false true false false true false false false false x1 x2 x3 x4 x5 x6 x7 x8 x9 x10 x11 x12 := (cmd_Check_eq _ _ _ _ _ _ _ _ _ _ _ _ _).trans (by kernel_rfl)

theorem cmd_Check_8 (x1 x2 : Int) (x3 x4 : ByteArray) (x5 : Int) (x6 : List ByteArray) (x7 : List Int) (x8 x9 x10 x11 : Int) (x12 : List Int) : cmd_Check 8 x1 x2 x3 x4 x5 x6 x7 x8 x9 x10 x11 x12 = chkGen true false false false true true true false false false x1 x2 x3 x4 x5 x6 x7 x8 x9 x10 x11 x12 := (cmd_Check_eq _ _ _ _ _ _ _ _ _ _ _ _ _).trans (by kernel_rfl)

theorem cmd_Check_9 (x1 x2 : Int) (x3 x4 : ByteArray) (x5 : Int) (x6 : List ByteArray) (x7 : List Int) (x8 x9 x10 x11 : Int) (x12 : List Int) : cmd_Check 9 x1 x2 x3 x4 x5 x6 x7 x8 x9 x10 x11 x12 = chkGen true false false false false true false true false false x1 x2 x3 x4 x5 x6 x7 x8 x9 x10 x11 x12 := (cmd_Check_eq _ _ _ _ _ _ _ _ _ _ _ _ _).trans (by kernel_rfl)

theorem cmd_Check_10 (x1 x2 : Int) (x3 x4 : ByteArray) (x5 : Int) (x6 : List ByteArray) (x7 : List Int) (x8 x9 x10 x11 : Int) (x12 : List Int) : cmd_Check 10 x1 x2 x3 x4 x5 x6 x7 x8 x9 x10 x11 x12 = chkGen true false false false false true false false false false x1 x2 x3 x4 x5 x6 x7 x8 x9 x10 x11 x12 := (cmd_Check_eq _ _ _ _ _ _ _ _ _ _ _ _ _).trans (by kernel_rfl)

theorem cmd_Check_11 (x1 x2 : Int) (x3 x4 : ByteArray) (x5 : Int) (x6 : List ByteArray) (x7 : List Int) (x8 x9 x10 x11 : Int) (x12 : List Int) : cmd_Check 11 x1 x2 x3 x4 x5 x6 x7 x8 x9 x10 x11 x12 = chkGen false false false false false true false true false true x1 x2 x3 x4 x5 x6 x7 x8 x9 x10 x11 x12 := (cmd_Check_eq _ _ _ _ _ _ _ _ _ _ _ _ _).trans (by kernel_rfl)

theorem cmd_Check_12 (x1 x2 : Int) (x3 x4 : ByteArray) (x5 : Int) (x6 : List ByteArray) (x7 : List Int) (x8 x9 x10 x11 : Int) (x12 : List Int) : cmd_Check 12 x1 x2 x3 x4 x5 x6 x7 x8 x9 x10 x11 x12 = chkGen false false false false false true false true false false x1 x2 x3 x4 x5 x6 x7 x8 x9 x10 x11 x12 := (cmd_Check_eq _ _ _ _ _ _ _ _ _ _ _ _ _).trans (by kernel_rfl)

theorem cmd_Check_out {x0 : Int} (h : ¬ (1 ≤ x0 ∧ x0 ≤ 12)) (x1 x2 : Int) (x3 x4 : ByteArray) (x5 : Int) (x6 : List ByteArray) (x7 : List Int) (x8 x9 x10 x11 : Int) (x12 : List Int) : cmd_Check x0 x1 x2 x3 x4 x5 x6 x7 x8 x9 x10 x11 x12 = some 1 := by
  rw [cmd_Check_eq, beq_no (show ¬ x0 = 1 by omega), beq_no (show ¬ x0 = 2 by omega), beq_no (show ¬ x0 = 3 by omega), beq_no (show ¬ x0 = 4 by omega), beq_no (show ¬ x0 = 5 by omega), beq_no (show ¬ x0 = 6 by omega), beq_no (show ¬ x0 = 7 by omega), beq_no (show ¬ x0 = 8 by omega), beq_no (show ¬ x0 = 9 by omega), beq_no (show ¬ x0 = 10 by omega), beq_no (show ¬ x0 = 11 by omega), beq_no (show ¬ x0 = 12 by omega)]
  rfl
theorem flag_out {k : Int} (h : ¬ (1 ≤ k ∧ k ≤ 12)) : flag k = 0 := by
  unfold flag
  rw [if_neg (by omega), if_neg (by omega), if_neg (by omega), if_neg (by omega), if_neg (by omega), if_neg (by omega), if_neg (by omega), if_neg (by omega), if_neg (by omega), if_neg (by omega), if_neg (by omega), if_neg (by omega)]

theorem kinds {P : Int → Prop} (k : Int) (h : 1 ≤ k ∧ k ≤ 12) (h1 : P 1) (h2 : P 2) (h3 : P 3) (h4 : P 4) (h5 : P 5) (h6 : P 6) (h7 : P 7) (h8 : P 8) (h9 : P 9) (h10 : P 10) (h11 : P 11) (h12 : P 12) : P k := by
  have : k = 1 ∨ k = 2 ∨ k = 3 ∨ k = 4 ∨ k = 5 ∨ k = 6 ∨ k = 7 ∨ k = 8 ∨ k = 9 ∨ k = 10 ∨ k = 11 ∨ k = 12 := by omega
  rcases this with rfl | rfl | rfl | rfl | rfl | rfl | rfl | rfl | rfl | rfl | rfl | rfl <;> assumption

theorem cmd_Check_spec (x0 : Int) (x1 x2 : Int) (x3 x4 : ByteArray) (x5 : Int) (x6 : List ByteArray) (x7 : List Int) (x8 x9 x10 x11 : Int) (x12 : List Int) (h3 : x3.size ≤ 140737488351232) (h4 : x4.size ≤ 140737488351232) (hl : x6.length ≤ 9223372036854775806) (hv : x7.length ≤ 9223372036854775806) (ht : Txt x6) :
    cmd_Check x0 x1 x2 x3 x4 x5 x6 x7 x8 x9 x10 x11 x12 = some (chkC x0 x1 x2 x3 x4 x5 x6 x7 x8 x9 x10 x11 x12) := by
  by_cases h : 1 ≤ x0 ∧ x0 ≤ 12
  · have g := fun a n w k v i o c t d => chkGen_spec a n w k v i o c t d x1 x2 x3 x4 x5 x6 x7 x8 x9 x10 x11 x12 h3 h4 hl hv ht
    exact kinds (P := fun x0 => cmd_Check x0 x1 x2 x3 x4 x5 x6 x7 x8 x9 x10 x11 x12 = some (chkC x0 x1 x2 x3 x4 x5 x6 x7 x8 x9 x10 x11 x12)) x0 h
      ((cmd_Check_1 x1 x2 x3 x4 x5 x6 x7 x8 x9 x10 x11 x12).trans (g _ _ _ _ _ _ _ _ _ _))
      ((cmd_Check_2 x1 x2 x3 x4 x5 x6 x7 x8 x9 x10 x11 x12).trans (g _ _ _ _ _ _ _ _ _ _))
      ((cmd_Check_3 x1 x2 x3 x4 x5 x6 x7 x8 x9 x10 x11 x12).trans (g _ _ _ _ _ _ _ _ _ _))
      ((cmd_Check_4 x1 x2 x3 x4 x5 x6 x7 x8 x9 x10 x11 x12).trans (g _ _ _ _ _ _ _ _ _ _))
      ((cmd_Check_5 x1 x2 x3 x4 x5 x6 x7 x8 x9 x10 x11 x12).trans (g _ _ _ _ _ _ _ _ _ _))
      ((cmd_Check_6 x1 x2 x3 x4 x5 x6 x7 x8 x9 x10 x11 x12).trans (g _ _ _ _ _ _ _ _ _ _))
      ((cmd_Check_7 x1 x2 x3 x4 x5 x6 x7 x8 x9 x10 x11 x12).trans (g _ _ _ _ _ _ _ _ _ _))
      ((cmd_Check_8 x1 x2 x3 x4 x5 x6 x7 x8 x9 x10 x11 x12).trans (g _ _ _ _ _ _ _ _ _ _))
      ((cmd_Check_9 x1 x2 x3 x4 x5 x6 x7 x8 x9 x10 x11 x12).trans (g _ _ _ _ _ _ _ _ _ _))
      ((cmd_Check_10 x1 x2 x3 x4 x5 x6 x7 x8 x9 x10 x11 x12).trans (g _ _ _ _ _ _ _ _ _ _))
      ((cmd_Check_11 x1 x2 x3 x4 x5 x6 x7 x8 x9 x10 x11 x12).trans (g _ _ _ _ _ _ _ _ _ _))
      ((cmd_Check_12 x1 x2 x3 x4 x5 x6 x7 x8 x9 x10 x11 x12).trans (g _ _ _ _ _ _ _ _ _ _))
  · rw [cmd_Check_out h, chkC, if_pos (flag_out h)]
end Go.Proofs.Ytgaihonnbdhbmaa.PE
namespace Go.Proofs.Ytgaihonnbdhbmaa.PE
open Go Go.RowKit Go.Proofs.Ytgaihonnbdhbmaa.Pack
noncomputable def optU (f : Bool) (b : List Int) (x : Int) : Option (List Int) := bif f then pack_Uint b (IntKind.u64.wrap x) else some b
noncomputable def optB (f : Bool) (b t : List Int) : Option (List Int) := bif f then pack_Bytes b t else some b
noncomputable def optI (f : Bool) (b : List Int) (x : Int) : Option (List Int) := bif f then pack_Int b x else some b
noncomputable def optV (f : Bool) (b : List Int) (ns : List ByteArray) (vs : List Int) : Option (List Int) := bif f then vars_Put b ns vs else some b
def eU (f : Bool) (x : Int) : List Int := bif f then enc x.toNat else []
def eB (f : Bool) (t : List Int) : List Int := bif f then encB t else []
def eI (f : Bool) (x : Int) : List Int := bif f then enc (zig x) else []
def eV (f : Bool) (ns : List ByteArray) (vs : List Int) : List Int := bif f then encV ns vs else []

noncomputable def putGen (a n w k v i o c t d : Bool) (x0 x1 x2 : Int) (x3 x4 : ByteArray) (x5 : Int) (x6 : List ByteArray) (x7 : List Int) (x8 x9 x10 x11 : Int) (x12 : List Int) : Option (List Int × Int) :=
  (optU a [IntKind.u8.wrap x0] x1).bind fun r0 => (optU a r0 x2).bind fun r1 => (optU i r1 x8).bind fun r2 => (optU o r2 x9).bind fun r3 => (optU c r3 x10).bind fun r4 => (optU t r4 x11).bind fun r5 => (optB n r5 (bytesList x3)).bind fun r6 => (optB w r6 (bytesList x4)).bind fun r7 => (optI k r7 x5).bind fun r8 => (optV v r8 x6 x7).bind fun r9 => (optB d r9 x12).bind fun r10 => some (r10, 0)

/-- What stands behind a command's kind. -/
def rest24 (a n w k v i o c t d : Bool) (x1 x2 : Int) (x3 x4 : ByteArray) (x5 : Int) (x6 : List ByteArray) (x7 : List Int) (x8 x9 x10 x11 : Int) (x12 : List Int) : List Int :=
  eU a x1 ++ (eU a x2 ++ (eU i x8 ++ (eU o x9 ++ (eU c x10 ++ (eU t x11 ++ (eB n (bytesList x3) ++ (eB w (bytesList x4) ++ (eI k x5 ++ (eV v x6 x7 ++ (eB d x12))))))))))

def encC (x0 x1 x2 : Int) (x3 x4 : ByteArray) (x5 : Int) (x6 : List ByteArray) (x7 : List Int) (x8 x9 x10 x11 : Int) (x12 : List Int) : List Int := x0 :: rest24 (hs x0 1) (hs x0 2) (hs x0 4) (hs x0 8) (hs x0 16) (hs x0 32) (hs x0 64) (hs x0 128) (hs x0 256) (hs x0 512) x1 x2 x3 x4 x5 x6 x7 x8 x9 x10 x11 x12

theorem cmd_Put_1 (x1 x2 : Int) (x3 x4 : ByteArray) (x5 : Int) (x6 : List ByteArray) (x7 : List Int) (x8 x9 x10 x11 : Int) (x12 : List Int) (h : cmd_Check 1 x1 x2 x3 x4 x5 x6 x7 x8 x9 x10 x11 x12 = some 0) : cmd_Put 1 x1 x2 x3 x4 x5 x6 x7 x8 x9 x10 x11 x12 = putGen false false false false false false false false true false 1 x1 x2 x3 x4 x5 x6 x7 x8 x9 x10 x11 x12 := (cmd_Put_eq _ _ _ _ _ _ _ _ _ _ _ _ _).trans ((congrArg (fun o => Option.bind o _) h).trans (by kernel_rfl))

theorem cmd_Put_2 (x1 x2 : Int) (x3 x4 : ByteArray) (x5 : Int) (x6 : List ByteArray) (x7 : List Int) (x8 x9 x10 x11 : Int) (x12 : List Int) (h : cmd_Check 2 x1 x2 x3 x4 x5 x6 x7 x8 x9 x10 x11 x12 = some 0) : cmd_Put 2 x1 x2 x3 x4 x5 x6 x7 x8 x9 x10 x11 x12 = putGen true false false false false false false false false true 2 x1 x2 x3 x4 x5 x6 x7 x8 x9 x10 x11 x12 := (cmd_Put_eq _ _ _ _ _ _ _ _ _ _ _ _ _).trans ((congrArg (fun o => Option.bind o _) h).trans (by kernel_rfl))

theorem cmd_Put_3 (x1 x2 : Int) (x3 x4 : ByteArray) (x5 : Int) (x6 : List ByteArray) (x7 : List Int) (x8 x9 x10 x11 : Int) (x12 : List Int) (h : cmd_Check 3 x1 x2 x3 x4 x5 x6 x7 x8 x9 x10 x11 x12 = some 0) : cmd_Put 3 x1 x2 x3 x4 x5 x6 x7 x8 x9 x10 x11 x12 = putGen true true false false true false false false false false 3 x1 x2 x3 x4 x5 x6 x7 x8 x9 x10 x11 x12 := (cmd_Put_eq _ _ _ _ _ _ _ _ _ _ _ _ _).trans ((congrArg (fun o => Option.bind o _) h).trans (by kernel_rfl))

theorem cmd_Put_4 (x1 x2 : Int) (x3 x4 : ByteArray) (x5 : Int) (x6 : List ByteArray) (x7 : List Int) (x8 x9 x10 x11 : Int) (x12 : List Int) (h : cmd_Check 4 x1 x2 x3 x4 x5 x6 x7 x8 x9 x10 x11 x12 = some 0) : cmd_Put 4 x1 x2 x3 x4 x5 x6 x7 x8 x9 x10 x11 x12 = putGen true true false true true false false true false false 4 x1 x2 x3 x4 x5 x6 x7 x8 x9 x10 x11 x12 := (cmd_Put_eq _ _ _ _ _ _ _ _ _ _ _ _ _).trans ((congrArg (fun o => Option.bind o _) h).trans (by kernel_rfl))

theorem cmd_Put_5 (x1 x2 : Int) (x3 x4 : ByteArray) (x5 : Int) (x6 : List ByteArray) (x7 : List Int) (x8 x9 x10 x11 : Int) (x12 : List Int) (h : cmd_Check 5 x1 x2 x3 x4 x5 x6 x7 x8 x9 x10 x11 x12 = some 0) : cmd_Put 5 x1 x2 x3 x4 x5 x6 x7 x8 x9 x10 x11 x12 = putGen true true true false false false false true true false 5 x1 x2 x3 x4 x5 x6 x7 x8 x9 x10 x11 x12 := (cmd_Put_eq _ _ _ _ _ _ _ _ _ _ _ _ _).trans ((congrArg (fun o => Option.bind o _) h).trans (by kernel_rfl))

theorem cmd_Put_6 (x1 x2 : Int) (x3 x4 : ByteArray) (x5 : Int) (x6 : List ByteArray) (x7 : List Int) (x8 x9 x10 x11 : Int) (x12 : List Int) (h : cmd_Check 6 x1 x2 x3 x4 x5 x6 x7 x8 x9 x10 x11 x12 = some 0) : cmd_Put 6 x1 x2 x3 x4 x5 x6 x7 x8 x9 x10 x11 x12 = putGen true false true false true true false false false false 6 x1 x2 x3 x4 x5 x6 x7 x8 x9 x10 x11 x12 := (cmd_Put_eq _ _ _ _ _ _ _ _ _ _ _ _ _).trans ((congrArg (fun o => Option.bind o _) h).trans (by kernel_rfl))

theorem cmd_Put_7 (x1 x2 : Int) (x3 x4 : ByteArray) (x5 : Int) (x6 : List ByteArray) (x7 : List Int) (x8 x9 x10 x11 : Int) (x12 : List Int) (h : cmd_Check 7 x1 x2 x3 x4 x5 x6 x7 x8 x9 x10 x11 x12 = some 0) : cmd_Put 7 x1 x2 x3 x4 x5 x6 x7 x8 x9 x10 x11 x12 = putGen true false true false false true false false false false 7 x1 x2 x3 x4 x5 x6 x7 x8 x9 x10 x11 x12 := (cmd_Put_eq _ _ _ _ _ _ _ _ _ _ _ _ _).trans ((congrArg (fun o => Option.bind o _) h).trans (by kernel_rfl))

theorem cmd_Put_8 (x1 x2 : Int) (x3 x4 : ByteArray) (x5 : Int) (x6 : List ByteArray) (x7 : List Int) (x8 x9 x10 x11 : Int) (x12 : List Int) (h : cmd_Check 8 x1 x2 x3 x4 x5 x6 x7 x8 x9 x10 x11 x12 = some 0) : cmd_Put 8 x1 x2 x3 x4 x5 x6 x7 x8 x9 x10 x11 x12 = putGen true false false false true true true false false false 8 x1 x2 x3 x4 x5 x6 x7 x8 x9 x10 x11 x12 := (cmd_Put_eq _ _ _ _ _ _ _ _ _ _ _ _ _).trans ((congrArg (fun o => Option.bind o _) h).trans (by kernel_rfl))

theorem cmd_Put_9 (x1 x2 : Int) (x3 x4 : ByteArray) (x5 : Int) (x6 : List ByteArray) (x7 : List Int) (x8 x9 x10 x11 : Int) (x12 : List Int) (h : cmd_Check 9 x1 x2 x3 x4 x5 x6 x7 x8 x9 x10 x11 x12 = some 0) : cmd_Put 9 x1 x2 x3 x4 x5 x6 x7 x8 x9 x10 x11 x12 = putGen true false false false false true false true false false 9 x1 x2 x3 x4 x5 x6 x7 x8 x9 x10 x11 x12 := (cmd_Put_eq _ _ _ _ _ _ _ _ _ _ _ _ _).trans ((congrArg (fun o => Option.bind o _) h).trans (by kernel_rfl))

theorem cmd_Put_10 (x1 x2 : Int) (x3 x4 : ByteArray) (x5 : Int) (x6 : List ByteArray) (x7 : List Int) (x8 x9 x10 x11 : Int) (x12 : List Int) (h : cmd_Check 10 x1 x2 x3 x4 x5 x6 x7 x8 x9 x10 x11 x12 = some 0) : cmd_Put 10 x1 x2 x3 x4 x5 x6 x7 x8 x9 x10 x11 x12 = putGen true false false false false true false false false false 10 x1 x2 x3 x4 x5 x6 x7 x8 x9 x10 x11 x12 := (cmd_Put_eq _ _ _ _ _ _ _ _ _ _ _ _ _).trans ((congrArg (fun o => Option.bind o _) h).trans (by kernel_rfl))

theorem cmd_Put_11 (x1 x2 : Int) (x3 x4 : ByteArray) (x5 : Int) (x6 : List ByteArray) (x7 : List Int) (x8 x9 x10 x11 : Int) (x12 : List Int) (h : cmd_Check 11 x1 x2 x3 x4 x5 x6 x7 x8 x9 x10 x11 x12 = some 0) : cmd_Put 11 x1 x2 x3 x4 x5 x6 x7 x8 x9 x10 x11 x12 = putGen false false false false false true false true false true 11 x1 x2 x3 x4 x5 x6 x7 x8 x9 x10 x11 x12 := (cmd_Put_eq _ _ _ _ _ _ _ _ _ _ _ _ _).trans ((congrArg (fun o => Option.bind o _) h).trans (by kernel_rfl))

theorem cmd_Put_12 (x1 x2 : Int) (x3 x4 : ByteArray) (x5 : Int) (x6 : List ByteArray) (x7 : List Int) (x8 x9 x10 x11 : Int) (x12 : List Int) (h : cmd_Check 12 x1 x2 x3 x4 x5 x6 x7 x8 x9 x10 x11 x12 = some 0) : cmd_Put 12 x1 x2 x3 x4 x5 x6 x7 x8 x9 x10 x11 x12 = putGen false false false false false true false true false false 12 x1 x2 x3 x4 x5 x6 x7 x8 x9 x10 x11 x12 := (cmd_Put_eq _ _ _ _ _ _ _ _ _ _ _ _ _).trans ((congrArg (fun o => Option.bind o _) h).trans (by kernel_rfl))

theorem eU_len (f : Bool) (x : Int) : (eU f x).length ≤ 10 := by
  cases f with
  | false => simp [eU]
  | true => exact enc_length _
theorem eI_len (f : Bool) (x : Int) : (eI f x).length ≤ 10 := by
  cases f with
  | false => simp [eI]
  | true => exact enc_length _
theorem eB_len (f : Bool) (t : List Int) : (eB f t).length ≤ t.length + 10 := by
  cases f with
  | false => simp [eB]
  | true => exact encB_len _
theorem optU_spec {f : Bool} {b : List Int} {x : Int} (h : f = true → 0 ≤ x ∧ x ≤ 1099511627776) (hb : b.length ≤ 100000000000) : optU f b x = some (b ++ eU f x) := by
  cases f with
  | false => show some b = some (b ++ []); rw [List.append_nil]
  | true =>
    have hx := h rfl
    show pack_Uint b (IntKind.u64.wrap x) = some (b ++ enc x.toNat)
    rw [wrap_u64 (by omega) (by omega), ← uint_spec (n := x.toNat) (by omega) (by omega), show ((x.toNat : Nat) : Int) = x by omega]
theorem optB_spec {f : Bool} {b t : List Int} (h : f = true → t.length ≤ 100000) (hb : b.length ≤ 100000000000) : optB f b t = some (b ++ eB f t) := by
  cases f with
  | false => show some b = some (b ++ []); rw [List.append_nil]
  | true => exact bytesL (by omega) (h rfl)
theorem optI_spec {f : Bool} {b : List Int} {x : Int} (h : -9223372036854775808 ≤ x ∧ x ≤ 9223372036854775807) (hb : b.length ≤ 100000000000) : optI f b x = some (b ++ eI f x) := by
  cases f with
  | false => show some b = some (b ++ []); rw [List.append_nil]
  | true => exact int_spec h.1 h.2 (by omega)
theorem optV_spec {f : Bool} {b : List Int} {ns : List ByteArray} {vs : List Int} (h : f = true → chkV ns vs = 0) (hv : I64 vs) (hb : b.length ≤ 100000000000) : optV f b ns vs = some (b ++ eV f ns vs) := by
  cases f with
  | false => show some b = some (b ++ []); rw [List.append_nil]
  | true =>
    obtain ⟨g1, g2, g3⟩ := chkV_ok (h rfl)
    exact vput_spec (by omega) g1 (goodV_name g3) hv hb

end Go.Proofs.Ytgaihonnbdhbmaa.PE
namespace Go.Proofs.Ytgaihonnbdhbmaa.PE
open Go Go.RowKit Go.Proofs.Ytgaihonnbdhbmaa.Pack
theorem fromS_yes {x lo hi : Int} {a : Bool} (h : fromS x a lo hi = true) : (a = true → lo ≤ x ∧ x ≤ hi) ∧ (a = false → x = 0) := by
  cases a with
  | false => exact ⟨fun h => (by cases h), fun _ => eq_of_beq h⟩
  | true =>
    refine ⟨fun _ => ?_, fun h => (by cases h)⟩
    have h2 : inR x lo hi = true := h
    rw [inR, Bool.and_eq_true, decide_eq_true_eq, decide_eq_true_eq] at h2
    exact h2
theorem emp_of {s : ByteArray} (h : (s.toList == (⟨#[]⟩ : ByteArray).toList) = true) : s = ⟨#[]⟩ := by
  have e := eq_of_beq h
  rw [toList_data, toList_data] at e
  cases s with
  | mk d =>
    cases d with
    | mk l =>
      have : l = [] := e
      rw [this]
theorem textS_yes {s : ByteArray} {a : Bool} (h : textS s a = true) : (a = true → nameS s = true) ∧ (a = false → s = ⟨#[]⟩) := by
  cases a with
  | false => exact ⟨fun h => (by cases h), fun _ => emp_of h⟩
  | true => exact ⟨fun _ => h, fun h => (by cases h)⟩
theorem varsS_yes {ns : List ByteArray} {vs : List Int} {a : Bool} (h : varsS ns vs a = 0) : (a = true → chkV ns vs = 0) ∧ (a = false → ns = [] ∧ vs = []) := by
  cases a with
  | true => exact ⟨fun _ => h, fun h => (by cases h)⟩
  | false =>
    refine ⟨fun h => (by cases h), fun _ => ?_⟩
    have h2 : (bif decide (0 < ns.length) || decide (0 < vs.length) then 1 else chkV ns vs) = 0 := h
    cases e : (decide (0 < ns.length) || decide (0 < vs.length)) with
    | true => rw [e, cond_true] at h2; cases h2
    | false =>
      rw [Bool.or_eq_false_iff, decide_eq_false_iff_not, decide_eq_false_iff_not] at e
      exact ⟨List.length_eq_zero_iff.mp (by omega), List.length_eq_zero_iff.mp (by omega)⟩
structure Ok24 (a n w k v i o c t d : Bool) (x1 x2 : Int) (x3 x4 : ByteArray) (x5 : Int) (x6 : List ByteArray) (x7 : List Int) (x8 x9 x10 x11 : Int) (x12 : List Int) : Prop where
  c1 : fromS x1 a 1 1099511627776 = true
  c2 : fromS x2 a 1 1099511627776 = true
  c3 : textS x3 n = true
  c4 : textS x4 w = true
  c5 : k = false → x5 = 0
  c8 : fromS x8 i 0 1099511627776 = true
  c9 : fromS x9 o 0 1099511627776 = true
  c10 : fromS x10 c 0 1099511627776 = true
  c11 : fromS x11 t 0 1099511627776 = true
  c12 : d = false → x12 = []
  c13 : x12.length ≤ 65536
  c6 : varsS x6 x7 v = 0

theorem of_bne_false {a b : Int} (h : (a != b) = false) : a = b := by simpa using h
theorem chkB_ok {a n w k v i o c t d : Bool} {x1 x2 : Int} {x3 x4 : ByteArray} {x5 : Int} {x6 : List ByteArray} {x7 : List Int} {x8 x9 x10 x11 : Int} {x12 : List Int} (h : chkB a n w k v i o c t d x1 x2 x3 x4 x5 x6 x7 x8 x9 x10 x11 x12 = 0) : Ok24 a n w k v i o c t d x1 x2 x3 x4 x5 x6 x7 x8 x9 x10 x11 x12 := by
  unfold chkB at h
  cases e1 : fromS x1 a 1 1099511627776 with
  | false => rw [e1, Bool.not_false, cond_true] at h; cases h
  | true =>
  rw [e1, Bool.not_true, cond_false] at h
  cases e2 : fromS x2 a 1 1099511627776 with
  | false => rw [e2, Bool.not_false, cond_true] at h; cases h
  | true =>
  rw [e2, Bool.not_true, cond_false] at h
  cases e3 : textS x3 n with
  | false => rw [e3, Bool.not_false, cond_true] at h; cases h
  | true =>
  rw [e3, Bool.not_true, cond_false] at h
  cases e4 : textS x4 w with
  | false => rw [e4, Bool.not_false, cond_true] at h; cases h
  | true =>
  rw [e4, Bool.not_true, cond_false] at h
  cases e5 : (!k && x5 != 0) with
  | true => rw [e5, cond_true] at h; cases h
  | false =>
  rw [e5, cond_false] at h
  cases e8 : fromS x8 i 0 1099511627776 with
  | false => rw [e8, Bool.not_false, cond_true] at h; cases h
  | true =>
  rw [e8, Bool.not_true, cond_false] at h
  cases e9 : fromS x9 o 0 1099511627776 with
  | false => rw [e9, Bool.not_false, cond_true] at h; cases h
  | true =>
  rw [e9, Bool.not_true, cond_false] at h
  cases e10 : fromS x10 c 0 1099511627776 with
  | false => rw [e10, Bool.not_false, cond_true] at h; cases h
  | true =>
  rw [e10, Bool.not_true, cond_false] at h
  cases e11 : fromS x11 t 0 1099511627776 with
  | false => rw [e11, Bool.not_false, cond_true] at h; cases h
  | true =>
  rw [e11, Bool.not_true, cond_false] at h
  cases e12 : (!d && decide (ilen x12 > 0)) with
  | true => rw [e12, cond_true] at h; cases h
  | false =>
  rw [e12, cond_false, Bool.cond_decide] at h
  by_cases e13 : ilen x12 > 65536
  · rw [if_pos e13] at h; cases h
  rw [if_neg e13] at h
  rw [ilen_eq] at e13 e12
  refine ⟨e1, e2, e3, e4, fun hk => ?_, e8, e9, e10, e11, fun hd => ?_, by omega, h⟩
  · rw [hk, Bool.not_false, Bool.true_and] at e5
    exact of_bne_false e5
  · rw [hd, Bool.not_false, Bool.true_and, decide_eq_false_iff_not] at e12
    exact List.length_eq_zero_iff.mp (by omega)

theorem name_small {s : ByteArray} {a : Bool} (h : textS s a = true) : (bytesList s).length ≤ 32 := by
  cases a with
  | true => exact nameS_len ((textS_yes h).1 rfl)
  | false => rw [(textS_yes h).2 rfl]; exact Nat.zero_le _
theorem eV_len {f : Bool} {ns : List ByteArray} {vs : List Int} (h : varsS ns vs f = 0) : (eV f ns vs).length ≤ 4000 := by
  cases f with
  | false => simp [eV]
  | true =>
    obtain ⟨g1, g2, g3⟩ := chkV_ok ((varsS_yes h).1 rfl)
    have a1 := encPairs_len vs (goodV_name g3)
    have a2 := enc_length ns.length
    show (encV ns vs).length ≤ 4000
    simp only [encV, List.length_append]; omega
theorem putGen_spec {a n w k v i o c t d : Bool} {x0 x1 x2 : Int} {x3 x4 : ByteArray} {x5 : Int} {x6 : List ByteArray} {x7 : List Int} {x8 x9 x10 x11 : Int} {x12 : List Int} (ok : Ok24 a n w k v i o c t d x1 x2 x3 x4 x5 x6 x7 x8 x9 x10 x11 x12) (h0 : 0 ≤ x0 ∧ x0 ≤ 255) (h5 : -9223372036854775808 ≤ x5 ∧ x5 ≤ 9223372036854775807) (h7 : I64 x7) :
    putGen a n w k v i o c t d x0 x1 x2 x3 x4 x5 x6 x7 x8 x9 x10 x11 x12 = some (x0 :: rest24 a n w k v i o c t d x1 x2 x3 x4 x5 x6 x7 x8 x9 x10 x11 x12, 0) := by
  have n3 := name_small ok.c3
  have n4 := name_small ok.c4
  have f0 := eU_len a x1
  have f1 := eU_len a x2
  have f2 := eU_len i x8
  have f3 := eU_len o x9
  have f4 := eU_len c x10
  have f5 := eU_len t x11
  have f6 := eB_len n (bytesList x3)
  have f7 := eB_len w (bytesList x4)
  have f8 := eI_len k x5
  have f9 := eV_len ok.c6
  unfold putGen rest24
  rw [show IntKind.u8.wrap x0 = x0 by rw [wrap_u8]; omega]
  rw [optU_spec (fun h => by have := (fromS_yes ok.c1).1 h; omega) (by simp only [List.length_append, List.length_cons, List.length_nil]; omega), Option.bind_some]
  rw [optU_spec (fun h => by have := (fromS_yes ok.c2).1 h; omega) (by simp only [List.length_append, List.length_cons, List.length_nil]; omega), Option.bind_some]
  rw [optU_spec (fromS_yes ok.c8).1 (by simp only [List.length_append, List.length_cons, List.length_nil]; omega), Option.bind_some]
  rw [optU_spec (fromS_yes ok.c9).1 (by simp only [List.length_append, List.length_cons, List.length_nil]; omega), Option.bind_some]
  rw [optU_spec (fromS_yes ok.c10).1 (by simp only [List.length_append, List.length_cons, List.length_nil]; omega), Option.bind_some]
  rw [optU_spec (fromS_yes ok.c11).1 (by simp only [List.length_append, List.length_cons, List.length_nil]; omega), Option.bind_some]
  rw [optB_spec (fun h => by have := nameS_len ((textS_yes ok.c3).1 h); omega) (by simp only [List.length_append, List.length_cons, List.length_nil]; omega), Option.bind_some]
  rw [optB_spec (fun h => by have := nameS_len ((textS_yes ok.c4).1 h); omega) (by simp only [List.length_append, List.length_cons, List.length_nil]; omega), Option.bind_some]
  rw [optI_spec h5 (by simp only [List.length_append, List.length_cons, List.length_nil]; omega), Option.bind_some]
  rw [optV_spec (varsS_yes ok.c6).1 h7 (by simp only [List.length_append, List.length_cons, List.length_nil]; omega), Option.bind_some]
  rw [optB_spec (fun _ => by have := ok.c13; omega) (by simp only [List.length_append, List.length_cons, List.length_nil]; omega), Option.bind_some]
  simp only [List.append_assoc, List.singleton_append, List.cons_append, List.nil_append]

end Go.Proofs.Ytgaihonnbdhbmaa.PE
namespace Go.Proofs.Ytgaihonnbdhbmaa.PE
open Go Go.RowKit Go.Proofs.Ytgaihonnbdhbmaa.Pack

theorem ok_1 {x1 x2 : Int} {x3 x4 : ByteArray} {x5 : Int} {x6 : List ByteArray} {x7 : List Int} {x8 x9 x10 x11 : Int} {x12 : List Int} (h : chkC 1 x1 x2 x3 x4 x5 x6 x7 x8 x9 x10 x11 x12 = 0) : Ok24 false false false false false false false false true false x1 x2 x3 x4 x5 x6 x7 x8 x9 x10 x11 x12 := chkB_ok (show chkB false false false false false false false false true false x1 x2 x3 x4 x5 x6 x7 x8 x9 x10 x11 x12 = 0 from h)
theorem put_1 {x1 x2 : Int} {x3 x4 : ByteArray} {x5 : Int} {x6 : List ByteArray} {x7 : List Int} {x8 x9 x10 x11 : Int} {x12 : List Int} (h3 : x3.size ≤ 140737488351232) (h4 : x4.size ≤ 140737488351232) (hl : x6.length ≤ 9223372036854775806) (hv : x7.length ≤ 9223372036854775806) (ht : Txt x6) (h5 : -9223372036854775808 ≤ x5 ∧ x5 ≤ 9223372036854775807) (h7 : I64 x7) (h : chkC 1 x1 x2 x3 x4 x5 x6 x7 x8 x9 x10 x11 x12 = 0) : cmd_Put 1 x1 x2 x3 x4 x5 x6 x7 x8 x9 x10 x11 x12 = some (encC 1 x1 x2 x3 x4 x5 x6 x7 x8 x9 x10 x11 x12, 0) :=
  (cmd_Put_1 x1 x2 x3 x4 x5 x6 x7 x8 x9 x10 x11 x12 ((cmd_Check_spec 1 x1 x2 x3 x4 x5 x6 x7 x8 x9 x10 x11 x12 h3 h4 hl hv ht).trans (congrArg some h))).trans ((putGen_spec (ok_1 h) (by decide) h5 h7).trans rfl)

theorem ok_2 {x1 x2 : Int} {x3 x4 : ByteArray} {x5 : Int} {x6 : List ByteArray} {x7 : List Int} {x8 x9 x10 x11 : Int} {x12 : List Int} (h : chkC 2 x1 x2 x3 x4 x5 x6 x7 x8 x9 x10 x11 x12 = 0) : Ok24 true false false false false false false false false true x1 x2 x3 x4 x5 x6 x7 x8 x9 x10 x11 x12 := chkB_ok (show chkB true false false false false false false false false true x1 x2 x3 x4 x5 x6 x7 x8 x9 x10 x11 x12 = 0 from h)
theorem put_2 {x1 x2 : Int} {x3 x4 : ByteArray} {x5 : Int} {x6 : List ByteArray} {x7 : List Int} {x8 x9 x10 x11 : Int} {x12 : List Int} (h3 : x3.size ≤ 140737488351232) (h4 : x4.size ≤ 140737488351232) (hl : x6.length ≤ 9223372036854775806) (hv : x7.length ≤ 9223372036854775806) (ht : Txt x6) (h5 : -9223372036854775808 ≤ x5 ∧ x5 ≤ 9223372036854775807) (h7 : I64 x7) (h : chkC 2 x1 x2 x3 x4 x5 x6 x7 x8 x9 x10 x11 x12 = 0) : cmd_Put 2 x1 x2 x3 x4 x5 x6 x7 x8 x9 x10 x11 x12 = some (encC 2 x1 x2 x3 x4 x5 x6 x7 x8 x9 x10 x11 x12, 0) :=
  (cmd_Put_2 x1 x2 x3 x4 x5 x6 x7 x8 x9 x10 x11 x12 ((cmd_Check_spec 2 x1 x2 x3 x4 x5 x6 x7 x8 x9 x10 x11 x12 h3 h4 hl hv ht).trans (congrArg some h))).trans ((putGen_spec (ok_2 h) (by decide) h5 h7).trans rfl)

theorem ok_3 {x1 x2 : Int} {x3 x4 : ByteArray} {x5 : Int} {x6 : List ByteArray} {x7 : List Int} {x8 x9 x10 x11 : Int} {x12 : List Int} (h : chkC 3 x1 x2 x3 x4 x5 x6 x7 x8 x9 x10 x11 x12 = 0) : Ok24 true true false false true false false false false false x1 x2 x3 x4 x5 x6 x7 x8 x9 x10 x11 x12 := chkB_ok (show chkB true true false false true false false false false false x1 x2 x3 x4 x5 x6 x7 x8 x9 x10 x11 x12 = 0 from h)
theorem put_3 {x1 x2 : Int} {x3 x4 : ByteArray} {x5 : Int} {x6 : List ByteArray} {x7 : List Int} {x8 x9 x10 x11 : Int} {x12 : List Int} (h3 : x3.size ≤ 140737488351232) (h4 : x4.size ≤ 140737488351232) (hl : x6.length ≤ 9223372036854775806) (hv : x7.length ≤ 9223372036854775806) (ht : Txt x6) (h5 : -9223372036854775808 ≤ x5 ∧ x5 ≤ 9223372036854775807) (h7 : I64 x7) (h : chkC 3 x1 x2 x3 x4 x5 x6 x7 x8 x9 x10 x11 x12 = 0) : cmd_Put 3 x1 x2 x3 x4 x5 x6 x7 x8 x9 x10 x11 x12 = some (encC 3 x1 x2 x3 x4 x5 x6 x7 x8 x9 x10 x11 x12, 0) :=
  (cmd_Put_3 x1 x2 x3 x4 x5 x6 x7 x8 x9 x10 x11 x12 ((cmd_Check_spec 3 x1 x2 x3 x4 x5 x6 x7 x8 x9 x10 x11 x12 h3 h4 hl hv ht).trans (congrArg some h))).trans ((putGen_spec (ok_3 h) (by decide) h5 h7).trans rfl)

theorem ok_4 {x1 x2 : Int} {x3 x4 : ByteArray} {x5 : Int} {x6 : List ByteArray} {x7 : List Int} {x8 x9 x10 x11 : Int} {x12 : List Int} (h : chkC 4 x1 x2 x3 x4 x5 x6 x7 x8 x9 x10 x11 x12 = 0) : Ok24 true true false true true false false true false false x1 x2 x3 x4 x5 x6 x7 x8 x9 x10 x11 x12 := chkB_ok (show chkB true true false true true false false true false false x1 x2 x3 x4 x5 x6 x7 x8 x9 x10 x11 x12 = 0 from h)
theorem put_4 {x1 x2 : Int} {x3 x4 : ByteArray} {x5 : Int} {x6 : List ByteArray} {x7 : List Int} {x8 x9 x10 x11 : Int} {x12 : List Int} (h3 : x3.size ≤ 140737488351232) (h4 : x4.size ≤ 140737488351232) (hl : x6.length ≤ 9223372036854775806) (hv : x7.length ≤ 9223372036854775806) (ht : Txt x6) (h5 : -9223372036854775808 ≤ x5 ∧ x5 ≤ 9223372036854775807) (h7 : I64 x7) (h : chkC 4 x1 x2 x3 x4 x5 x6 x7 x8 x9 x10 x11 x12 = 0) : cmd_Put 4 x1 x2 x3 x4 x5 x6 x7 x8 x9 x10 x11 x12 = some (encC 4 x1 x2 x3 x4 x5 x6 x7 x8 x9 x10 x11 x12, 0) :=
  (cmd_Put_4 x1 x2 x3 x4 x5 x6 x7 x8 x9 x10 x11 x12 ((cmd_Check_spec 4 x1 x2 x3 x4 x5 x6 x7 x8 x9 x10 x11 x12 h3 h4 hl hv ht).trans (congrArg some h))).trans ((putGen_spec (ok_4 h) (by decide) h5 h7).trans rfl)

theorem ok_5 {x1 x2 : Int} {x3 x4 : ByteArray} {x5 : Int} {x6 : List ByteArray} {x7 : List Int} {x8 x9 x10 x11 : Int} {x12 : List Int} (h : chkC 5 x1 x2 x3 x4 x5 x6 x7 x8 x9 x10 x11 x12 = 0) : Ok24 true true true false false false false true true false x1 x2 x3 x4 x5 x6 x7 x8 x9 x10 x11 x12 := chkB_ok (show chkB true true true false false false false true true false x1 x2 x3 x4 x5 x6 x7 x8 x9 x10 x11 x12 = 0 from h)
theorem put_5 {x1 x2 : Int} {x3 x4 : ByteArray} {x5 : Int} {x6 : List ByteArray} {x7 : List Int} {x8 x9 x10 x11 : Int} {x12 : List Int} (h3 : x3.size ≤ 140737488351232) (h4 : x4.size ≤ 140737488351232) (hl : x6.length ≤ 9223372036854775806) (hv : x7.length ≤ 9223372036854775806) (ht : Txt x6) (h5 : -9223372036854775808 ≤ x5 ∧ x5 ≤ 9223372036854775807) (h7 : I64 x7) (h : chkC 5 x1 x2 x3 x4 x5 x6 x7 x8 x9 x10 x11 x12 = 0) : cmd_Put 5 x1 x2 x3 x4 x5 x6 x7 x8 x9 x10 x11 x12 = some (encC 5 x1 x2 x3 x4 x5 x6 x7 x8 x9 x10 x11 x12, 0) :=
  (cmd_Put_5 x1 x2 x3 x4 x5 x6 x7 x8 x9 x10 x11 x12 ((cmd_Check_spec 5 x1 x2 x3 x4 x5 x6 x7 x8 x9 x10 x11 x12 h3 h4 hl hv ht).trans (congrArg some h))).trans ((putGen_spec (ok_5 h) (by decide) h5 h7).trans rfl)

theorem ok_6 {x1 x2 : Int} {x3 x4 : ByteArray} {x5 : Int} {x6 : List ByteArray} {x7 : List Int} {x8 x9 x10 x11 : Int} {x12 : List Int} (h : chkC 6 x1 x2 x3 x4 x5 x6 x7 x8 x9 x10 x11 x12 = 0) : Ok24 true false true false true true false false false false x1 x2 x3 x4 x5 x6 x7 x8 x9 x10 x11 x12 := chkB_ok (show chkB true false true false true true false false false false x1 x2 x3 x4 x5 x6 x7 x8 x9 x10 x11 x12 = 0 from h)
theorem put_6 {x1 x2 : Int} {x3 x4 : ByteArray} {x5 : Int} {x6 : List ByteArray} {x7 : List Int} {x8 x9 x10 x11 : Int} {x12 : List Int} (h3 : x3.size ≤ 140737488351232) (h4 : x4.size ≤ 140737488351232) (hl : x6.length ≤ 9223372036854775806) (hv : x7.length ≤ 9223372036854775806) (ht : Txt x6) (h5 : -9223372036854775808 ≤ x5 ∧ x5 ≤ 9223372036854775807) (h7 : I64 x7) (h : chkC 6 x1 x2 x3 x4 x5 x6 x7 x8 x9 x10 x11 x12 = 0) : cmd_Put 6 x1 x2 x3 x4 x5 x6 x7 x8 x9 x10 x11 x12 = some (encC 6 x1 x2 x3 x4 x5 x6 x7 x8 x9 x10 x11 x12, 0) :=
  (cmd_Put_6 x1 x2 x3 x4 x5 x6 x7 x8 x9 x10 x11 x12 ((cmd_Check_spec 6 x1 x2 x3 x4 x5 x6 x7 x8 x9 x10 x11 x12 h3 h4 hl hv ht).trans (congrArg some h))).trans ((putGen_spec (ok_6 h) (by decide) h5 h7).trans rfl)

theorem ok_7 {x1 x2 : Int} {x3 x4 : ByteArray} {x5 : Int} {x6 : List ByteArray} {x7 : List Int} {x8 x9 x10 x11 : Int} {x12 : List Int} (h : chkC 7 x1 x2 x3 x4 x5 x6 x7 x8 x9 x10 x11 x12 = 0) : Ok24 true false true false false true false false false false x1 x2 x3 x4 x5 x6 x7 x8 x9 x10 x11 x12 := chkB_ok (show chkB true false true false false true false false false false x1 x2 x3 x4 x5 x6 x7 x8 x9 x10 x11 x12 = 0 from h)
theorem put_7 {x1 x2 : Int} {x3 x4 : ByteArray} {x5 : Int} {x6 : List ByteArray} {x7 : List Int} {x8 x9 x10 x11 : Int} {x12 : List Int} (h3 : x3.size ≤ 140737488351232) (h4 : x4.size ≤ 140737488351232) (hl : x6.length ≤ 9223372036854775806) (hv : x7.length ≤ 9223372036854775806) (ht : Txt x6) (h5 : -9223372036854775808 ≤ x5 ∧ x5 ≤ 9223372036854775807) (h7 : I64 x7) (h : chkC 7 x1 x2 x3 x4 x5 x6 x7 x8 x9 x10 x11 x12 = 0) : cmd_Put 7 x1 x2 x3 x4 x5 x6 x7 x8 x9 x10 x11 x12 = some (encC 7 x1 x2 x3 x4 x5 x6 x7 x8 x9 x10 x11 x12, 0) :=
  (cmd_Put_7 x1 x2 x3 x4 x5 x6 x7 x8 x9 x10 x11 x12 ((cmd_Check_spec 7 x1 x2 x3 x4 x5 x6 x7 x8 x9 x10 x11 x12 h3 h4 hl hv ht).trans (congrArg some h))).trans ((putGen_spec (ok_7 h) (by decide) h5 h7).trans rfl)

theorem ok_8 {x1 x2 : Int} {x3 x4 : ByteArray} {x5 : Int} {x6 : List ByteArray} {x7 : List Int} {x8 x9 x10 x11 : Int} {x12 : List Int} (h : chkC 8 x1 x2 x3 x4 x5 x6 x7 x8 x9 x10 x11 x12 = 0) : Ok24 true false false false true true true false false false x1 x2 x3 x4 x5 x6 x7 x8 x9 x10 x11 x12 := chkB_ok (show chkB true false false false true true true false false false x1 x2 x3 x4 x5 x6 x7 x8 x9 x10 x11 x12 = 0 from h)
theorem put_8 {x1 x2 : Int} {x3 x4 : ByteArray} {x5 : Int} {x6 : List ByteArray} {x7 : List Int} {x8 x9 x10 x11 : Int} {x12 : List Int} (h3 : x3.size ≤ 140737488351232) (h4 : x4.size ≤ 140737488351232) (hl : x6.length ≤ 9223372036854775806) (hv : x7.length ≤ 9223372036854775806) (ht : Txt x6) (h5 : -9223372036854775808 ≤ x5 ∧ x5 ≤ 9223372036854775807) (h7 : I64 x7) (h : chkC 8 x1 x2 x3 x4 x5 x6 x7 x8 x9 x10 x11 x12 = 0) : cmd_Put 8 x1 x2 x3 x4 x5 x6 x7 x8 x9 x10 x11 x12 = some (encC 8 x1 x2 x3 x4 x5 x6 x7 x8 x9 x10 x11 x12, 0) :=
  (cmd_Put_8 x1 x2 x3 x4 x5 x6 x7 x8 x9 x10 x11 x12 ((cmd_Check_spec 8 x1 x2 x3 x4 x5 x6 x7 x8 x9 x10 x11 x12 h3 h4 hl hv ht).trans (congrArg some h))).trans ((putGen_spec (ok_8 h) (by decide) h5 h7).trans rfl)

theorem ok_9 {x1 x2 : Int} {x3 x4 : ByteArray} {x5 : Int} {x6 : List ByteArray} {x7 : List Int} {x8 x9 x10 x11 : Int} {x12 : List Int} (h : chkC 9 x1 x2 x3 x4 x5 x6 x7 x8 x9 x10 x11 x12 = 0) : Ok24 true false false false false true false true false false x1 x2 x3 x4 x5 x6 x7 x8 x9 x10 x11 x12 := chkB_ok (show chkB true false false false false true false true false false x1 x2 x3 x4 x5 x6 x7 x8 x9 x10 x11 x12 = 0 from h)
theorem put_9 {x1 x2 : Int} {x3 x4 : ByteArray} {x5 : Int} {x6 : List ByteArray} {x7 : List Int} {x8 x9 x10 x11 : Int} {x12 : List Int} (h3 : x3.size ≤ 140737488351232) (h4 : x4.size ≤ 140737488351232) (hl : x6.length ≤ 9223372036854775806) (hv : x7.length ≤ 9223372036854775806) (ht : Txt x6) (h5 : -9223372036854775808 ≤ x5 ∧ x5 ≤ 9223372036854775807) (h7 : I64 x7) (h : chkC 9 x1 x2 x3 x4 x5 x6 x7 x8 x9 x10 x11 x12 = 0) : cmd_Put 9 x1 x2 x3 x4 x5 x6 x7 x8 x9 x10 x11 x12 = some (encC 9 x1 x2 x3 x4 x5 x6 x7 x8 x9 x10 x11 x12, 0) :=
  (cmd_Put_9 x1 x2 x3 x4 x5 x6 x7 x8 x9 x10 x11 x12 ((cmd_Check_spec 9 x1 x2 x3 x4 x5 x6 x7 x8 x9 x10 x11 x12 h3 h4 hl hv ht).trans (congrArg some h))).trans ((putGen_spec (ok_9 h) (by decide) h5 h7).trans rfl)

theorem ok_10 {x1 x2 : Int} {x3 x4 : ByteArray} {x5 : Int} {x6 : List ByteArray} {x7 : List Int} {x8 x9 x10 x11 : Int} {x12 : List Int} (h : chkC 10 x1 x2 x3 x4 x5 x6 x7 x8 x9 x10 x11 x12 = 0) : Ok24 true false false false false true false false false false x1 x2 x3 x4 x5 x6 x7 x8 x9 x10 x11 x12 := chkB_ok (show chkB true false false false false true false false false false x1 x2 x3 x4 x5 x6 x7 x8 x9 x10 x11 x12 = 0 from h)
theorem put_10 {x1 x2 : Int} {x3 x4 : ByteArray} {x5 : Int} {x6 : List ByteArray} {x7 : List Int} {x8 x9 x10 x11 : Int} {x12 : List Int} (h3 : x3.size ≤ 140737488351232) (h4 : x4.size ≤ 140737488351232) (hl : x6.length ≤ 9223372036854775806) (hv : x7.length ≤ 9223372036854775806) (ht : Txt x6) (h5 : -9223372036854775808 ≤ x5 ∧ x5 ≤ 9223372036854775807) (h7 : I64 x7) (h : chkC 10 x1 x2 x3 x4 x5 x6 x7 x8 x9 x10 x11 x12 = 0) : cmd_Put 10 x1 x2 x3 x4 x5 x6 x7 x8 x9 x10 x11 x12 = some (encC 10 x1 x2 x3 x4 x5 x6 x7 x8 x9 x10 x11 x12, 0) :=
  (cmd_Put_10 x1 x2 x3 x4 x5 x6 x7 x8 x9 x10 x11 x12 ((cmd_Check_spec 10 x1 x2 x3 x4 x5 x6 x7 x8 x9 x10 x11 x12 h3 h4 hl hv ht).trans (congrArg some h))).trans ((putGen_spec (ok_10 h) (by decide) h5 h7).trans rfl)

theorem ok_11 {x1 x2 : Int} {x3 x4 : ByteArray} {x5 : Int} {x6 : List ByteArray} {x7 : List Int} {x8 x9 x10 x11 : Int} {x12 : List Int} (h : chkC 11 x1 x2 x3 x4 x5 x6 x7 x8 x9 x10 x11 x12 = 0) : Ok24 false false false false false true false true false true x1 x2 x3 x4 x5 x6 x7 x8 x9 x10 x11 x12 := chkB_ok (show chkB false false false false false true false true false true x1 x2 x3 x4 x5 x6 x7 x8 x9 x10 x11 x12 = 0 from h)
theorem put_11 {x1 x2 : Int} {x3 x4 : ByteArray} {x5 : Int} {x6 : List ByteArray} {x7 : List Int} {x8 x9 x10 x11 : Int} {x12 : List Int} (h3 : x3.size ≤ 140737488351232) (h4 : x4.size ≤ 140737488351232) (hl : x6.length ≤ 9223372036854775806) (hv : x7.length ≤ 9223372036854775806) (ht : Txt x6) (h5 : -9223372036854775808 ≤ x5 ∧ x5 ≤ 9223372036854775807) (h7 : I64 x7) (h : chkC 11 x1 x2 x3 x4 x5 x6 x7 x8 x9 x10 x11 x12 = 0) : cmd_Put 11 x1 x2 x3 x4 x5 x6 x7 x8 x9 x10 x11 x12 = some (encC 11 x1 x2 x3 x4 x5 x6 x7 x8 x9 x10 x11 x12, 0) :=
  (cmd_Put_11 x1 x2 x3 x4 x5 x6 x7 x8 x9 x10 x11 x12 ((cmd_Check_spec 11 x1 x2 x3 x4 x5 x6 x7 x8 x9 x10 x11 x12 h3 h4 hl hv ht).trans (congrArg some h))).trans ((putGen_spec (ok_11 h) (by decide) h5 h7).trans rfl)

theorem ok_12 {x1 x2 : Int} {x3 x4 : ByteArray} {x5 : Int} {x6 : List ByteArray} {x7 : List Int} {x8 x9 x10 x11 : Int} {x12 : List Int} (h : chkC 12 x1 x2 x3 x4 x5 x6 x7 x8 x9 x10 x11 x12 = 0) : Ok24 false false false false false true false true false false x1 x2 x3 x4 x5 x6 x7 x8 x9 x10 x11 x12 := chkB_ok (show chkB false false false false false true false true false false x1 x2 x3 x4 x5 x6 x7 x8 x9 x10 x11 x12 = 0 from h)
theorem put_12 {x1 x2 : Int} {x3 x4 : ByteArray} {x5 : Int} {x6 : List ByteArray} {x7 : List Int} {x8 x9 x10 x11 : Int} {x12 : List Int} (h3 : x3.size ≤ 140737488351232) (h4 : x4.size ≤ 140737488351232) (hl : x6.length ≤ 9223372036854775806) (hv : x7.length ≤ 9223372036854775806) (ht : Txt x6) (h5 : -9223372036854775808 ≤ x5 ∧ x5 ≤ 9223372036854775807) (h7 : I64 x7) (h : chkC 12 x1 x2 x3 x4 x5 x6 x7 x8 x9 x10 x11 x12 = 0) : cmd_Put 12 x1 x2 x3 x4 x5 x6 x7 x8 x9 x10 x11 x12 = some (encC 12 x1 x2 x3 x4 x5 x6 x7 x8 x9 x10 x11 x12, 0) :=
  (cmd_Put_12 x1 x2 x3 x4 x5 x6 x7 x8 x9 x10 x11 x12 ((cmd_Check_spec 12 x1 x2 x3 x4 x5 x6 x7 x8 x9 x10 x11 x12 h3 h4 hl hv ht).trans (congrArg some h))).trans ((putGen_spec (ok_12 h) (by decide) h5 h7).trans rfl)

theorem cmd_put_yes {x0 x1 x2 : Int} {x3 x4 : ByteArray} {x5 : Int} {x6 : List ByteArray} {x7 : List Int} {x8 x9 x10 x11 : Int} {x12 : List Int} (h3 : x3.size ≤ 140737488351232) (h4 : x4.size ≤ 140737488351232) (hl : x6.length ≤ 9223372036854775806) (hv : x7.length ≤ 9223372036854775806) (ht : Txt x6) (h5 : -9223372036854775808 ≤ x5 ∧ x5 ≤ 9223372036854775807) (h7 : I64 x7) (h : chkC x0 x1 x2 x3 x4 x5 x6 x7 x8 x9 x10 x11 x12 = 0) : cmd_Put x0 x1 x2 x3 x4 x5 x6 x7 x8 x9 x10 x11 x12 = some (encC x0 x1 x2 x3 x4 x5 x6 x7 x8 x9 x10 x11 x12, 0) := by
  by_cases hk : 1 ≤ x0 ∧ x0 ≤ 12
  · exact kinds (P := fun x0 => chkC x0 x1 x2 x3 x4 x5 x6 x7 x8 x9 x10 x11 x12 = 0 → cmd_Put x0 x1 x2 x3 x4 x5 x6 x7 x8 x9 x10 x11 x12 = some (encC x0 x1 x2 x3 x4 x5 x6 x7 x8 x9 x10 x11 x12, 0)) x0 hk
      (put_1 h3 h4 hl hv ht h5 h7) (put_2 h3 h4 hl hv ht h5 h7) (put_3 h3 h4 hl hv ht h5 h7) (put_4 h3 h4 hl hv ht h5 h7) (put_5 h3 h4 hl hv ht h5 h7) (put_6 h3 h4 hl hv ht h5 h7) (put_7 h3 h4 hl hv ht h5 h7) (put_8 h3 h4 hl hv ht h5 h7) (put_9 h3 h4 hl hv ht h5 h7) (put_10 h3 h4 hl hv ht h5 h7) (put_11 h3 h4 hl hv ht h5 h7) (put_12 h3 h4 hl hv ht h5 h7) h
  · rw [chkC, if_pos (flag_out hk)] at h; cases h
theorem cmd_put_no {x0 x1 x2 : Int} {x3 x4 : ByteArray} {x5 : Int} {x6 : List ByteArray} {x7 : List Int} {x8 x9 x10 x11 : Int} {x12 : List Int} (h3 : x3.size ≤ 140737488351232) (h4 : x4.size ≤ 140737488351232) (hl : x6.length ≤ 9223372036854775806) (hv : x7.length ≤ 9223372036854775806) (ht : Txt x6) (h : chkC x0 x1 x2 x3 x4 x5 x6 x7 x8 x9 x10 x11 x12 ≠ 0) : cmd_Put x0 x1 x2 x3 x4 x5 x6 x7 x8 x9 x10 x11 x12 = some ([], chkC x0 x1 x2 x3 x4 x5 x6 x7 x8 x9 x10 x11 x12) := by
  rw [cmd_Put_eq, cmd_Check_spec x0 x1 x2 x3 x4 x5 x6 x7 x8 x9 x10 x11 x12 h3 h4 hl hv ht, Option.bind_some, bne_yes h, cond_true]
end Go.Proofs.Ytgaihonnbdhbmaa.PE
