/-
  No cell of these rows narrows 'for every input' (looked for: loops, veiled, ifaces, maps, wideKeys, modest, calm, conditions, laid).
  DERIVED. THE GIVEN ROWS OF THIS SEAT. 6 by the template 'for every input the law returns true; each argument reads behind the call as it read before'; 0 by the template 'total and deterministic' (their statements: YtbgbpdpaamlinaaTotals.lean).
  GIVEN WITH THE SEED: the statements are not yours to turn. If you find one false, say at which input.
  Laid BY PROGRAM, IN A SANDBOX (cutbox-rows.mjs): the forced cells as the released guide's own fill.sh prints them over the translation b6c254d18060152b… (all of the seat's roots in one cut). By AI agents, Wed Nov 11 2026. No macro, syntax, notation, axiom, sorry.
-/
import Derived.Test.YtbgbpdpaamlinaaChecked
import GoSem.Claim
import GoSem.ClaimJoined
import GoSem.ClaimMapViews
import Derived.JoinedTies
import Derived.KernelRfl
namespace Go.Proofs.Ytbgbpdpaamlinaa
/- THE CELL 'sum', in the pinned program and in every row, IS THE sha256 OF THE DUMP (.gsa) THAT YtbgbpdpaamlinaaProg.lean LOADS. Nothing in Lean hashes anything: it is a label: what it is worth is what the hold of that sum in a sandbox is worth. -/
noncomputable def Try.pinned : Pinned := { name := "ytbgbpdpaamlinaa", sum := "b6c254d18060152bc25a652308d224f08306143c5253de116feefb10150be9e0", checked := Try.checked }
namespace Rows
def none {H : Type} : Left H := { results := [], args := [] }

/-- 'funicularlaw13.LogsChecks': WHATEVER THE INPUT: true; the input reads as it did. -/
def logsChecksSpec : ChangeSpec := { name := "logsChecks", fn := fun _ => fun
  | [d1, d2] => { results := [.lit (.bool true)], args := [d1, d2] }
  | _ => none }
def logsChecksRow : OpenClaim := { program := "ytbgbpdpaamlinaa", sum := "b6c254d18060152bc25a652308d224f08306143c5253de116feefb10150be9e0", func := "funicular/funicularlaw13.LogsChecks", spec := "logsChecks", unfollowed := true, recurses := true, apart := false }
def LogsChecksSaid : Prop := logsChecksRow.holds Try.pinned (OpenSpec.ofChange logsChecksSpec)

/-- ITS FALSE NEIGHBOUR: 'it returns false'. Refute it at one input. -/
def logsChecksWrong : ChangeSpec := { name := "logsChecks", fn := fun _ => fun
  | [d1, d2] => { results := [.lit (.bool false)], args := [d1, d2] }
  | _ => none }
def LogsChecksWrongFalsely : Prop := logsChecksRow.holds Try.pinned (OpenSpec.ofChange logsChecksWrong)

/-- 'funicularlaw13.LogsPuts': WHATEVER THE INPUT: true; the input reads as it did. -/
def logsPutsSpec : ChangeSpec := { name := "logsPuts", fn := fun _ => fun
  | [d1, d2, d3, d4] => { results := [.lit (.bool true)], args := [d1, d2, d3, d4] }
  | _ => none }
def logsPutsRow : OpenClaim := { program := "ytbgbpdpaamlinaa", sum := "b6c254d18060152bc25a652308d224f08306143c5253de116feefb10150be9e0", func := "funicular/funicularlaw13.LogsPuts", spec := "logsPuts", unfollowed := true, recurses := true, apart := false }
def LogsPutsSaid : Prop := logsPutsRow.holds Try.pinned (OpenSpec.ofChange logsPutsSpec)

/-- ITS FALSE NEIGHBOUR: 'it returns false'. Refute it at one input. -/
def logsPutsWrong : ChangeSpec := { name := "logsPuts", fn := fun _ => fun
  | [d1, d2, d3, d4] => { results := [.lit (.bool false)], args := [d1, d2, d3, d4] }
  | _ => none }
def LogsPutsWrongFalsely : Prop := logsPutsRow.holds Try.pinned (OpenSpec.ofChange logsPutsWrong)

/-- 'funicularlaw13.LogsShort': WHATEVER THE INPUT: true; the input reads as it did. -/
def logsShortSpec : ChangeSpec := { name := "logsShort", fn := fun _ => fun
  | [d1, d2, d3, d4, d5] => { results := [.lit (.bool true)], args := [d1, d2, d3, d4, d5] }
  | _ => none }
def logsShortRow : OpenClaim := { program := "ytbgbpdpaamlinaa", sum := "b6c254d18060152bc25a652308d224f08306143c5253de116feefb10150be9e0", func := "funicular/funicularlaw13.LogsShort", spec := "logsShort", unfollowed := true, recurses := true, apart := false }
def LogsShortSaid : Prop := logsShortRow.holds Try.pinned (OpenSpec.ofChange logsShortSpec)

/-- ITS FALSE NEIGHBOUR: 'it returns false'. Refute it at one input. -/
def logsShortWrong : ChangeSpec := { name := "logsShort", fn := fun _ => fun
  | [d1, d2, d3, d4, d5] => { results := [.lit (.bool false)], args := [d1, d2, d3, d4, d5] }
  | _ => none }
def LogsShortWrongFalsely : Prop := logsShortRow.holds Try.pinned (OpenSpec.ofChange logsShortWrong)

/-- 'funicularlaw13.LogsAsks': WHATEVER THE INPUT: true; the input reads as it did. -/
def logsAsksSpec : ChangeSpec := { name := "logsAsks", fn := fun _ => fun
  | [d1, d2, d3, d4] => { results := [.lit (.bool true)], args := [d1, d2, d3, d4] }
  | _ => none }
def logsAsksRow : OpenClaim := { program := "ytbgbpdpaamlinaa", sum := "b6c254d18060152bc25a652308d224f08306143c5253de116feefb10150be9e0", func := "funicular/funicularlaw13.LogsAsks", spec := "logsAsks", unfollowed := true, recurses := true, apart := false }
def LogsAsksSaid : Prop := logsAsksRow.holds Try.pinned (OpenSpec.ofChange logsAsksSpec)

/-- ITS FALSE NEIGHBOUR: 'it returns false'. Refute it at one input. -/
def logsAsksWrong : ChangeSpec := { name := "logsAsks", fn := fun _ => fun
  | [d1, d2, d3, d4] => { results := [.lit (.bool false)], args := [d1, d2, d3, d4] }
  | _ => none }
def LogsAsksWrongFalsely : Prop := logsAsksRow.holds Try.pinned (OpenSpec.ofChange logsAsksWrong)

/-- 'funicularlaw13.LogsAlike': WHATEVER THE INPUT: true; the input reads as it did. -/
def logsAlikeSpec : ChangeSpec := { name := "logsAlike", fn := fun _ => fun
  | [d1, d2, d3, d4] => { results := [.lit (.bool true)], args := [d1, d2, d3, d4] }
  | _ => none }
def logsAlikeRow : OpenClaim := { program := "ytbgbpdpaamlinaa", sum := "b6c254d18060152bc25a652308d224f08306143c5253de116feefb10150be9e0", func := "funicular/funicularlaw13.LogsAlike", spec := "logsAlike", unfollowed := true, recurses := true, apart := false }
def LogsAlikeSaid : Prop := logsAlikeRow.holds Try.pinned (OpenSpec.ofChange logsAlikeSpec)

/-- ITS FALSE NEIGHBOUR: 'it returns false'. Refute it at one input. -/
def logsAlikeWrong : ChangeSpec := { name := "logsAlike", fn := fun _ => fun
  | [d1, d2, d3, d4] => { results := [.lit (.bool false)], args := [d1, d2, d3, d4] }
  | _ => none }
def LogsAlikeWrongFalsely : Prop := logsAlikeRow.holds Try.pinned (OpenSpec.ofChange logsAlikeWrong)

/-- 'funicularlaw13.LogsCompacts': WHATEVER THE INPUT: true; the input reads as it did. -/
def logsCompactsSpec : ChangeSpec := { name := "logsCompacts", fn := fun _ => fun
  | [d1, d2, d3, d4] => { results := [.lit (.bool true)], args := [d1, d2, d3, d4] }
  | _ => none }
def logsCompactsRow : OpenClaim := { program := "ytbgbpdpaamlinaa", sum := "b6c254d18060152bc25a652308d224f08306143c5253de116feefb10150be9e0", func := "funicular/funicularlaw13.LogsCompacts", spec := "logsCompacts", unfollowed := true, recurses := true, apart := false }
def LogsCompactsSaid : Prop := logsCompactsRow.holds Try.pinned (OpenSpec.ofChange logsCompactsSpec)

/-- ITS FALSE NEIGHBOUR: 'it returns false'. Refute it at one input. -/
def logsCompactsWrong : ChangeSpec := { name := "logsCompacts", fn := fun _ => fun
  | [d1, d2, d3, d4] => { results := [.lit (.bool false)], args := [d1, d2, d3, d4] }
  | _ => none }
def LogsCompactsWrongFalsely : Prop := logsCompactsRow.holds Try.pinned (OpenSpec.ofChange logsCompactsWrong)

/- THE SECOND FORM. 'bulk': how many values and letters a reading holds, each counted each time it is reached (what is shared counts as often as it is met; a slice's spare places count too). A statement '..UptoSaid' is the law's where the arguments, and the package variables that the reading takes, are together of bulk at most 1048576: NARROWER than '..Said'. Prove '..Said' where nothing that the law and all that it calls make is longer than what came in: it says more and counts as full. Else prove '..UptoSaid'. A law counts once. -/
mutual
def uptoBulk {H : Type} : DataW H → Nat
  | .lit (.string bytes) => bytes.length + 1
  | .lit _ => 1
  | .nil => 1
  | .ptr d => uptoBulk d + 1
  | .slice elems spare => uptoBulkAll elems + uptoBulkAll spare + 1
  | .agg parts => uptoBulkAll parts + 1
  | .iface _ d => uptoBulk d + 1
  | .map entries => uptoBulkEntries entries + 1
  | .held _ => 1
def uptoBulkAll {H : Type} : List (DataW H) → Nat
  | [] => 0
  | d :: r => uptoBulk d + uptoBulkAll r
def uptoBulkEntries {H : Type} : List (Lit × DataW H) → Nat
  | [] => 0
  | x :: r => uptoBulkEntry x + uptoBulkEntries r
def uptoBulkEntry {H : Type} : Lit × DataW H → Nat
  | (.string bytes, d) => bytes.length + uptoBulk d + 1
  | (_, d) => uptoBulk d + 1
 end
def uptoSmall : (H : Type) → List (DataW H) → Bool := fun _ ds => decide (uptoBulkAll ds ≤ 1048576)
def OpenSpec.upto (s : _root_.Go.ChangeSpec) : _root_.Go.OpenSpec := { _root_.Go.OpenSpec.ofChange s with cond := some uptoSmall }

/-- 'funicularlaw13.LogsChecks', WHERE WHAT IT READS IS OF BULK AT MOST 1048576: true; the input reads as it did. -/
def logsChecksUptoRow : OpenClaim := { program := "ytbgbpdpaamlinaa", sum := "b6c254d18060152bc25a652308d224f08306143c5253de116feefb10150be9e0", func := "funicular/funicularlaw13.LogsChecks", spec := "logsChecks", unfollowed := true, recurses := true, apart := false, narrowed := true }
def LogsChecksUptoSaid : Prop := logsChecksUptoRow.holds Try.pinned (OpenSpec.upto logsChecksSpec)

/-- 'funicularlaw13.LogsPuts', WHERE WHAT IT READS IS OF BULK AT MOST 1048576: true; the input reads as it did. -/
def logsPutsUptoRow : OpenClaim := { program := "ytbgbpdpaamlinaa", sum := "b6c254d18060152bc25a652308d224f08306143c5253de116feefb10150be9e0", func := "funicular/funicularlaw13.LogsPuts", spec := "logsPuts", unfollowed := true, recurses := true, apart := false, narrowed := true }
def LogsPutsUptoSaid : Prop := logsPutsUptoRow.holds Try.pinned (OpenSpec.upto logsPutsSpec)

/-- 'funicularlaw13.LogsShort', WHERE WHAT IT READS IS OF BULK AT MOST 1048576: true; the input reads as it did. -/
def logsShortUptoRow : OpenClaim := { program := "ytbgbpdpaamlinaa", sum := "b6c254d18060152bc25a652308d224f08306143c5253de116feefb10150be9e0", func := "funicular/funicularlaw13.LogsShort", spec := "logsShort", unfollowed := true, recurses := true, apart := false, narrowed := true }
def LogsShortUptoSaid : Prop := logsShortUptoRow.holds Try.pinned (OpenSpec.upto logsShortSpec)

/-- 'funicularlaw13.LogsAsks', WHERE WHAT IT READS IS OF BULK AT MOST 1048576: true; the input reads as it did. -/
def logsAsksUptoRow : OpenClaim := { program := "ytbgbpdpaamlinaa", sum := "b6c254d18060152bc25a652308d224f08306143c5253de116feefb10150be9e0", func := "funicular/funicularlaw13.LogsAsks", spec := "logsAsks", unfollowed := true, recurses := true, apart := false, narrowed := true }
def LogsAsksUptoSaid : Prop := logsAsksUptoRow.holds Try.pinned (OpenSpec.upto logsAsksSpec)

/-- 'funicularlaw13.LogsAlike', WHERE WHAT IT READS IS OF BULK AT MOST 1048576: true; the input reads as it did. -/
def logsAlikeUptoRow : OpenClaim := { program := "ytbgbpdpaamlinaa", sum := "b6c254d18060152bc25a652308d224f08306143c5253de116feefb10150be9e0", func := "funicular/funicularlaw13.LogsAlike", spec := "logsAlike", unfollowed := true, recurses := true, apart := false, narrowed := true }
def LogsAlikeUptoSaid : Prop := logsAlikeUptoRow.holds Try.pinned (OpenSpec.upto logsAlikeSpec)

/-- 'funicularlaw13.LogsCompacts', WHERE WHAT IT READS IS OF BULK AT MOST 1048576: true; the input reads as it did. -/
def logsCompactsUptoRow : OpenClaim := { program := "ytbgbpdpaamlinaa", sum := "b6c254d18060152bc25a652308d224f08306143c5253de116feefb10150be9e0", func := "funicular/funicularlaw13.LogsCompacts", spec := "logsCompacts", unfollowed := true, recurses := true, apart := false, narrowed := true }
def LogsCompactsUptoSaid : Prop := logsCompactsUptoRow.holds Try.pinned (OpenSpec.upto logsCompactsSpec)

end Rows
end Go.Proofs.Ytbgbpdpaamlinaa
