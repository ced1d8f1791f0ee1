/-
  No cell of these rows narrows 'for every input' (looked for: loops, veiled, ifaces, maps, wideKeys, modest, calm, conditions, laid).
  DERIVED. THE GIVEN ROWS OF THIS SEAT. 5 by the template 'for every input the law returns true; each argument reads behind the call as it read before'; 0 by the template 'total and deterministic' (their statements: YtknmnhkocdnnhaaTotals.lean).
  GIVEN WITH THE SEED: the statements are not yours to turn. If you find one false, say at which input.
  Laid BY PROGRAM, IN A SANDBOX (cutbox-rows.mjs): the forced cells as the released guide's own fill.sh prints them over the translation 01fb35d278d15023… (all of the seat's roots in one cut). By AI agents, Wed Nov 11 2026. No macro, syntax, notation, axiom, sorry.
-/
import Derived.Test.YtknmnhkocdnnhaaChecked
import GoSem.Claim
import GoSem.ClaimJoined
import GoSem.ClaimMapViews
import Derived.JoinedTies
import Derived.KernelRfl
namespace Go.Proofs.Ytknmnhkocdnnhaa
/- THE CELL 'sum', in the pinned program and in every row, IS THE sha256 OF THE DUMP (.gsa) THAT YtknmnhkocdnnhaaProg.lean LOADS. Nothing in Lean hashes anything: it is a label: what it is worth is what the hold of that sum in a sandbox is worth. -/
noncomputable def Try.pinned : Pinned := { name := "ytknmnhkocdnnhaa", sum := "01fb35d278d15023b71f98989611801837012b16720b6805bb80091493404c91", checked := Try.checked }
namespace Rows
def none {H : Type} : Left H := { results := [], args := [] }

/-- 'funicularlaw19.JobsChecks': WHATEVER THE INPUT: true; the input reads as it did. -/
def jobsChecksSpec : ChangeSpec := { name := "jobsChecks", fn := fun _ => fun
  | [d1, d2, d3] => { results := [.lit (.bool true)], args := [d1, d2, d3] }
  | _ => none }
def jobsChecksRow : OpenClaim := { program := "ytknmnhkocdnnhaa", sum := "01fb35d278d15023b71f98989611801837012b16720b6805bb80091493404c91", func := "funicular/funicularlaw19.JobsChecks", spec := "jobsChecks", unfollowed := true, recurses := true, apart := false }
def JobsChecksSaid : Prop := jobsChecksRow.holds Try.pinned (OpenSpec.ofChange jobsChecksSpec)

/-- ITS FALSE NEIGHBOUR: 'it returns false'. Refute it at one input. -/
def jobsChecksWrong : ChangeSpec := { name := "jobsChecks", fn := fun _ => fun
  | [d1, d2, d3] => { results := [.lit (.bool false)], args := [d1, d2, d3] }
  | _ => none }
def JobsChecksWrongFalsely : Prop := jobsChecksRow.holds Try.pinned (OpenSpec.ofChange jobsChecksWrong)

/-- 'funicularlaw19.JobsLends': WHATEVER THE INPUT: true; the input reads as it did. -/
def jobsLendsSpec : ChangeSpec := { name := "jobsLends", fn := fun _ => fun
  | [d1, d2, d3, d4, d5, d6] => { results := [.lit (.bool true)], args := [d1, d2, d3, d4, d5, d6] }
  | _ => none }
def jobsLendsRow : OpenClaim := { program := "ytknmnhkocdnnhaa", sum := "01fb35d278d15023b71f98989611801837012b16720b6805bb80091493404c91", func := "funicular/funicularlaw19.JobsLends", spec := "jobsLends", unfollowed := true, recurses := true, apart := false }
def JobsLendsSaid : Prop := jobsLendsRow.holds Try.pinned (OpenSpec.ofChange jobsLendsSpec)

/-- ITS FALSE NEIGHBOUR: 'it returns false'. Refute it at one input. -/
def jobsLendsWrong : ChangeSpec := { name := "jobsLends", fn := fun _ => fun
  | [d1, d2, d3, d4, d5, d6] => { results := [.lit (.bool false)], args := [d1, d2, d3, d4, d5, d6] }
  | _ => none }
def JobsLendsWrongFalsely : Prop := jobsLendsRow.holds Try.pinned (OpenSpec.ofChange jobsLendsWrong)

/-- 'funicularlaw19.JobsEnds': WHATEVER THE INPUT: true; the input reads as it did. -/
def jobsEndsSpec : ChangeSpec := { name := "jobsEnds", fn := fun _ => fun
  | [d1, d2, d3, d4, d5] => { results := [.lit (.bool true)], args := [d1, d2, d3, d4, d5] }
  | _ => none }
def jobsEndsRow : OpenClaim := { program := "ytknmnhkocdnnhaa", sum := "01fb35d278d15023b71f98989611801837012b16720b6805bb80091493404c91", func := "funicular/funicularlaw19.JobsEnds", spec := "jobsEnds", unfollowed := true, recurses := true, apart := false }
def JobsEndsSaid : Prop := jobsEndsRow.holds Try.pinned (OpenSpec.ofChange jobsEndsSpec)

/-- ITS FALSE NEIGHBOUR: 'it returns false'. Refute it at one input. -/
def jobsEndsWrong : ChangeSpec := { name := "jobsEnds", fn := fun _ => fun
  | [d1, d2, d3, d4, d5] => { results := [.lit (.bool false)], args := [d1, d2, d3, d4, d5] }
  | _ => none }
def JobsEndsWrongFalsely : Prop := jobsEndsRow.holds Try.pinned (OpenSpec.ofChange jobsEndsWrong)

/-- 'funicularlaw19.JobsOne': WHATEVER THE INPUT: true; the input reads as it did. -/
def jobsOneSpec : ChangeSpec := { name := "jobsOne", fn := fun _ => fun
  | [d1, d2, d3, d4, d5] => { results := [.lit (.bool true)], args := [d1, d2, d3, d4, d5] }
  | _ => none }
def jobsOneRow : OpenClaim := { program := "ytknmnhkocdnnhaa", sum := "01fb35d278d15023b71f98989611801837012b16720b6805bb80091493404c91", func := "funicular/funicularlaw19.JobsOne", spec := "jobsOne", unfollowed := true, recurses := true, apart := false }
def JobsOneSaid : Prop := jobsOneRow.holds Try.pinned (OpenSpec.ofChange jobsOneSpec)

/-- ITS FALSE NEIGHBOUR: 'it returns false'. Refute it at one input. -/
def jobsOneWrong : ChangeSpec := { name := "jobsOne", fn := fun _ => fun
  | [d1, d2, d3, d4, d5] => { results := [.lit (.bool false)], args := [d1, d2, d3, d4, d5] }
  | _ => none }
def JobsOneWrongFalsely : Prop := jobsOneRow.holds Try.pinned (OpenSpec.ofChange jobsOneWrong)

/-- 'funicularlaw19.JobsTries': WHATEVER THE INPUT: true; the input reads as it did. -/
def jobsTriesSpec : ChangeSpec := { name := "jobsTries", fn := fun _ => fun
  | [d1, d2, d3] => { results := [.lit (.bool true)], args := [d1, d2, d3] }
  | _ => none }
def jobsTriesRow : OpenClaim := { program := "ytknmnhkocdnnhaa", sum := "01fb35d278d15023b71f98989611801837012b16720b6805bb80091493404c91", func := "funicular/funicularlaw19.JobsTries", spec := "jobsTries", unfollowed := true, recurses := true, apart := false }
def JobsTriesSaid : Prop := jobsTriesRow.holds Try.pinned (OpenSpec.ofChange jobsTriesSpec)

/-- ITS FALSE NEIGHBOUR: 'it returns false'. Refute it at one input. -/
def jobsTriesWrong : ChangeSpec := { name := "jobsTries", fn := fun _ => fun
  | [d1, d2, d3] => { results := [.lit (.bool false)], args := [d1, d2, d3] }
  | _ => none }
def JobsTriesWrongFalsely : Prop := jobsTriesRow.holds Try.pinned (OpenSpec.ofChange jobsTriesWrong)

/- THE SECOND FORM. 'bulk': how many values and letters a reading holds, each counted each time it is reached (what is shared counts as often as it is met; a slice's spare places count too). A statement '..UptoSaid' is the law's where the arguments, and the package variables that the reading takes, are together of bulk at most 1048576: NARROWER than '..Said'. Prove '..Said' where nothing that the law and all that it calls make is longer than what came in: it says more and counts as full. Else prove '..UptoSaid'. A law counts once. -/
mutual
def uptoBulk {H : Type} : DataW H → Nat
  | .lit (.string bytes) => bytes.length + 1
  | .lit _ => 1
  | .nil => 1
  | .ptr d => uptoBulk d + 1
  | .slice elems spare => uptoBulkAll elems + uptoBulkAll spare + 1
  | .agg parts => uptoBulkAll parts + 1
  | .iface _ d => uptoBulk d + 1
  | .map entries => uptoBulkEntries entries + 1
  | .held _ => 1
def uptoBulkAll {H : Type} : List (DataW H) → Nat
  | [] => 0
  | d :: r => uptoBulk d + uptoBulkAll r
def uptoBulkEntries {H : Type} : List (Lit × DataW H) → Nat
  | [] => 0
  | x :: r => uptoBulkEntry x + uptoBulkEntries r
def uptoBulkEntry {H : Type} : Lit × DataW H → Nat
  | (.string bytes, d) => bytes.length + uptoBulk d + 1
  | (_, d) => uptoBulk d + 1
 end
def uptoSmall : (H : Type) → List (DataW H) → Bool := fun _ ds => decide (uptoBulkAll ds ≤ 1048576)
def OpenSpec.upto (s : _root_.Go.ChangeSpec) : _root_.Go.OpenSpec := { _root_.Go.OpenSpec.ofChange s with cond := some uptoSmall }

/-- 'funicularlaw19.JobsChecks', WHERE WHAT IT READS IS OF BULK AT MOST 1048576: true; the input reads as it did. -/
def jobsChecksUptoRow : OpenClaim := { program := "ytknmnhkocdnnhaa", sum := "01fb35d278d15023b71f98989611801837012b16720b6805bb80091493404c91", func := "funicular/funicularlaw19.JobsChecks", spec := "jobsChecks", unfollowed := true, recurses := true, apart := false, narrowed := true }
def JobsChecksUptoSaid : Prop := jobsChecksUptoRow.holds Try.pinned (OpenSpec.upto jobsChecksSpec)

/-- 'funicularlaw19.JobsLends', WHERE WHAT IT READS IS OF BULK AT MOST 1048576: true; the input reads as it did. -/
def jobsLendsUptoRow : OpenClaim := { program := "ytknmnhkocdnnhaa", sum := "01fb35d278d15023b71f98989611801837012b16720b6805bb80091493404c91", func := "funicular/funicularlaw19.JobsLends", spec := "jobsLends", unfollowed := true, recurses := true, apart := false, narrowed := true }
def JobsLendsUptoSaid : Prop := jobsLendsUptoRow.holds Try.pinned (OpenSpec.upto jobsLendsSpec)

/-- 'funicularlaw19.JobsEnds', WHERE WHAT IT READS IS OF BULK AT MOST 1048576: true; the input reads as it did. -/
def jobsEndsUptoRow : OpenClaim := { program := "ytknmnhkocdnnhaa", sum := "01fb35d278d15023b71f98989611801837012b16720b6805bb80091493404c91", func := "funicular/funicularlaw19.JobsEnds", spec := "jobsEnds", unfollowed := true, recurses := true, apart := false, narrowed := true }
def JobsEndsUptoSaid : Prop := jobsEndsUptoRow.holds Try.pinned (OpenSpec.upto jobsEndsSpec)

/-- 'funicularlaw19.JobsOne', WHERE WHAT IT READS IS OF BULK AT MOST 1048576: true; the input reads as it did. -/
def jobsOneUptoRow : OpenClaim := { program := "ytknmnhkocdnnhaa", sum := "01fb35d278d15023b71f98989611801837012b16720b6805bb80091493404c91", func := "funicular/funicularlaw19.JobsOne", spec := "jobsOne", unfollowed := true, recurses := true, apart := false, narrowed := true }
def JobsOneUptoSaid : Prop := jobsOneUptoRow.holds Try.pinned (OpenSpec.upto jobsOneSpec)

/-- 'funicularlaw19.JobsTries', WHERE WHAT IT READS IS OF BULK AT MOST 1048576: true; the input reads as it did. -/
def jobsTriesUptoRow : OpenClaim := { program := "ytknmnhkocdnnhaa", sum := "01fb35d278d15023b71f98989611801837012b16720b6805bb80091493404c91", func := "funicular/funicularlaw19.JobsTries", spec := "jobsTries", unfollowed := true, recurses := true, apart := false, narrowed := true }
def JobsTriesUptoSaid : Prop := jobsTriesUptoRow.holds Try.pinned (OpenSpec.upto jobsTriesSpec)

end Rows
end Go.Proofs.Ytknmnhkocdnnhaa
