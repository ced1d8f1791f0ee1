/-
  No cell of these rows narrows 'for every input' (looked for: loops, veiled, ifaces, maps, wideKeys, modest, calm, conditions, laid).
  DERIVED. THE GIVEN ROWS OF THIS SEAT. 4 by the template 'for every input the law returns true; each argument reads behind the call as it read before'; 0 by the template 'total and deterministic' (their statements: YtdmfjpcobbkppaaTotals.lean).
  GIVEN WITH THE SEED: the statements are not yours to turn. If you find one false, say at which input.
  Laid BY PROGRAM, IN A SANDBOX (cutbox-rows.mjs): the forced cells as the released guide's own fill.sh prints them over the translation 327c07106e9e6975… (all of the seat's roots in one cut). By AI agents, Wed Nov 11 2026. No macro, syntax, notation, axiom, sorry.
-/
import Derived.Test.YtdmfjpcobbkppaaChecked
import GoSem.Claim
import GoSem.ClaimJoined
import GoSem.ClaimMapViews
import Derived.JoinedTies
import Derived.KernelRfl
namespace Go.Proofs.Ytdmfjpcobbkppaa
/- THE CELL 'sum', in the pinned program and in every row, IS THE sha256 OF THE DUMP (.gsa) THAT YtdmfjpcobbkppaaProg.lean LOADS. Nothing in Lean hashes anything: it is a label: what it is worth is what the hold of that sum in a sandbox is worth. -/
noncomputable def Try.pinned : Pinned := { name := "ytdmfjpcobbkppaa", sum := "327c07106e9e69751f8cbfc1d5c7f3811ab52c38ee418ee517971e5de0852ba2", checked := Try.checked }
namespace Rows
def none {H : Type} : Left H := { results := [], args := [] }

/-- 'funicularlaw23.BoxChecks': WHATEVER THE INPUT: true; the input reads as it did. -/
def boxChecksSpec : ChangeSpec := { name := "boxChecks", fn := fun _ => fun
  | [d1, d2, d3] => { results := [.lit (.bool true)], args := [d1, d2, d3] }
  | _ => none }
def boxChecksRow : OpenClaim := { program := "ytdmfjpcobbkppaa", sum := "327c07106e9e69751f8cbfc1d5c7f3811ab52c38ee418ee517971e5de0852ba2", func := "funicular/funicularlaw23.BoxChecks", spec := "boxChecks", inPlace := ["slices.overlaps[funicular/api.Out]"], unfollowed := true, recurses := true, apart := false }
def BoxChecksSaid : Prop := boxChecksRow.holds Try.pinned (OpenSpec.ofChange boxChecksSpec)

/-- ITS FALSE NEIGHBOUR: 'it returns false'. Refute it at one input. -/
def boxChecksWrong : ChangeSpec := { name := "boxChecks", fn := fun _ => fun
  | [d1, d2, d3] => { results := [.lit (.bool false)], args := [d1, d2, d3] }
  | _ => none }
def BoxChecksWrongFalsely : Prop := boxChecksRow.holds Try.pinned (OpenSpec.ofChange boxChecksWrong)

/-- 'funicularlaw23.BoxDoes': WHATEVER THE INPUT: true; the input reads as it did. -/
def boxDoesSpec : ChangeSpec := { name := "boxDoes", fn := fun _ => fun
  | [d1, d2, d3, d4, d5] => { results := [.lit (.bool true)], args := [d1, d2, d3, d4, d5] }
  | _ => none }
def boxDoesRow : OpenClaim := { program := "ytdmfjpcobbkppaa", sum := "327c07106e9e69751f8cbfc1d5c7f3811ab52c38ee418ee517971e5de0852ba2", func := "funicular/funicularlaw23.BoxDoes", spec := "boxDoes", inPlace := ["slices.overlaps[funicular/api.Out]"], unfollowed := true, recurses := true, apart := false }
def BoxDoesSaid : Prop := boxDoesRow.holds Try.pinned (OpenSpec.ofChange boxDoesSpec)

/-- ITS FALSE NEIGHBOUR: 'it returns false'. Refute it at one input. -/
def boxDoesWrong : ChangeSpec := { name := "boxDoes", fn := fun _ => fun
  | [d1, d2, d3, d4, d5] => { results := [.lit (.bool false)], args := [d1, d2, d3, d4, d5] }
  | _ => none }
def BoxDoesWrongFalsely : Prop := boxDoesRow.holds Try.pinned (OpenSpec.ofChange boxDoesWrong)

/-- 'funicularlaw23.BoxStays': WHATEVER THE INPUT: true; the input reads as it did. -/
def boxStaysSpec : ChangeSpec := { name := "boxStays", fn := fun _ => fun
  | [d1, d2, d3, d4] => { results := [.lit (.bool true)], args := [d1, d2, d3, d4] }
  | _ => none }
def boxStaysRow : OpenClaim := { program := "ytdmfjpcobbkppaa", sum := "327c07106e9e69751f8cbfc1d5c7f3811ab52c38ee418ee517971e5de0852ba2", func := "funicular/funicularlaw23.BoxStays", spec := "boxStays", inPlace := ["slices.overlaps[funicular/api.Out]"], unfollowed := true, recurses := true, apart := false }
def BoxStaysSaid : Prop := boxStaysRow.holds Try.pinned (OpenSpec.ofChange boxStaysSpec)

/-- ITS FALSE NEIGHBOUR: 'it returns false'. Refute it at one input. -/
def boxStaysWrong : ChangeSpec := { name := "boxStays", fn := fun _ => fun
  | [d1, d2, d3, d4] => { results := [.lit (.bool false)], args := [d1, d2, d3, d4] }
  | _ => none }
def BoxStaysWrongFalsely : Prop := boxStaysRow.holds Try.pinned (OpenSpec.ofChange boxStaysWrong)

/-- 'funicularlaw23.BoxOnce': WHATEVER THE INPUT: true; the input reads as it did. -/
def boxOnceSpec : ChangeSpec := { name := "boxOnce", fn := fun _ => fun
  | [d] => { results := [.lit (.bool true)], args := [d] }
  | _ => none }
def boxOnceRow : OpenClaim := { program := "ytdmfjpcobbkppaa", sum := "327c07106e9e69751f8cbfc1d5c7f3811ab52c38ee418ee517971e5de0852ba2", func := "funicular/funicularlaw23.BoxOnce", spec := "boxOnce", inPlace := ["slices.overlaps[funicular/api.Out]"], unfollowed := true, recurses := true, apart := false }
def BoxOnceSaid : Prop := boxOnceRow.holds Try.pinned (OpenSpec.ofChange boxOnceSpec)

/-- ITS FALSE NEIGHBOUR: 'it returns false'. Refute it at one input. -/
def boxOnceWrong : ChangeSpec := { name := "boxOnce", fn := fun _ => fun
  | [d] => { results := [.lit (.bool false)], args := [d] }
  | _ => none }
def BoxOnceWrongFalsely : Prop := boxOnceRow.holds Try.pinned (OpenSpec.ofChange boxOnceWrong)

/- THE SECOND FORM. 'bulk': how many values and letters a reading holds, each counted each time it is reached (what is shared counts as often as it is met; a slice's spare places count too). A statement '..UptoSaid' is the law's where the arguments, and the package variables that the reading takes, are together of bulk at most 1048576: NARROWER than '..Said'. Prove '..Said' where nothing that the law and all that it calls make is longer than what came in: it says more and counts as full. Else prove '..UptoSaid'. A law counts once. -/
mutual
def uptoBulk {H : Type} : DataW H → Nat
  | .lit (.string bytes) => bytes.length + 1
  | .lit _ => 1
  | .nil => 1
  | .ptr d => uptoBulk d + 1
  | .slice elems spare => uptoBulkAll elems + uptoBulkAll spare + 1
  | .agg parts => uptoBulkAll parts + 1
  | .iface _ d => uptoBulk d + 1
  | .map entries => uptoBulkEntries entries + 1
  | .held _ => 1
def uptoBulkAll {H : Type} : List (DataW H) → Nat
  | [] => 0
  | d :: r => uptoBulk d + uptoBulkAll r
def uptoBulkEntries {H : Type} : List (Lit × DataW H) → Nat
  | [] => 0
  | x :: r => uptoBulkEntry x + uptoBulkEntries r
def uptoBulkEntry {H : Type} : Lit × DataW H → Nat
  | (.string bytes, d) => bytes.length + uptoBulk d + 1
  | (_, d) => uptoBulk d + 1
 end
def uptoSmall : (H : Type) → List (DataW H) → Bool := fun _ ds => decide (uptoBulkAll ds ≤ 1048576)
def OpenSpec.upto (s : _root_.Go.ChangeSpec) : _root_.Go.OpenSpec := { _root_.Go.OpenSpec.ofChange s with cond := some uptoSmall }

/-- 'funicularlaw23.BoxChecks', WHERE WHAT IT READS IS OF BULK AT MOST 1048576: true; the input reads as it did. -/
def boxChecksUptoRow : OpenClaim := { program := "ytdmfjpcobbkppaa", sum := "327c07106e9e69751f8cbfc1d5c7f3811ab52c38ee418ee517971e5de0852ba2", func := "funicular/funicularlaw23.BoxChecks", spec := "boxChecks", inPlace := ["slices.overlaps[funicular/api.Out]"], unfollowed := true, recurses := true, apart := false, narrowed := true }
def BoxChecksUptoSaid : Prop := boxChecksUptoRow.holds Try.pinned (OpenSpec.upto boxChecksSpec)

/-- 'funicularlaw23.BoxDoes', WHERE WHAT IT READS IS OF BULK AT MOST 1048576: true; the input reads as it did. -/
def boxDoesUptoRow : OpenClaim := { program := "ytdmfjpcobbkppaa", sum := "327c07106e9e69751f8cbfc1d5c7f3811ab52c38ee418ee517971e5de0852ba2", func := "funicular/funicularlaw23.BoxDoes", spec := "boxDoes", inPlace := ["slices.overlaps[funicular/api.Out]"], unfollowed := true, recurses := true, apart := false, narrowed := true }
def BoxDoesUptoSaid : Prop := boxDoesUptoRow.holds Try.pinned (OpenSpec.upto boxDoesSpec)

/-- 'funicularlaw23.BoxStays', WHERE WHAT IT READS IS OF BULK AT MOST 1048576: true; the input reads as it did. -/
def boxStaysUptoRow : OpenClaim := { program := "ytdmfjpcobbkppaa", sum := "327c07106e9e69751f8cbfc1d5c7f3811ab52c38ee418ee517971e5de0852ba2", func := "funicular/funicularlaw23.BoxStays", spec := "boxStays", inPlace := ["slices.overlaps[funicular/api.Out]"], unfollowed := true, recurses := true, apart := false, narrowed := true }
def BoxStaysUptoSaid : Prop := boxStaysUptoRow.holds Try.pinned (OpenSpec.upto boxStaysSpec)

/-- 'funicularlaw23.BoxOnce', WHERE WHAT IT READS IS OF BULK AT MOST 1048576: true; the input reads as it did. -/
def boxOnceUptoRow : OpenClaim := { program := "ytdmfjpcobbkppaa", sum := "327c07106e9e69751f8cbfc1d5c7f3811ab52c38ee418ee517971e5de0852ba2", func := "funicular/funicularlaw23.BoxOnce", spec := "boxOnce", inPlace := ["slices.overlaps[funicular/api.Out]"], unfollowed := true, recurses := true, apart := false, narrowed := true }
def BoxOnceUptoSaid : Prop := boxOnceUptoRow.holds Try.pinned (OpenSpec.upto boxOnceSpec)

end Rows
end Go.Proofs.Ytdmfjpcobbkppaa
