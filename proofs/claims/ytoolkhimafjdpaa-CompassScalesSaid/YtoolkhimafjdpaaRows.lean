/-
  No cell of these rows narrows 'for every input' (looked for: loops, veiled, ifaces, maps, wideKeys, modest, calm, conditions, laid).
  DERIVED. THE GIVEN ROWS OF THIS SEAT. 6 by the template 'for every input the law returns true; each argument reads behind the call as it read before'; 0 by the template 'total and deterministic' (their statements: YtoolkhimafjdpaaTotals.lean).
  GIVEN WITH THE SEED: the statements are not yours to turn. If you find one false, say at which input.
  Laid BY PROGRAM, IN A SANDBOX (cutbox-rows.mjs): the forced cells as the released guide's own fill.sh prints them over the translation 83764c19999dd35c… (all of the seat's roots in one cut). By AI agents, Wed Nov 11 2026. No macro, syntax, notation, axiom, sorry.
-/
import Derived.Test.YtoolkhimafjdpaaChecked
import GoSem.Claim
import GoSem.ClaimJoined
import GoSem.ClaimMapViews
import Derived.JoinedTies
import Derived.KernelRfl
namespace Go.Proofs.Ytoolkhimafjdpaa
/- THE CELL 'sum', in the pinned program and in every row, IS THE sha256 OF THE DUMP (.gsa) THAT YtoolkhimafjdpaaProg.lean LOADS. Nothing in Lean hashes anything: it is a label: what it is worth is what the hold of that sum in a sandbox is worth. -/
noncomputable def Try.pinned : Pinned := { name := "ytoolkhimafjdpaa", sum := "83764c19999dd35cb5a648e7c2107a40f71265d6f19d139ff6654f95ffb16391", checked := Try.checked }
namespace Rows
def none {H : Type} : Left H := { results := [], args := [] }

/-- 'funicularlaw03.CompassPoints': WHATEVER THE INPUT: true; the input reads as it did. -/
def compassPointsSpec : ChangeSpec := { name := "compassPoints", fn := fun _ => fun
  | [d1, d2] => { results := [.lit (.bool true)], args := [d1, d2] }
  | _ => none }
def compassPointsRow : OpenClaim := { program := "ytoolkhimafjdpaa", sum := "83764c19999dd35cb5a648e7c2107a40f71265d6f19d139ff6654f95ffb16391", func := "funicular/funicularlaw03.CompassPoints", spec := "compassPoints", apart := false }
def CompassPointsSaid : Prop := compassPointsRow.holds Try.pinned (OpenSpec.ofChange compassPointsSpec)

/-- ITS FALSE NEIGHBOUR: 'it returns false'. Refute it at one input. -/
def compassPointsWrong : ChangeSpec := { name := "compassPoints", fn := fun _ => fun
  | [d1, d2] => { results := [.lit (.bool false)], args := [d1, d2] }
  | _ => none }
def CompassPointsWrongFalsely : Prop := compassPointsRow.holds Try.pinned (OpenSpec.ofChange compassPointsWrong)

/-- 'funicularlaw03.CompassTurns': WHATEVER THE INPUT: true; the input reads as it did. -/
def compassTurnsSpec : ChangeSpec := { name := "compassTurns", fn := fun _ => fun
  | [d1, d2, d3] => { results := [.lit (.bool true)], args := [d1, d2, d3] }
  | _ => none }
def compassTurnsRow : OpenClaim := { program := "ytoolkhimafjdpaa", sum := "83764c19999dd35cb5a648e7c2107a40f71265d6f19d139ff6654f95ffb16391", func := "funicular/funicularlaw03.CompassTurns", spec := "compassTurns", apart := false }
def CompassTurnsSaid : Prop := compassTurnsRow.holds Try.pinned (OpenSpec.ofChange compassTurnsSpec)

/-- ITS FALSE NEIGHBOUR: 'it returns false'. Refute it at one input. -/
def compassTurnsWrong : ChangeSpec := { name := "compassTurns", fn := fun _ => fun
  | [d1, d2, d3] => { results := [.lit (.bool false)], args := [d1, d2, d3] }
  | _ => none }
def CompassTurnsWrongFalsely : Prop := compassTurnsRow.holds Try.pinned (OpenSpec.ofChange compassTurnsWrong)

/-- 'funicularlaw03.CompassParts': WHATEVER THE INPUT: true; the input reads as it did. -/
def compassPartsSpec : ChangeSpec := { name := "compassParts", fn := fun _ => fun
  | [d1, d2, d3, d4] => { results := [.lit (.bool true)], args := [d1, d2, d3, d4] }
  | _ => none }
def compassPartsRow : OpenClaim := { program := "ytoolkhimafjdpaa", sum := "83764c19999dd35cb5a648e7c2107a40f71265d6f19d139ff6654f95ffb16391", func := "funicular/funicularlaw03.CompassParts", spec := "compassParts", apart := false }
def CompassPartsSaid : Prop := compassPartsRow.holds Try.pinned (OpenSpec.ofChange compassPartsSpec)

/-- ITS FALSE NEIGHBOUR: 'it returns false'. Refute it at one input. -/
def compassPartsWrong : ChangeSpec := { name := "compassParts", fn := fun _ => fun
  | [d1, d2, d3, d4] => { results := [.lit (.bool false)], args := [d1, d2, d3, d4] }
  | _ => none }
def CompassPartsWrongFalsely : Prop := compassPartsRow.holds Try.pinned (OpenSpec.ofChange compassPartsWrong)

/-- 'funicularlaw03.CompassRounds': WHATEVER THE INPUT: true; the input reads as it did. -/
def compassRoundsSpec : ChangeSpec := { name := "compassRounds", fn := fun _ => fun
  | [d1, d2, d3, d4] => { results := [.lit (.bool true)], args := [d1, d2, d3, d4] }
  | _ => none }
def compassRoundsRow : OpenClaim := { program := "ytoolkhimafjdpaa", sum := "83764c19999dd35cb5a648e7c2107a40f71265d6f19d139ff6654f95ffb16391", func := "funicular/funicularlaw03.CompassRounds", spec := "compassRounds", apart := false }
def CompassRoundsSaid : Prop := compassRoundsRow.holds Try.pinned (OpenSpec.ofChange compassRoundsSpec)

/-- ITS FALSE NEIGHBOUR: 'it returns false'. Refute it at one input. -/
def compassRoundsWrong : ChangeSpec := { name := "compassRounds", fn := fun _ => fun
  | [d1, d2, d3, d4] => { results := [.lit (.bool false)], args := [d1, d2, d3, d4] }
  | _ => none }
def CompassRoundsWrongFalsely : Prop := compassRoundsRow.holds Try.pinned (OpenSpec.ofChange compassRoundsWrong)

/-- 'funicularlaw03.CompassEven': WHATEVER THE INPUT: true; the input reads as it did. -/
def compassEvenSpec : ChangeSpec := { name := "compassEven", fn := fun _ => fun
  | [d1, d2, d3] => { results := [.lit (.bool true)], args := [d1, d2, d3] }
  | _ => none }
def compassEvenRow : OpenClaim := { program := "ytoolkhimafjdpaa", sum := "83764c19999dd35cb5a648e7c2107a40f71265d6f19d139ff6654f95ffb16391", func := "funicular/funicularlaw03.CompassEven", spec := "compassEven", apart := false }
def CompassEvenSaid : Prop := compassEvenRow.holds Try.pinned (OpenSpec.ofChange compassEvenSpec)

/-- ITS FALSE NEIGHBOUR: 'it returns false'. Refute it at one input. -/
def compassEvenWrong : ChangeSpec := { name := "compassEven", fn := fun _ => fun
  | [d1, d2, d3] => { results := [.lit (.bool false)], args := [d1, d2, d3] }
  | _ => none }
def CompassEvenWrongFalsely : Prop := compassEvenRow.holds Try.pinned (OpenSpec.ofChange compassEvenWrong)

/-- 'funicularlaw03.CompassScales': WHATEVER THE INPUT: true; the input reads as it did. -/
def compassScalesSpec : ChangeSpec := { name := "compassScales", fn := fun _ => fun
  | [d1, d2, d3, d4] => { results := [.lit (.bool true)], args := [d1, d2, d3, d4] }
  | _ => none }
def compassScalesRow : OpenClaim := { program := "ytoolkhimafjdpaa", sum := "83764c19999dd35cb5a648e7c2107a40f71265d6f19d139ff6654f95ffb16391", func := "funicular/funicularlaw03.CompassScales", spec := "compassScales", apart := false }
def CompassScalesSaid : Prop := compassScalesRow.holds Try.pinned (OpenSpec.ofChange compassScalesSpec)

/-- ITS FALSE NEIGHBOUR: 'it returns false'. Refute it at one input. -/
def compassScalesWrong : ChangeSpec := { name := "compassScales", fn := fun _ => fun
  | [d1, d2, d3, d4] => { results := [.lit (.bool false)], args := [d1, d2, d3, d4] }
  | _ => none }
def CompassScalesWrongFalsely : Prop := compassScalesRow.holds Try.pinned (OpenSpec.ofChange compassScalesWrong)

/- THE SECOND FORM. 'bulk': how many values and letters a reading holds, each counted each time it is reached (what is shared counts as often as it is met; a slice's spare places count too). A statement '..UptoSaid' is the law's where the arguments, and the package variables that the reading takes, are together of bulk at most 1048576: NARROWER than '..Said'. Prove '..Said' where nothing that the law and all that it calls make is longer than what came in: it says more and counts as full. Else prove '..UptoSaid'. A law counts once. -/
mutual
def uptoBulk {H : Type} : DataW H → Nat
  | .lit (.string bytes) => bytes.length + 1
  | .lit _ => 1
  | .nil => 1
  | .ptr d => uptoBulk d + 1
  | .slice elems spare => uptoBulkAll elems + uptoBulkAll spare + 1
  | .agg parts => uptoBulkAll parts + 1
  | .iface _ d => uptoBulk d + 1
  | .map entries => uptoBulkEntries entries + 1
  | .held _ => 1
def uptoBulkAll {H : Type} : List (DataW H) → Nat
  | [] => 0
  | d :: r => uptoBulk d + uptoBulkAll r
def uptoBulkEntries {H : Type} : List (Lit × DataW H) → Nat
  | [] => 0
  | x :: r => uptoBulkEntry x + uptoBulkEntries r
def uptoBulkEntry {H : Type} : Lit × DataW H → Nat
  | (.string bytes, d) => bytes.length + uptoBulk d + 1
  | (_, d) => uptoBulk d + 1
 end
def uptoSmall : (H : Type) → List (DataW H) → Bool := fun _ ds => decide (uptoBulkAll ds ≤ 1048576)
def OpenSpec.upto (s : _root_.Go.ChangeSpec) : _root_.Go.OpenSpec := { _root_.Go.OpenSpec.ofChange s with cond := some uptoSmall }

/-- 'funicularlaw03.CompassPoints', WHERE WHAT IT READS IS OF BULK AT MOST 1048576: true; the input reads as it did. -/
def compassPointsUptoRow : OpenClaim := { program := "ytoolkhimafjdpaa", sum := "83764c19999dd35cb5a648e7c2107a40f71265d6f19d139ff6654f95ffb16391", func := "funicular/funicularlaw03.CompassPoints", spec := "compassPoints", apart := false, narrowed := true }
def CompassPointsUptoSaid : Prop := compassPointsUptoRow.holds Try.pinned (OpenSpec.upto compassPointsSpec)

/-- 'funicularlaw03.CompassTurns', WHERE WHAT IT READS IS OF BULK AT MOST 1048576: true; the input reads as it did. -/
def compassTurnsUptoRow : OpenClaim := { program := "ytoolkhimafjdpaa", sum := "83764c19999dd35cb5a648e7c2107a40f71265d6f19d139ff6654f95ffb16391", func := "funicular/funicularlaw03.CompassTurns", spec := "compassTurns", apart := false, narrowed := true }
def CompassTurnsUptoSaid : Prop := compassTurnsUptoRow.holds Try.pinned (OpenSpec.upto compassTurnsSpec)

/-- 'funicularlaw03.CompassParts', WHERE WHAT IT READS IS OF BULK AT MOST 1048576: true; the input reads as it did. -/
def compassPartsUptoRow : OpenClaim := { program := "ytoolkhimafjdpaa", sum := "83764c19999dd35cb5a648e7c2107a40f71265d6f19d139ff6654f95ffb16391", func := "funicular/funicularlaw03.CompassParts", spec := "compassParts", apart := false, narrowed := true }
def CompassPartsUptoSaid : Prop := compassPartsUptoRow.holds Try.pinned (OpenSpec.upto compassPartsSpec)

/-- 'funicularlaw03.CompassRounds', WHERE WHAT IT READS IS OF BULK AT MOST 1048576: true; the input reads as it did. -/
def compassRoundsUptoRow : OpenClaim := { program := "ytoolkhimafjdpaa", sum := "83764c19999dd35cb5a648e7c2107a40f71265d6f19d139ff6654f95ffb16391", func := "funicular/funicularlaw03.CompassRounds", spec := "compassRounds", apart := false, narrowed := true }
def CompassRoundsUptoSaid : Prop := compassRoundsUptoRow.holds Try.pinned (OpenSpec.upto compassRoundsSpec)

/-- 'funicularlaw03.CompassEven', WHERE WHAT IT READS IS OF BULK AT MOST 1048576: true; the input reads as it did. -/
def compassEvenUptoRow : OpenClaim := { program := "ytoolkhimafjdpaa", sum := "83764c19999dd35cb5a648e7c2107a40f71265d6f19d139ff6654f95ffb16391", func := "funicular/funicularlaw03.CompassEven", spec := "compassEven", apart := false, narrowed := true }
def CompassEvenUptoSaid : Prop := compassEvenUptoRow.holds Try.pinned (OpenSpec.upto compassEvenSpec)

/-- 'funicularlaw03.CompassScales', WHERE WHAT IT READS IS OF BULK AT MOST 1048576: true; the input reads as it did. -/
def compassScalesUptoRow : OpenClaim := { program := "ytoolkhimafjdpaa", sum := "83764c19999dd35cb5a648e7c2107a40f71265d6f19d139ff6654f95ffb16391", func := "funicular/funicularlaw03.CompassScales", spec := "compassScales", apart := false, narrowed := true }
def CompassScalesUptoSaid : Prop := compassScalesUptoRow.holds Try.pinned (OpenSpec.upto compassScalesSpec)

end Rows
end Go.Proofs.Ytoolkhimafjdpaa
