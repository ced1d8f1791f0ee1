/-
  No cell of these rows narrows 'for every input' (looked for: loops, veiled, ifaces, maps, wideKeys, modest, calm, conditions, laid).
  DERIVED. THE GIVEN ROWS OF THIS SEAT. 4 by the template 'for every input the law returns true; each argument reads behind the call as it read before'; 0 by the template 'total and deterministic' (their statements: YtocglpmgamhaeaaTotals.lean).
  GIVEN WITH THE SEED: the statements are not yours to turn. If you find one false, say at which input.
  Laid BY PROGRAM, IN A SANDBOX (cutbox-rows.mjs): the forced cells as the released guide's own fill.sh prints them over the translation fd4e979d2c65e6ee… (all of the seat's roots in one cut). By AI agents, Wed Nov 11 2026. No macro, syntax, notation, axiom, sorry.
-/
import Derived.Test.YtocglpmgamhaeaaChecked
import GoSem.Claim
import GoSem.ClaimJoined
import GoSem.ClaimMapViews
import Derived.JoinedTies
import Derived.KernelRfl
namespace Go.Proofs.Ytocglpmgamhaeaa
/- THE CELL 'sum', in the pinned program and in every row, IS THE sha256 OF THE DUMP (.gsa) THAT YtocglpmgamhaeaaProg.lean LOADS. Nothing in Lean hashes anything: it is a label: what it is worth is what the hold of that sum in a sandbox is worth. -/
noncomputable def Try.pinned : Pinned := { name := "ytocglpmgamhaeaa", sum := "fd4e979d2c65e6ee7c5b24b5b23650685b19cd8a20196917694c6d7956588042", checked := Try.checked }
namespace Rows
def none {H : Type} : Left H := { results := [], args := [] }

/-- 'funicularlaw20.TimersKeeps': WHATEVER THE INPUT: true; the input reads as it did. -/
def timersKeepsSpec : ChangeSpec := { name := "timersKeeps", fn := fun _ => fun
  | [d1, d2] => { results := [.lit (.bool true)], args := [d1, d2] }
  | _ => none }
def timersKeepsRow : OpenClaim := { program := "ytocglpmgamhaeaa", sum := "fd4e979d2c65e6ee7c5b24b5b23650685b19cd8a20196917694c6d7956588042", func := "funicular/funicularlaw20.TimersKeeps", spec := "timersKeeps", inPlace := ["slices.overlaps[funicular/api.Timer]"], unfollowed := true, recurses := true, apart := false }
def TimersKeepsSaid : Prop := timersKeepsRow.holds Try.pinned (OpenSpec.ofChange timersKeepsSpec)

/-- ITS FALSE NEIGHBOUR: 'it returns false'. Refute it at one input. -/
def timersKeepsWrong : ChangeSpec := { name := "timersKeeps", fn := fun _ => fun
  | [d1, d2] => { results := [.lit (.bool false)], args := [d1, d2] }
  | _ => none }
def TimersKeepsWrongFalsely : Prop := timersKeepsRow.holds Try.pinned (OpenSpec.ofChange timersKeepsWrong)

/-- 'funicularlaw20.TimersDue': WHATEVER THE INPUT: true; the input reads as it did. -/
def timersDueSpec : ChangeSpec := { name := "timersDue", fn := fun _ => fun
  | [d1, d2, d3] => { results := [.lit (.bool true)], args := [d1, d2, d3] }
  | _ => none }
def timersDueRow : OpenClaim := { program := "ytocglpmgamhaeaa", sum := "fd4e979d2c65e6ee7c5b24b5b23650685b19cd8a20196917694c6d7956588042", func := "funicular/funicularlaw20.TimersDue", spec := "timersDue", inPlace := ["slices.overlaps[funicular/api.Timer]"], unfollowed := true, recurses := true, apart := false }
def TimersDueSaid : Prop := timersDueRow.holds Try.pinned (OpenSpec.ofChange timersDueSpec)

/-- ITS FALSE NEIGHBOUR: 'it returns false'. Refute it at one input. -/
def timersDueWrong : ChangeSpec := { name := "timersDue", fn := fun _ => fun
  | [d1, d2, d3] => { results := [.lit (.bool false)], args := [d1, d2, d3] }
  | _ => none }
def TimersDueWrongFalsely : Prop := timersDueRow.holds Try.pinned (OpenSpec.ofChange timersDueWrong)

/-- 'funicularlaw20.TimersBack': WHATEVER THE INPUT: true; the input reads as it did. -/
def timersBackSpec : ChangeSpec := { name := "timersBack", fn := fun _ => fun
  | [d1, d2] => { results := [.lit (.bool true)], args := [d1, d2] }
  | _ => none }
def timersBackRow : OpenClaim := { program := "ytocglpmgamhaeaa", sum := "fd4e979d2c65e6ee7c5b24b5b23650685b19cd8a20196917694c6d7956588042", func := "funicular/funicularlaw20.TimersBack", spec := "timersBack", inPlace := ["slices.overlaps[funicular/api.Timer]"], unfollowed := true, recurses := true, apart := false }
def TimersBackSaid : Prop := timersBackRow.holds Try.pinned (OpenSpec.ofChange timersBackSpec)

/-- ITS FALSE NEIGHBOUR: 'it returns false'. Refute it at one input. -/
def timersBackWrong : ChangeSpec := { name := "timersBack", fn := fun _ => fun
  | [d1, d2] => { results := [.lit (.bool false)], args := [d1, d2] }
  | _ => none }
def TimersBackWrongFalsely : Prop := timersBackRow.holds Try.pinned (OpenSpec.ofChange timersBackWrong)

/-- 'funicularlaw20.TimersOnce': WHATEVER THE INPUT: true; the input reads as it did. -/
def timersOnceSpec : ChangeSpec := { name := "timersOnce", fn := fun _ => fun
  | [d1, d2, d3] => { results := [.lit (.bool true)], args := [d1, d2, d3] }
  | _ => none }
def timersOnceRow : OpenClaim := { program := "ytocglpmgamhaeaa", sum := "fd4e979d2c65e6ee7c5b24b5b23650685b19cd8a20196917694c6d7956588042", func := "funicular/funicularlaw20.TimersOnce", spec := "timersOnce", inPlace := ["slices.overlaps[funicular/api.Timer]"], unfollowed := true, recurses := true, apart := false }
def TimersOnceSaid : Prop := timersOnceRow.holds Try.pinned (OpenSpec.ofChange timersOnceSpec)

/-- ITS FALSE NEIGHBOUR: 'it returns false'. Refute it at one input. -/
def timersOnceWrong : ChangeSpec := { name := "timersOnce", fn := fun _ => fun
  | [d1, d2, d3] => { results := [.lit (.bool false)], args := [d1, d2, d3] }
  | _ => none }
def TimersOnceWrongFalsely : Prop := timersOnceRow.holds Try.pinned (OpenSpec.ofChange timersOnceWrong)

/- THE SECOND FORM. 'bulk': how many values and letters a reading holds, each counted each time it is reached (what is shared counts as often as it is met; a slice's spare places count too). A statement '..UptoSaid' is the law's where the arguments, and the package variables that the reading takes, are together of bulk at most 1048576: NARROWER than '..Said'. Prove '..Said' where nothing that the law and all that it calls make is longer than what came in: it says more and counts as full. Else prove '..UptoSaid'. A law counts once. -/
mutual
def uptoBulk {H : Type} : DataW H → Nat
  | .lit (.string bytes) => bytes.length + 1
  | .lit _ => 1
  | .nil => 1
  | .ptr d => uptoBulk d + 1
  | .slice elems spare => uptoBulkAll elems + uptoBulkAll spare + 1
  | .agg parts => uptoBulkAll parts + 1
  | .iface _ d => uptoBulk d + 1
  | .map entries => uptoBulkEntries entries + 1
  | .held _ => 1
def uptoBulkAll {H : Type} : List (DataW H) → Nat
  | [] => 0
  | d :: r => uptoBulk d + uptoBulkAll r
def uptoBulkEntries {H : Type} : List (Lit × DataW H) → Nat
  | [] => 0
  | x :: r => uptoBulkEntry x + uptoBulkEntries r
def uptoBulkEntry {H : Type} : Lit × DataW H → Nat
  | (.string bytes, d) => bytes.length + uptoBulk d + 1
  | (_, d) => uptoBulk d + 1
 end
def uptoSmall : (H : Type) → List (DataW H) → Bool := fun _ ds => decide (uptoBulkAll ds ≤ 1048576)
def OpenSpec.upto (s : _root_.Go.ChangeSpec) : _root_.Go.OpenSpec := { _root_.Go.OpenSpec.ofChange s with cond := some uptoSmall }

/-- 'funicularlaw20.TimersKeeps', WHERE WHAT IT READS IS OF BULK AT MOST 1048576: true; the input reads as it did. -/
def timersKeepsUptoRow : OpenClaim := { program := "ytocglpmgamhaeaa", sum := "fd4e979d2c65e6ee7c5b24b5b23650685b19cd8a20196917694c6d7956588042", func := "funicular/funicularlaw20.TimersKeeps", spec := "timersKeeps", inPlace := ["slices.overlaps[funicular/api.Timer]"], unfollowed := true, recurses := true, apart := false, narrowed := true }
def TimersKeepsUptoSaid : Prop := timersKeepsUptoRow.holds Try.pinned (OpenSpec.upto timersKeepsSpec)

/-- 'funicularlaw20.TimersDue', WHERE WHAT IT READS IS OF BULK AT MOST 1048576: true; the input reads as it did. -/
def timersDueUptoRow : OpenClaim := { program := "ytocglpmgamhaeaa", sum := "fd4e979d2c65e6ee7c5b24b5b23650685b19cd8a20196917694c6d7956588042", func := "funicular/funicularlaw20.TimersDue", spec := "timersDue", inPlace := ["slices.overlaps[funicular/api.Timer]"], unfollowed := true, recurses := true, apart := false, narrowed := true }
def TimersDueUptoSaid : Prop := timersDueUptoRow.holds Try.pinned (OpenSpec.upto timersDueSpec)

/-- 'funicularlaw20.TimersBack', WHERE WHAT IT READS IS OF BULK AT MOST 1048576: true; the input reads as it did. -/
def timersBackUptoRow : OpenClaim := { program := "ytocglpmgamhaeaa", sum := "fd4e979d2c65e6ee7c5b24b5b23650685b19cd8a20196917694c6d7956588042", func := "funicular/funicularlaw20.TimersBack", spec := "timersBack", inPlace := ["slices.overlaps[funicular/api.Timer]"], unfollowed := true, recurses := true, apart := false, narrowed := true }
def TimersBackUptoSaid : Prop := timersBackUptoRow.holds Try.pinned (OpenSpec.upto timersBackSpec)

/-- 'funicularlaw20.TimersOnce', WHERE WHAT IT READS IS OF BULK AT MOST 1048576: true; the input reads as it did. -/
def timersOnceUptoRow : OpenClaim := { program := "ytocglpmgamhaeaa", sum := "fd4e979d2c65e6ee7c5b24b5b23650685b19cd8a20196917694c6d7956588042", func := "funicular/funicularlaw20.TimersOnce", spec := "timersOnce", inPlace := ["slices.overlaps[funicular/api.Timer]"], unfollowed := true, recurses := true, apart := false, narrowed := true }
def TimersOnceUptoSaid : Prop := timersOnceUptoRow.holds Try.pinned (OpenSpec.upto timersOnceSpec)

end Rows
end Go.Proofs.Ytocglpmgamhaeaa
