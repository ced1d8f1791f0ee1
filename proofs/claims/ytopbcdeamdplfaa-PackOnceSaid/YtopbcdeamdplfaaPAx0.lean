/- The walks of some functions of the program, and what is left of the laws: printed by px.py of this claim's author. -/
import Derived.Test.YtopbcdeamdplfaaProg
import Derived.Below
import Derived.Deep.Draws
import Derived.Deep.AppendLies
import Derived.Maps.AppendAt
import Derived.OwnWalk
import Derived.Laws.BytesArg
import Derived.Laws.MakeOwn
import Derived.Laws.OwnMore
import Derived.Deep.OwnRows
import Derived.Tactics
import Derived.Lib.ConvBytes
import Derived.Laws.Slices
import Derived.WalkKit
import Derived.KernelRfl
import Derived.RowKit3
import Derived.Deep.LoopGhost
import Derived.Deep.QuietTactic
import Derived.BigQuiet
import Derived.WideLaws
import Derived.Deep.DeepCutAuto
import Derived.Deep.CutBlock
import Derived.Deep.RegionHeld3
import Derived.Laws.Rows
import Derived.Lib.AppendStr
import Derived.ArgAppend
import Derived.Laws.IdiomCopy
import Derived.OrdersHeld
import Derived.Laws.BitsLemmas
import Derived.RowKit
import Derived.Test.YtopbcdeamdplfaaXW
import Derived.Test.YtopbcdeamdplfaaWWords
import Derived.Test.YtopbcdeamdplfaaWLast
import Derived.Test.YtopbcdeamdplfaaWTab
import Derived.Test.YtopbcdeamdplfaaWFour
import Derived.Test.YtopbcdeamdplfaaWQPut
import Derived.Test.YtopbcdeamdplfaaWApart
import Derived.Test.YtopbcdeamdplfaaWArr
import Derived.Test.YtopbcdeamdplfaaWZeros
import Derived.Test.YtopbcdeamdplfaaWFoot
import Derived.Test.YtopbcdeamdplfaaWKept
import Derived.Test.YtopbcdeamdplfaaWShare
import Derived.Test.YtopbcdeamdplfaaWN
import Derived.Test.YtopbcdeamdplfaaWFootNe
import Derived.Test.YtopbcdeamdplfaaWAt
import Derived.Test.YtopbcdeamdplfaaWEqStruct
import Derived.Test.YtopbcdeamdplfaaWRepsOne
import Derived.Test.YtopbcdeamdplfaaWInv
import Derived.Test.YtopbcdeamdplfaaWInvWords
import Derived.Test.YtopbcdeamdplfaaWGuard
import Derived.Test.YtopbcdeamdplfaaWNEv
import Derived.Test.YtopbcdeamdplfaaWMore
namespace Go.Proofs.Ytopbcdeamdplfaa.PA
open Go.RowKit Go.Proofs.YtopbcdeamdplfaaW.PrintWords Go.Proofs.YtopbcdeamdplfaaW.PrintLast Go.Proofs.YtopbcdeamdplfaaW.PrintMore
attribute [local go_sem] max2_int min2_int max_two min_two max_three min_three max_four min_four   -- for this text's walks alone
set_option linter.unusedVariables false
set_option linter.unusedSimpArgs false



def errW : Option Int → Value
  | none => .nilIface
  | some c => .iface 0 (.int .i64 c)
theorem errW_none : errW none = .nilIface := rfl
theorem errW_some (c : Int) : errW (some c) = .iface 0 (.int .i64 c) := rfl

theorem info5 : (Try.prog.info? 5).map (fun i => (i.zero, i.size, i.bytes)) = some (some (.int .u8 0), 1, 1) := by kernel_rfl
-- the values' own types

end Go.Proofs.Ytopbcdeamdplfaa.PA
