/- The walks of some functions of the program, and what is left of the laws: printed by px.py of this claim's author. -/
import Derived.Test.YtopbcdeamdplfaaPAx0
import Derived.Test.YtopbcdeamdplfaaPAx1
import Derived.Test.YtopbcdeamdplfaaPAx2
import Derived.Test.YtopbcdeamdplfaaPAx3
import Derived.Test.YtopbcdeamdplfaaPAx4
import Derived.Test.YtopbcdeamdplfaaPAx5
namespace Go.Proofs.Ytopbcdeamdplfaa.PA
open Go.RowKit Go.Proofs.YtopbcdeamdplfaaW.PrintWords Go.Proofs.YtopbcdeamdplfaaW.PrintLast Go.Proofs.YtopbcdeamdplfaaW.PrintMore
attribute [local go_sem] max2_int min2_int max_two min_two max_three min_three max_four min_four   -- for this text's walks alone
set_option linter.unusedVariables false
set_option linter.unusedSimpArgs false

end Go.Proofs.Ytopbcdeamdplfaa.PA
