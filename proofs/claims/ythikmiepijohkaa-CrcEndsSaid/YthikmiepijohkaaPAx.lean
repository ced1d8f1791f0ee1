/- The walks of some functions of the program, and what is left of the laws: printed by px.py of this claim's author. -/
import Derived.Test.YthikmiepijohkaaPAx0
import Derived.Test.YthikmiepijohkaaPAx1
import Derived.Test.YthikmiepijohkaaPAx2
import Derived.Test.YthikmiepijohkaaPAx3
import Derived.Test.YthikmiepijohkaaPAx4
namespace Go.Proofs.Ythikmiepijohkaa.PA
open Go.RowKit Go.Proofs.YthikmiepijohkaaW.PrintWords Go.Proofs.YthikmiepijohkaaW.PrintLast Go.Proofs.YthikmiepijohkaaW.PrintMore
attribute [local go_sem] max2_int min2_int max_two min_two max_three min_three max_four min_four   -- for this text's walks alone
set_option linter.unusedVariables false
set_option linter.unusedSimpArgs false

end Go.Proofs.Ythikmiepijohkaa.PA
