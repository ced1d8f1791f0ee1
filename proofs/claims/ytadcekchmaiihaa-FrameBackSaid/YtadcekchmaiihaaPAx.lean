/- The walks of some functions of the program, and what is left of the laws: printed by px.py of this claim's author. -/
import Derived.Test.YtadcekchmaiihaaPAx0
import Derived.Test.YtadcekchmaiihaaPAx1
import Derived.Test.YtadcekchmaiihaaPAx2
import Derived.Test.YtadcekchmaiihaaPAx3
import Derived.Test.YtadcekchmaiihaaPAx4
import Derived.Test.YtadcekchmaiihaaPAx5
import Derived.Test.YtadcekchmaiihaaPAx6
import Derived.Test.YtadcekchmaiihaaPAx7
namespace Go.Proofs.Ytadcekchmaiihaa.PA
open Go.RowKit Go.Proofs.YtadcekchmaiihaaW.PrintWords Go.Proofs.YtadcekchmaiihaaW.PrintLast Go.Proofs.YtadcekchmaiihaaW.PrintMore
attribute [local go_sem] max2_int min2_int max_two min_two max_three min_three max_four min_four   -- for this text's walks alone
set_option linter.unusedVariables false
set_option linter.unusedSimpArgs false

end Go.Proofs.Ytadcekchmaiihaa.PA
