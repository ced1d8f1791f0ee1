/- For every two texts of bytes the sum of the first that goes on over the second is the sum of both, one behind the other. No conditions beyond the statement's own. -/
import Derived.Test.YthikmiepijohkaaCrcLaws1
namespace Go.Proofs.Ythikmiepijohkaa.Pure
open Go.Proofs.Ythikmiepijohkaa.PA
/-- The plain law that the row asks for. -/
theorem CrcGoes : funicularlaw01_CrcGoes.Pure := CrcGoes_pf
end Go.Proofs.Ythikmiepijohkaa.Pure
