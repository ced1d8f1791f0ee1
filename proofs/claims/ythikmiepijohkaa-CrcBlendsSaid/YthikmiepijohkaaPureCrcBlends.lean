/- For every three texts of bytes of one length: the sum of all three blended bit by bit is their three sums blended. No conditions beyond the statement's own. -/
import Derived.Test.YthikmiepijohkaaCrcLaws2
namespace Go.Proofs.Ythikmiepijohkaa.Pure
open Go.Proofs.Ythikmiepijohkaa.PA
/-- The plain law that the row asks for. -/
theorem CrcBlends : funicularlaw01_CrcBlends.Pure := CrcBlends_pf
end Go.Proofs.Ythikmiepijohkaa.Pure
