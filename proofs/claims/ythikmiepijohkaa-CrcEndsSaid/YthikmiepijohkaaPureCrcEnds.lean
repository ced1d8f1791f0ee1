/- For every text of bytes: with its own sum behind, the lowest byte first, it has always the same sum. No conditions beyond the statement's own. -/
import Derived.Test.YthikmiepijohkaaCrcLaws1
namespace Go.Proofs.Ythikmiepijohkaa.Pure
open Go.Proofs.Ythikmiepijohkaa.PA
/-- The plain law that the row asks for. -/
theorem CrcEnds : funicularlaw01_CrcEnds.Pure := CrcEnds_pf
end Go.Proofs.Ythikmiepijohkaa.Pure
