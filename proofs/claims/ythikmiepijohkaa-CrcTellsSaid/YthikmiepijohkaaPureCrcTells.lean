/- For every text of bytes, every place and every burst of 32 bits: turned there, the text has another sum. No conditions beyond the statement's own. -/
import Derived.Test.YthikmiepijohkaaCrcLaws1
namespace Go.Proofs.Ythikmiepijohkaa.Pure
open Go.Proofs.Ythikmiepijohkaa.PA
/-- The plain law that the row asks for. -/
theorem CrcTells : funicularlaw01_CrcTells.Pure := CrcTells_pf
end Go.Proofs.Ythikmiepijohkaa.Pure
