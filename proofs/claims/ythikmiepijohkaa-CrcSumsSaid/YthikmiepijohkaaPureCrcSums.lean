/- For every text of bytes: its sum is the remainder of the chapter's long division. No conditions beyond the statement's own. -/
import Derived.Test.YthikmiepijohkaaCrcLaws3
namespace Go.Proofs.Ythikmiepijohkaa.Pure
open Go.Proofs.Ythikmiepijohkaa.PA
/-- The plain law that the row asks for. -/
theorem CrcSums : funicularlaw01_CrcSums.Pure := CrcSums_pf
end Go.Proofs.Ythikmiepijohkaa.Pure
