/- For all numbers and bytes: written one behind the other, with more behind, they are read again as what they were. No conditions beyond the statement's own. -/
import Derived.Test.YtopbcdeamdplfaaPackLaws
namespace Go.Proofs.Ytopbcdeamdplfaa.Pure
open Go.Proofs.Ytopbcdeamdplfaa.PA
/-- The plain law that the row asks for. -/
theorem PackBack : funicularlaw02_PackBack.Pure := PackBack_pf
end Go.Proofs.Ytopbcdeamdplfaa.Pure
