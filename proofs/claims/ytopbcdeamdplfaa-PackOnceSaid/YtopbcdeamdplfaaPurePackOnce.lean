/- For all bytes: what is read of them, written again, is the bytes that it was read from. No conditions beyond the statement's own. -/
import Derived.Test.YtopbcdeamdplfaaPackLaws
namespace Go.Proofs.Ytopbcdeamdplfaa.Pure
open Go.Proofs.Ytopbcdeamdplfaa.PA
/-- The plain law that the row asks for. -/
theorem PackOnce : funicularlaw02_PackOnce.Pure := PackOnce_pf
end Go.Proofs.Ytopbcdeamdplfaa.Pure
