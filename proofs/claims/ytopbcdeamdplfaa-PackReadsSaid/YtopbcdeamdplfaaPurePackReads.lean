/- For all bytes: which number, and which bytes, they begin with, what is behind, and the error, are what the chapter says. No conditions beyond the statement's own. -/
import Derived.Test.YtopbcdeamdplfaaPackRefs
namespace Go.Proofs.Ytopbcdeamdplfaa.Pure
open Go.Proofs.Ytopbcdeamdplfaa.PA
/-- The plain law that the row asks for. -/
theorem PackReads : funicularlaw02_PackReads.Pure := PackReads_pf
end Go.Proofs.Ytopbcdeamdplfaa.Pure
