/- For every number and every place: its bytes, cut short there, are told to be short. No conditions beyond the statement's own. -/
import Derived.Test.YtopbcdeamdplfaaPackLaws
namespace Go.Proofs.Ytopbcdeamdplfaa.Pure
open Go.Proofs.Ytopbcdeamdplfaa.PA
/-- The plain law that the row asks for. -/
theorem PackCuts : funicularlaw02_PackCuts.Pure := PackCuts_pf
end Go.Proofs.Ytopbcdeamdplfaa.Pure
