/- For every two texts of bytes, the first of whole records: both together read as the one and then the other. No conditions beyond the statement's own. -/
import Derived.Test.YtadcekchmaiihaaFrameLaws3
namespace Go.Proofs.Ytadcekchmaiihaa.Pure
open Go.Proofs.Ytadcekchmaiihaa.PA
/-- The plain law that the row asks for. -/
theorem FrameJoins : funicularlaw05_FrameJoins.Pure := FrameJoins_pf
end Go.Proofs.Ytadcekchmaiihaa.Pure
