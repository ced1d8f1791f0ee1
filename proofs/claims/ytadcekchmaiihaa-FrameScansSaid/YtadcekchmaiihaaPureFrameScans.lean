/- For every text of bytes: what is read of it, and how far, is what the chapter reads. No conditions beyond the statement's own. -/
import Derived.Test.YtadcekchmaiihaaFrameLaws2
namespace Go.Proofs.Ytadcekchmaiihaa.Pure
open Go.Proofs.Ytadcekchmaiihaa.PA
/-- The plain law that the row asks for. -/
theorem FrameScans : funicularlaw05_FrameScans.Pure := FrameScans_pf
end Go.Proofs.Ytadcekchmaiihaa.Pure
