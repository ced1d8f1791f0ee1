/- For every text of bytes and every record: what is put behind the text is the record as the chapter writes it. No conditions beyond the statement's own. -/
import Derived.Test.YtadcekchmaiihaaFrameLaws1
namespace Go.Proofs.Ytadcekchmaiihaa.Pure
open Go.Proofs.Ytadcekchmaiihaa.PA
/-- The plain law that the row asks for. -/
theorem FrameWrites : funicularlaw05_FrameWrites.Pure := FrameWrites_pf
end Go.Proofs.Ytadcekchmaiihaa.Pure
