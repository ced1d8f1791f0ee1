import Derived.Test.YtadcekchmaiihaaFrameScans
namespace Go.Proofs.Ytadcekchmaiihaa.Pure
open Go Go.RowKit Go.Proofs.Ytadcekchmaiihaa.PA Go.Proofs.YtadcekchmaiihaaW.PrintWords Go.Proofs.YtadcekchmaiihaaW.PrintLast Go.Proofs.YtadcekchmaiihaaW.PrintMore Go.Proofs.Ytadcekchmaiihaa.Crc Go.Proofs.Ytadcekchmaiihaa.CrcOf Go.Proofs.Ytadcekchmaiihaa.Frame Go.Proofs.Ytadcekchmaiihaa.FrameOf

attribute [local irreducible] Frame.scn Frame.step Frame.sum
theorem FrameScans_pf : funicularlaw05_FrameScans.Pure := by
  intro b _ _ hb
  replace hb := bytes_of hb
  refine ⟨700000, ?_⟩
  rw [funicularlaw05_FrameScans.f]
  by_cases h : (b.length : Int) > 900
  · rw [if_pos h, FrameOf.works' (by omega)]; rfl
  have hc := scn_count 200 b
  rw [if_neg h, scan_f (f := 200) hb (by omega) (by omega) (by omega) (by omega), Option.bind_some, rscan_f (f := 200) hb (by omega) (by omega) (by omega) (by omega), Option.bind_some, if_pos rfl]
  simp only
  rw [all_f _ (by omega) (by omega), Option.bind_some, if_pos rfl, FrameOf.works' (by omega)]; rfl
end Go.Proofs.Ytadcekchmaiihaa.Pure
