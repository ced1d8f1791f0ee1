import Derived.Test.YtadcekchmaiihaaFrameRefs
namespace Go.Proofs.Ytadcekchmaiihaa.Pure
open Go Go.RowKit Go.Proofs.Ytadcekchmaiihaa.PA Go.Proofs.YtadcekchmaiihaaW.PrintWords Go.Proofs.YtadcekchmaiihaaW.PrintLast Go.Proofs.YtadcekchmaiihaaW.PrintMore Go.Proofs.Ytadcekchmaiihaa.Crc Go.Proofs.Ytadcekchmaiihaa.CrcOf Go.Proofs.Ytadcekchmaiihaa.Frame Go.Proofs.Ytadcekchmaiihaa.FrameOf

theorem FrameWrites_pf : funicularlaw05_FrameWrites.Pure := by
  intro a b _ _ ha _ _ hb
  replace ha := bytes_of ha
  replace hb := bytes_of hb
  have key : ∀ {k : Nat} (c : Bool), 500000 ≤ k → (c = false → a.length ≤ 600 ∧ b.length ≤ 600) → funicularlaw05_FrameWrites.j0 (k + 1) a b c = some true := by
    intro k c hk hc
    rw [funicularlaw05_FrameWrites.j0]
    cases c with
    | true => rw [if_pos rfl, FrameOf.works' (by omega)]; rfl
    | false =>
      obtain ⟨h1, h2⟩ := hc rfl
      have hle := enc_length b
      rw [if_neg (by decide), List.length_nil, if_pos (by omega), List.nil_append, Option.bind_some, One_f hb (by omega) (by omega), Option.bind_some, if_pos (by omega),
        Put_f hb (by omega) (by omega) (by omega), Option.bind_some, same_self, Option.bind_some, if_pos rfl, FrameOf.works' (by omega)]
      rfl
  refine ⟨500001, ?_⟩
  rw [funicularlaw05_FrameWrites.f]
  by_cases h : (a.length : Int) > 600
  · rw [if_pos h]; exact key true (by decide) (fun h => by cases h)
  · rw [if_neg h]
    exact key _ (by decide) (fun hc => by have := of_decide_eq_false hc; omega)
end Go.Proofs.Ytadcekchmaiihaa.Pure
