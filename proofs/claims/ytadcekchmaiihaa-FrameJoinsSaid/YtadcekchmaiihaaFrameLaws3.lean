import Derived.Test.YtadcekchmaiihaaFrameScans
namespace Go.Proofs.Ytadcekchmaiihaa.Pure
open Go Go.RowKit Go.Proofs.Ytadcekchmaiihaa.PA Go.Proofs.YtadcekchmaiihaaW.PrintWords Go.Proofs.YtadcekchmaiihaaW.PrintLast Go.Proofs.YtadcekchmaiihaaW.PrintMore Go.Proofs.Ytadcekchmaiihaa.Crc Go.Proofs.Ytadcekchmaiihaa.CrcOf Go.Proofs.Ytadcekchmaiihaa.Frame Go.Proofs.Ytadcekchmaiihaa.FrameOf

attribute [local irreducible] Frame.scn Frame.step Frame.sum
theorem FrameJoins_pf : funicularlaw05_FrameJoins.Pure := by
  intro a b _ _ ha _ _ hb
  replace ha := bytes_of ha
  replace hb := bytes_of hb
  have key : ∀ {k : Nat} (c : Bool), 500000 ≤ k → (c = false → a.length ≤ 400 ∧ b.length ≤ 400) → funicularlaw05_FrameJoins.j0 (k + 1) a b c = some true := by
    intro k c hk hc
    rw [funicularlaw05_FrameJoins.j0]
    cases c with
    | true => rw [if_pos rfl, FrameOf.works' (by omega)]; rfl
    | false =>
      obtain ⟨h1, h2⟩ := hc rfl
      rw [if_neg (by decide), scan_f (f := 200) ha (by omega) (by omega) (by omega) (by omega), Option.bind_some, scan_f (f := 200) hb (by omega) (by omega) (by omega) (by omega), Option.bind_some]
      simp only
      by_cases hw : (scn 200 a).2 = a.length
      · have hab := scn_app 200 a b 200 (by omega) (by omega) hw
        have l : (a ++ b).length = a.length + b.length := List.length_append
        have c1 := scn_count 200 a
        have c2 := scn_count 200 b
        have n2 := scn_le 200 b
        rw [if_pos (by omega), List.length_nil, if_pos (by omega), List.nil_append, Option.bind_some, if_pos (by omega), scan_f (f := 200 + 200) (b_app ha hb) (by omega) (by omega) (by omega) (by omega), Option.bind_some, hab, hw]
        simp only
        generalize (scn 200 a).1 = ra at c1 ⊢
        generalize scn 200 b = sb at c2 n2 ⊢
        have w1 : wrap64 ((a.length : Int) + (sb.2 : Int)) = ((a.length + sb.2 : Nat) : Int) := by rw [w64 (by omega) (by omega)]; omega
        have w2 : wrap64 ((ra.length : Int) + (sb.1.length : Int)) = ((ra.length + sb.1.length : Nat) : Int) := by rw [w64 (by omega) (by omega)]; omega
        have l2 : (ra ++ sb.1).length = ra.length + sb.1.length := List.length_append
        rw [w1, w2]
        clear w1 w2 hab hw
        rw [if_pos rfl, if_pos (by omega), if_pos (by omega), if_pos (by omega), Int.toNat_natCast, List.take_left, List.drop_left, all_f _ (by omega) (by omega), Option.bind_some, if_pos rfl, all_f _ (by omega) (by omega), Option.bind_some, if_pos rfl, FrameOf.works' (by omega)]
        rfl
      · rw [if_neg (by omega), FrameOf.works' (by omega)]; rfl
  refine ⟨500001, ?_⟩
  rw [funicularlaw05_FrameJoins.f]
  by_cases h : (a.length : Int) > 400
  · rw [if_pos h]; exact key true (by decide) (fun h => by cases h)
  · rw [if_neg h]
    exact key _ (by decide) (fun hc => by have := of_decide_eq_false hc; omega)
end Go.Proofs.Ytadcekchmaiihaa.Pure
