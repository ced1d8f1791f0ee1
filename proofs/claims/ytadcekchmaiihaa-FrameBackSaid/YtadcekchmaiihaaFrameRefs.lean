import Derived.Test.YtadcekchmaiihaaFrameOf
/- What the reference's records tell, and the check at fixed inputs. -/
namespace Go.Proofs.Ytadcekchmaiihaa.FrameOf
open Go Go.RowKit Go.Proofs.Ytadcekchmaiihaa.PA Go.Proofs.YtadcekchmaiihaaW.PrintWords Go.Proofs.YtadcekchmaiihaaW.PrintLast Go.Proofs.YtadcekchmaiihaaW.PrintMore Go.Proofs.Ytadcekchmaiihaa.Crc Go.Proofs.Ytadcekchmaiihaa.CrcOf Go.Proofs.Ytadcekchmaiihaa.Frame Go.Proofs.Ytadcekchmaiihaa.Pure

theorem same_f (a b : List Int) : funicularref02_Same.f a b = some ((strOfNums a).toList == (strOfNums b).toList) := rfl
theorem same_self (a : List Int) : funicularref02_Same.f a a = some true := by rw [same_f, beq_self_eq_true]
theorem four_f {n : Int} (h0 : 0 ≤ n) : funicularref05_four.f n = some (le4 n) := by
  have e : ∀ m : Int, 0 < m → Int.tdiv n m = n / m := fun m hm => Int.tdiv_eq_ediv_of_nonneg h0
  have e2 : Int.tmod n 256 = n % 256 := Int.tmod_eq_emod_of_nonneg h0
  rw [funicularref05_four.f, e 256 (by decide), e 65536 (by decide), e 16777216 (by decide), e2]
  unfold le4
  rw [show n % 256 % 256 = n % 256 by omega, show n / 256 % 4294967296 % 256 = n / 256 % 256 by omega, show n / 65536 % 4294967296 % 256 = n / 65536 % 256 by omega, show n / 16777216 % 4294967296 % 256 = n / 16777216 % 256 by omega]
theorem One_f {k : Nat} {r : List Int} (hr : Bytes r) (hl : r.length ≤ 1990) (hk : 300 * r.length + 2000 ≤ k) : funicularref05_One.f k r = some (enc r) := by
  have hs := sum_lt (b_app (hd_bytes r) hr)
  have hh : (hd r ++ r).length = 4 + r.length := by rw [List.length_append, hd_length]
  rw [funicularref05_One.f, four_f (by omega), Option.bind_some]
  show (if 0 + (hd r).length < 140737488355328 then (some ([] ++ hd r)).bind _ else _) = _
  rw [hd_length, if_pos (by omega), List.nil_append, Option.bind_some, hd_length, if_pos (by omega)]
  show ((some (hd r)).bind _) = _
  rw [Option.bind_some, refsum (b_app (hd_bytes r) hr) (by omega) (by omega), Option.bind_some]
  show ((funicularref05_four.f ((sum (hd r ++ r) : Nat) : Int)).bind _) = _
  rw [four_f (by omega), Option.bind_some, hd_length, le4_length, if_pos (by omega), Option.bind_some, if_pos (by rw [List.length_append, hd_length, le4_length]; omega)]
  rfl
theorem works' {k : Nat} (hk : 1000 ≤ k) : funicularlaw05_works.f k = some true := by
  have b12 : Bytes [1, 2] := by unfold Bytes; decide
  have b9 : Bytes [9] := by unfold Bytes; decide
  have l1 := enc_length [1, 2]
  have l2 := enc_length []
  simp only [List.length_cons, List.length_nil] at l1 l2
  have hb : Bytes (enc [1, 2] ++ enc [] ++ [9]) := b_app (b_app (enc_bytes b12) (enc_bytes b_nil)) b9
  have hlen : (enc [1, 2] ++ enc [] ++ [9]).length = 19 := by simp only [List.length_append, l1, l2, List.length_cons, List.length_nil]
  have hsc : scn 3 (enc [1, 2] ++ enc [] ++ [9]) = ([[1, 2], []], 18) := by
    rw [List.append_assoc, scn_enc b12 (by decide), scn_enc b_nil (by decide), scn_short (by decide)]
    rfl
  rw [funicularlaw05_works.f, Put_f b12 (by decide) (by decide) (by simp only [List.length_cons, List.length_nil]; omega), Option.bind_some, List.nil_append,
    Put_f b_nil (by decide) (by omega) (by simp only [List.length_nil]; omega), Option.bind_some, if_pos (by rw [List.length_append]; omega),
    scan_f (f := 3) hb (by omega) (by omega) (by omega) (by omega), Option.bind_some, hsc, if_pos (by rw [List.length_append]; omega)]
  simp only
  rw [if_pos (by decide), if_pos (by decide), if_pos (by decide)]
  show ((funicularref02_Same.f [1, 2] [1, 2]).bind _) = _
  rw [same_self, Option.bind_some, if_pos rfl, if_pos (by decide)]
  rfl
end Go.Proofs.Ytadcekchmaiihaa.FrameOf
