/- Texts as bytes behind their number. -/
import Derived.Test.YtpoblfpjjlplbaaPackU
namespace Go.Proofs.Ytpoblfpjjlplbaa.PE
set_option linter.unusedVariables false
open Go Go.RowKit Go.Proofs.Ytpoblfpjjlplbaa.Pack
theorem bytes_spec {x0 l1 : List Int} (hl : x0.length ≤ 140737488300000) (hl1 : l1.length ≤ 50000) : pack_Bytes x0 l1 = some (x0 ++ enc l1.length ++ l1) := by
  rw [pack_Bytes_eq, ilen_eq, wrap_u64 (by omega) (by omega), uint_spec (by omega) (by omega), Option.bind_some]
  have := enc_length l1.length
  rw [Bool.cond_decide, if_pos (show _ ≤ room by simp only [ilen_eq, List.length_append, room_eq]; omega)]
theorem readBytes_spec {b : List Int} (hb : Bytes b) (hm : b.length ≤ 140737488351232) : pack_ReadBytes b = some (rdb b) := by
  rw [pack_ReadBytes_eq, readUint_spec hb (by omega), Option.bind_some, rdwhole, rdb]
  have hl := rdu_len 0 b
  by_cases he : (rdu 0 b).2.2 = 0
  · rw [if_pos he, bne_no he, cond_false]
    dsimp only
    simp -implicitDefEqProofs only [ilen_eq, Bool.cond_decide, Int.toNat_natCast, List.take_length]
    rw [wrap_u64 (by omega) (by omega)]
    by_cases hv : (rdu 0 b).2.1.length < (rdu 0 b).1
    · rw [if_pos (by omega), if_pos hv]
    · rw [if_neg (by omega), if_neg hv, if_pos (by omega), if_pos (by omega), if_pos (by omega), if_pos (by omega), if_pos (by omega), if_pos (by omega)]
      rfl
  · rw [if_neg he, bne_yes he, cond_true]
end Go.Proofs.Ytpoblfpjjlplbaa.PE
