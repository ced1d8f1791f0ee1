import Derived.Test.YtopbcdeamdplfaaPackLaws
/- What the references' numbers as bytes tell: the same. -/
namespace Go.Proofs.Ytopbcdeamdplfaa.PackRefs
open Go Go.RowKit Go.Proofs.Ytopbcdeamdplfaa.PA Go.Proofs.YtopbcdeamdplfaaW.PrintWords Go.Proofs.YtopbcdeamdplfaaW.PrintLast Go.Proofs.YtopbcdeamdplfaaW.PrintMore Go.Proofs.Ytopbcdeamdplfaa.Pack Go.Proofs.Ytopbcdeamdplfaa.PackOf

/-- What the reference tells of bytes: the number, how many bytes, the error. -/
def refu (b : List Int) : Int × Int × Int := (((rdu 0 b).1 : Int), if (rdu 0 b).2.2 = 0 then ((lead b + 1 : Nat) : Int) else 0, (rdu 0 b).2.2)
theorem num_drop (b : List Int) (j : Nat) : num (b.drop j) ≤ num b := by
  induction b generalizing j with
  | nil => simp
  | cons c r ih =>
    cases j with
    | zero => exact Nat.le_refl _
    | succ j => rw [List.drop_succ_cons, num]; have := ih j; omega
theorem ref_l1 (j : Nat) : ∀ (k n : Nat) (b : List Int), Bytes b → n < b.length → b.length ≤ 140737488355328 → j ≤ n + 1 → num (b.take (n + 1)) < 18446744073709551616 →
    funicularref02_ReadUint.l1 (k + j + 1) b (n : Int) ((num ((b.take (n + 1)).drop j) : Nat) : Int) ((j : Int) - 1) = some (((num (b.take (n + 1)) : Nat) : Int), ((n + 1 : Nat) : Int), 0) := by
  induction j with
  | zero =>
    intro k n b hb hn hm hj hv
    rw [funicularref02_ReadUint.l1, if_neg (by omega), List.drop_zero, w64 (by omega) (by omega)]; rfl
  | succ j ih =>
    intro k n b hb hn hm hj hv
    have hlt : j < b.length := by omega
    have hc := hb _ (List.getElem_mem hlt)
    have hd : (b.take (n + 1)).drop j = b[j] :: (b.take (n + 1)).drop (j + 1) := by
      have hl : j < (b.take (n + 1)).length := by simp only [List.length_take]; omega
      rw [List.drop_eq_getElem_cons hl]; simp
    have hs : num ((b.take (n + 1)).drop j) = b[j].toNat % 128 + 128 * num ((b.take (n + 1)).drop (j + 1)) := by rw [hd, num]
    have hle := num_drop (b.take (n + 1)) j
    have e1 : ((j + 1 : Nat) : Int) - 1 = (j : Int) := by omega
    have et : Int.tmod b[j] 128 = b[j] % 128 := Int.tmod_eq_emod_of_nonneg hc.1
    have ev : IntKind.u64.wrap ((IntKind.u64.wrap (((num ((b.take (n + 1)).drop (j + 1)) : Nat) : Int) * 128)) + (IntKind.u64.wrap (Int.tmod b[j] 128))) = ((num ((b.take (n + 1)).drop j) : Nat) : Int) := by
      rw [et, u64w (i := b[j] % 128) (by omega) (by omega), u64w (i := ((num ((b.take (n + 1)).drop (j + 1)) : Nat) : Int) * 128) (by omega) (by omega), u64w (by omega) (by omega), hs]
      omega
    rw [show k + (j + 1) + 1 = (k + j + 1) + 1 by omega, funicularref02_ReadUint.l1, e1, if_pos (by omega), if_pos (by omega), if_pos (by omega), rd_at hlt, ev, w64 (by omega) (by omega)]
    exact ih k n b hb hn hm (by omega) hv
theorem ref_j1 (k : Nat) (b : List Int) (hb : Bytes b) (hm : b.length ≤ 140737488355328) :
    funicularref02_ReadUint.j1 (k + 16) b ((min (lead b) 10 : Nat) : Int) = some (refu b) := by
  have hs := rdu_spec 0 b hb (by decide)
  rw [Nat.zero_add] at hs
  have hll := lead_le b
  rw [show k + 16 = (k + 15) + 1 by omega, funicularref02_ReadUint.j1]
  by_cases h10 : 10 ≤ lead b
  · rw [if_pos h10] at hs
    have c9 := lead_at b 9 (by omega) (by omega)
    rw [Nat.min_eq_right h10, if_neg (by decide), show k + 15 = (k + 14) + 1 by omega, funicularref02_ReadUint.j2, if_neg (by decide), if_pos (by decide), if_pos (by omega)]
    rw [show (9 : Int) = ((9 : Nat) : Int) from rfl, rd_at (show 9 < b.length by omega), show k + 14 = (k + 13) + 1 by omega, funicularref02_ReadUint.j3, if_pos (decide_eq_true (by omega))]
    unfold refu
    rw [hs]; rfl
  · rw [if_neg h10] at hs
    rw [Nat.min_eq_left (by omega), if_pos (by omega), show k + 15 = (k + 14) + 1 by omega, funicularref02_ReadUint.j2]
    by_cases hlt : lead b < b.length
    · rw [dif_pos hlt] at hs
      have hc := hb _ (List.getElem_mem hlt)
      have he := lead_end b hlt
      rw [if_neg (by simp; omega)]
      have go4 : ∀ t : Bool, t = decide (0 < lead b ∧ b[lead b] = 0) → ¬ (lead b = 9 ∧ 1 < b[lead b]) → funicularref02_ReadUint.j4 (k + 13) b (lead b : Int) t = some (refu b) := by
        intro t ht h9
        rw [if_neg h9] at hs
        rw [show k + 13 = (k + 12) + 1 by omega, funicularref02_ReadUint.j4]
        by_cases hz : 0 < lead b ∧ b[lead b] = 0
        · rw [if_pos hz] at hs
          rw [if_pos (by rw [ht]; exact decide_eq_true hz)]
          unfold refu
          rw [hs]; rfl
        · rw [if_neg hz] at hs
          rw [if_neg (by rw [ht]; simpa using hz)]
          have hv := rdu_lt 0 b hb (by decide)
          rw [hs] at hv
          have e := ref_l1 (lead b + 1) (k + 12 - (lead b + 2)) (lead b) b hb hlt hm (by omega) hv
          rw [List.drop_eq_nil_of_le (by simp only [List.length_take]; omega), show k + 12 - (lead b + 2) + (lead b + 1) + 1 = k + 12 by omega, show ((lead b + 1 : Nat) : Int) - 1 = (lead b : Int) by omega] at e
          unfold refu
          rw [hs]
          exact e
      have go3 : ∀ t : Bool, t = decide (lead b = 9 ∧ 1 < b[lead b]) → funicularref02_ReadUint.j3 (k + 14) b (lead b : Int) t = some (refu b) := by
        intro t ht
        rw [show k + 14 = (k + 13) + 1 by omega, funicularref02_ReadUint.j3]
        by_cases h9 : lead b = 9 ∧ 1 < b[lead b]
        · rw [if_pos h9] at hs
          rw [if_pos (by rw [ht]; exact decide_eq_true h9)]
          unfold refu
          rw [hs]; rfl
        · rw [if_neg (by rw [ht]; simpa using h9)]
          by_cases h0 : 0 < lead b
          · rw [if_pos (by omega), if_pos (by omega), if_pos (by omega), rd_at hlt]
            refine go4 _ ?_ h9
            by_cases hz : b[lead b] = 0 <;> simp [hz, h0]
          · rw [if_neg (by omega)]
            exact go4 _ (by simp [h0]) h9
      by_cases g9 : lead b = 9
      · rw [if_pos (by omega), if_pos (by omega)]
        refine go3 _ ?_
        have : rd b 9 = b[lead b] := by
          rw [← rd_at hlt, g9]; rfl
        rw [this]
        by_cases h1 : 1 < b[lead b] <;> simp [g9]
      · rw [if_neg (by omega)]
        exact go3 _ (by simp [g9])
    · rw [dif_neg hlt] at hs
      rw [if_pos (decide_eq_true (by omega))]
      unfold refu
      rw [hs]; rfl
theorem ref_l0 (d : Nat) : ∀ (k n : Nat) (b : List Int), Bytes b → b.length ≤ 140737488355328 → n + d = min (lead b) 10 →
    funicularref02_ReadUint.l0 (k + 16 + d + 1) b (n : Int) = some (refu b) := by
  induction d with
  | zero =>
    intro k n b hb hm hn
    have hj := ref_j1 k b hb hm
    rw [← hn, Nat.add_zero] at hj
    have hll := lead_le b
    rw [funicularref02_ReadUint.l0]
    by_cases h1 : n < b.length
    · rw [if_pos (by omega)]
      by_cases h2 : n < 10
      · have hnl : n = lead b := by omega
        have he := lead_end b (by omega)
        rw [if_pos (by omega), if_pos (by omega), rd_at h1]
        have : ¬ b[n] > 127 := by
          have e : b[n] = b[lead b]'(by omega) := by simp only [hnl]
          rw [e]; omega
        rw [if_neg this]; exact hj
      · rw [if_neg (by omega)]; exact hj
    · rw [if_neg (by omega)]; exact hj
  | succ d ih =>
    intro k n b hb hm hn
    have hll := lead_le b
    have hlt : n < b.length := by omega
    have hc := lead_at b n (by omega) hlt
    rw [show k + 16 + (d + 1) + 1 = (k + 16 + d + 1) + 1 by omega, funicularref02_ReadUint.l0, if_pos (by omega), if_pos (by omega), if_pos (by omega), rd_at hlt, if_pos (by omega), w64 (by omega) (by omega)]
    exact ih k (n + 1) b hb hm (by omega)
theorem refReadUint {k : Nat} {b : List Int} (hb : Bytes b) (hm : b.length ≤ 140737488355328) (hk : 27 ≤ k) : funicularref02_ReadUint.f k b = some (refu b) := by
  obtain ⟨k, rfl⟩ : ∃ m, k = m + 16 + min (lead b) 10 + 1 := ⟨k - (16 + min (lead b) 10 + 1), by omega⟩
  exact ref_l0 (min (lead b) 10) k 0 b hb hm (by omega)
/-- Where it goes on. -/
theorem rdu_drop {b : List Int} (hb : Bytes b) (h : (rdu 0 b).2.2 = 0) : (rdu 0 b).2.1 = b.drop (lead b + 1) ∧ lead b + 1 ≤ b.length := by
  have hs := rdu_spec 0 b hb (by decide)
  rw [Nat.zero_add] at hs
  by_cases h10 : 10 ≤ lead b
  · rw [if_pos h10] at hs; rw [hs] at h; simp at h
  · rw [if_neg h10] at hs
    by_cases hlt : lead b < b.length
    · rw [dif_pos hlt] at hs
      by_cases h1 : lead b = 9 ∧ 1 < b[lead b]
      · rw [if_pos h1] at hs; rw [hs] at h; simp at h
      · rw [if_neg h1] at hs
        by_cases h2 : 0 < lead b ∧ b[lead b] = 0
        · rw [if_pos h2] at hs; rw [hs] at h; simp at h
        · rw [if_neg h2] at hs; rw [hs]; exact ⟨rfl, hlt⟩
    · rw [dif_neg hlt] at hs; rw [hs] at h; simp at h
theorem refReadInt {k : Nat} {b : List Int} (hb : Bytes b) (hm : b.length ≤ 140737488355328) (hk : 27 ≤ k) :
    funicularref02_ReadInt.f k b = some (zag (rdu 0 b).1, if (rdu 0 b).2.2 = 0 then ((lead b + 1 : Nat) : Int) else 0, (rdu 0 b).2.2) := by
  have hv := rdu_lt 0 b hb (by decide)
  rw [funicularref02_ReadInt.f, refReadUint hb hm hk, Option.bind_some, refu]
  dsimp only
  by_cases he : (rdu 0 b).2.2 = 0
  · rw [if_pos he, if_pos he, he]
    generalize (rdu 0 b).1 = v at hv
    have hm0 : Int.tmod (v : Int) 2 = (v : Int) % 2 := Int.tmod_eq_emod_of_nonneg (by omega)
    have hd0 : Int.tdiv (v : Int) 2 = (v : Int) / 2 := Int.tdiv_eq_ediv_of_nonneg (by omega)
    have hw : IntKind.u64.wrap ((v : Int) / 2) = ((v / 2 : Nat) : Int) := by rw [u64w (by omega) (by omega)]; omega
    rw [hm0, hd0, hw]
    unfold zag
    by_cases hp : v % 2 = 0
    · rw [if_pos (by omega), if_pos hp, w64 (by omega) (by omega)]
    · rw [if_neg (by omega), if_neg hp, w64 (i := ((v / 2 : Nat) : Int)) (by omega) (by omega), w64 (i := -((v / 2 : Nat) : Int)) (by omega) (by omega), w64 (by omega) (by omega)]
  · obtain ⟨e1, e2⟩ := rdu_err 0 b he
    rw [if_neg he, if_neg he, e1]; rfl
theorem refReadBytes {k : Nat} {b : List Int} (hb : Bytes b) (hm : b.length ≤ 3000) (hk : 27 ≤ k) :
    funicularref02_ReadBytes.f k b = some ((rdb b).1, if (rdb b).2.2 = 0 then ((lead b + 1 + (rdb b).1.length : Nat) : Int) else 0, (rdb b).2.2) := by
  rw [funicularref02_ReadBytes.f, refReadUint hb (by omega) hk, Option.bind_some, refu]
  dsimp only
  unfold rdb
  by_cases he : (rdu 0 b).2.2 = 0
  · obtain ⟨hd, hle⟩ := rdu_drop hb he
    have hlen : (rdu 0 b).2.1.length = b.length - (lead b + 1) := by rw [hd, List.length_drop]
    rw [if_pos he, if_pos he, if_pos he]
    rw [w64 (i := (b.length : Int) - ((lead b + 1 : Nat) : Int)) (by omega) (by omega), u64w (by omega) (by omega)]
    by_cases hv : (rdu 0 b).2.1.length < (rdu 0 b).1
    · rw [if_pos (by omega), if_pos hv]; rfl
    · rw [if_neg (by omega), if_neg hv]
      have ew : wrap64 (((lead b + 1 : Nat) : Int) + wrap64 ((rdu 0 b).1 : Int)) = ((lead b + 1 + (rdu 0 b).1 : Nat) : Int) := by
        rw [w64 (i := ((rdu 0 b).1 : Int)) (by omega) (by omega), w64 (by omega) (by omega)]; omega
      rw [ew, if_pos (by omega), if_pos (by omega), if_pos (by omega)]
      dsimp only
      rw [if_pos rfl, Int.toNat_natCast, Int.toNat_natCast, hd, List.length_take, List.length_drop, Nat.min_eq_left (by omega), List.drop_take]
      rw [show lead b + 1 + (rdu 0 b).1 - (lead b + 1) = (rdu 0 b).1 by omega]
  · rw [if_neg he, if_neg he]
    dsimp only
    rw [if_neg he]
end Go.Proofs.Ytopbcdeamdplfaa.PackRefs
namespace Go.Proofs.Ytopbcdeamdplfaa.Pure
open Go Go.RowKit Go.Proofs.Ytopbcdeamdplfaa.PA Go.Proofs.YtopbcdeamdplfaaW.PrintWords Go.Proofs.YtopbcdeamdplfaaW.PrintLast Go.Proofs.YtopbcdeamdplfaaW.PrintMore Go.Proofs.Ytopbcdeamdplfaa.Pack Go.Proofs.Ytopbcdeamdplfaa.PackOf Go.Proofs.Ytopbcdeamdplfaa.PackRefs
theorem PackReads_pf : funicularlaw02_PackReads.Pure := by
  intro b hb _ hbb
  replace hbb := bytes_of hbb
  refine ⟨101, ?_⟩
  rw [funicularlaw02_PackReads.f]
  by_cases h1 : (b.length : Int) > 3000
  · rw [if_pos h1, works' (by decide)]; rfl
  rw [if_neg h1, readUint hbb (by omega) (by decide), Option.bind_some, refReadUint hbb (by omega) (by decide), Option.bind_some, whole, refu]
  dsimp only
  have j1 : ∀ d, d = false → funicularlaw02_PackReads.j1 100 b d = some true := by
    intro d hd
    rw [funicularlaw02_PackReads.j1, if_neg (by rw [hd]; decide), readBytes hbb (by omega) (by decide), Option.bind_some, refReadBytes hbb (by omega) (by decide), Option.bind_some]
    dsimp only
    rw [same_self, Option.bind_some, if_pos rfl, if_pos rfl]
    by_cases he : (rdb b).2.2 = 0
    · rw [if_pos he, if_pos he]
      have hu : (rdu 0 b).2.2 = 0 := by
        by_cases hu : (rdu 0 b).2.2 = 0
        · exact hu
        · unfold rdb at he; rw [if_neg hu] at he; exact absurd he hu
      obtain ⟨hd, hle⟩ := rdu_drop hbb hu
      have hlen : (rdu 0 b).2.1.length = b.length - (lead b + 1) := by rw [hd, List.length_drop]
      have hr : (rdb b).2.1 = b.drop (lead b + 1 + (rdb b).1.length) ∧ lead b + 1 + (rdb b).1.length ≤ b.length := by
        unfold rdb at he ⊢
        rw [if_pos hu] at he ⊢
        by_cases hv : (rdu 0 b).2.1.length < (rdu 0 b).1
        · rw [if_pos hv] at he; simp at he
        · rw [if_neg hv]
          dsimp only
          rw [List.length_take, Nat.min_eq_left (by omega), hd, List.drop_drop]
          exact ⟨rfl, by omega⟩
      rw [if_pos (by omega), if_pos (by omega), Int.toNat_natCast, ← hr.1, same_self, Option.bind_some, if_pos rfl, works' (by decide)]; rfl
    · rw [if_neg he, works' (by decide)]; rfl
  have j0 : ∀ d, d = false → funicularlaw02_PackReads.j0 101 b d = some true := by
    intro d hd
    rw [funicularlaw02_PackReads.j0, if_neg (by rw [hd]; decide), readInt hbb (by omega) (by decide), Option.bind_some, refReadInt hbb (by omega) (by decide), Option.bind_some]
    dsimp only
    rw [if_pos rfl, if_pos rfl]
    by_cases he : (rdu 0 b).2.2 = 0
    · obtain ⟨hd, hle⟩ := rdu_drop hbb he
      rw [if_pos he, if_pos he, if_pos (by omega), if_pos (by omega), Int.toNat_natCast, ← hd, same_self, Option.bind_some]
      exact j1 _ rfl
    · rw [if_neg he]; exact j1 _ rfl
  rw [if_pos rfl, if_pos rfl]
  by_cases he : (rdu 0 b).2.2 = 0
  · obtain ⟨hd, hle⟩ := rdu_drop hbb he
    rw [if_pos he, if_pos he, if_pos (by omega), if_pos (by omega), Int.toNat_natCast, ← hd, same_self, Option.bind_some]
    exact j0 _ rfl
  · rw [if_neg he]; exact j0 _ rfl
end Go.Proofs.Ytopbcdeamdplfaa.Pure
