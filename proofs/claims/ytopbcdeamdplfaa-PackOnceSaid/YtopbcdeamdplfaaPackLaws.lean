import Derived.Test.YtopbcdeamdplfaaPackOf
namespace Go.Proofs.Ytopbcdeamdplfaa.Pure
open Go Go.RowKit Go.Proofs.Ytopbcdeamdplfaa.PA Go.Proofs.YtopbcdeamdplfaaW.PrintWords Go.Proofs.YtopbcdeamdplfaaW.PrintLast Go.Proofs.YtopbcdeamdplfaaW.PrintMore Go.Proofs.Ytopbcdeamdplfaa.Pack Go.Proofs.Ytopbcdeamdplfaa.PackOf

theorem works' {k : Nat} (hk : 30 ≤ k) : funicularlaw02_works.f k = some true := by
  have e1 : pack_Uint.f k [7] 300 = some [7, 172, 2] := uint (n := 300) (by decide) (by decide) (by omega)
  have e2 : pack_Int.f k [7, 172, 2] (-2) = some [7, 172, 2, 3] := int (by decide) (by decide) (by decide) (by omega)
  have e3 : pack_ReadUint.f k [172, 2, 3] = some (300, [3], 0) := readUint (b := [172, 2, 3]) (by unfold Bytes; decide) (by decide) (by omega)
  have e4 : pack_ReadInt.f k [3] = some (-2, [], 0) := readInt (b := [3]) (by unfold Bytes; decide) (by decide) (by omega)
  have e5 : pack_ReadBytes.f k [2, 5] = some ([], [], 5) := readBytes (b := [2, 5]) (by unfold Bytes; decide) (by decide) (by omega)
  have e6 : pack_Name.f (⟨#[97, 49]⟩ : ByteArray) = some true := by decide +kernel
  have e7 : pack_Name.f (⟨#[49, 97]⟩ : ByteArray) = some false := by decide +kernel
  rw [funicularlaw02_works.f, e1]
  simp only [Option.bind_some]
  rw [e2]
  simp only [Option.bind_some]
  rw [if_pos (by decide), if_pos (by decide)]
  rw [show ([7, 172, 2, 3] : List Int).drop 1 = [172, 2, 3] from rfl, e3]
  simp only [Option.bind_some]
  rw [e4]
  simp only [Option.bind_some]
  rw [e5]
  simp only [Option.bind_some]
  rw [if_pos trivial, if_pos trivial, if_pos trivial, if_pos (by decide), if_pos trivial, if_pos trivial, e6]
  simp only [Option.bind_some]
  rw [if_pos trivial, e7]; rfl
theorem same_f (a b : List Int) : funicularref02_Same.f a b = some ((strOfNums a).toList == (strOfNums b).toList) := rfl
theorem same_self (a : List Int) : funicularref02_Same.f a a = some true := by rw [same_f, beq_self_eq_true]

theorem PackCuts_pf : funicularlaw02_PackCuts.Pure := by
  intro n cut hn hcut
  have hn' : 0 ≤ n ∧ n < 18446744073709551616 := by
    simp [Lit.wf, IntKind.min, IntKind.max, IntKind.signed, IntKind.bits] at hn; omega
  obtain ⟨n, rfl⟩ : ∃ m : Nat, n = (m : Int) := ⟨n.toNat, by omega⟩
  refine ⟨100, ?_⟩
  have hl := enc_length n
  have hp := enc_pos n
  rw [funicularlaw02_PackCuts.f, uint (by omega) (by decide) (by decide), Option.bind_some, List.nil_append, if_neg (by omega), u64w (i := ((enc n).length : Int)) (by omega) (by omega), if_neg (by omega)]
  have hr : 0 ≤ IntKind.u64.wrap cut ∧ IntKind.u64.wrap cut < 18446744073709551616 := by rw [u64m]; omega
  generalize IntKind.u64.wrap cut = c at hr
  obtain ⟨i, hi, hi2⟩ : ∃ i : Nat, wrap64 (Int.tmod c ((enc n).length : Int)) = (i : Int) ∧ i < (enc n).length := by
    have e : Int.tmod c ((enc n).length : Int) = c % ((enc n).length : Int) := Int.tmod_eq_emod_of_nonneg hr.1
    have p0 := Int.emod_nonneg c (b := ((enc n).length : Int)) (by omega)
    have p1 := Int.emod_lt_of_pos c (b := ((enc n).length : Int)) (by omega)
    rw [e, w64 (by omega) (by omega)]
    exact ⟨(c % ((enc n).length : Int)).toNat, by omega, by omega⟩
  rw [hi, if_pos (by omega), if_pos (by omega), Int.toNat_natCast, readUint ((enc_bytes (by omega)).take i) (by simp only [List.length_take]; omega) (by decide), Option.bind_some, whole]
  have hc : rdu 0 ((enc n).take i) = (0, [], 5) := rdu_cut 9 0 n i rfl hi2
  rw [hc]
  dsimp only
  rw [if_pos rfl, works' (by decide)]; rfl

theorem rdb_bytes {b : List Int} (hb : Bytes b) : Bytes (rdb b).1 ∧ Bytes (rdb b).2.1 := by
  unfold rdb
  split
  · split
    · exact ⟨Bytes.nil, Bytes.nil⟩
    · exact ⟨(rdu_rest hb 0).take _, (rdu_rest hb 0).drop _⟩
  · exact ⟨Bytes.nil, Bytes.nil⟩
theorem rdb_enc {s : List Int} (hs : s.length < 18446744073709551616) (t : List Int) : rdb (enc s.length ++ s ++ t) = (s, t, 0) := by
  unfold rdb
  rw [List.append_assoc, rdu_enc hs]
  dsimp only
  rw [if_pos rfl, if_neg (by simp only [List.length_append]; omega)]
  simp
theorem rdb_once {b : List Int} (hb : Bytes b) (h : (rdb b).2.2 = 0) : enc (rdb b).1.length ++ (rdb b).1 ++ (rdb b).2.1 = b := by
  unfold rdb at h ⊢
  by_cases h1 : (rdu 0 b).2.2 = 0
  · rw [if_pos h1] at h ⊢
    by_cases h2 : (rdu 0 b).2.1.length < (rdu 0 b).1
    · rw [if_pos h2] at h; simp at h
    · rw [if_neg h2] at h ⊢
      dsimp only
      rw [List.length_take, Nat.min_eq_left (by omega), List.append_assoc, List.take_append_drop]
      exact rdu_enc_once hb h1
  · rw [if_neg h1] at h; exact absurd h h1

theorem PackBack_pf : funicularlaw02_PackBack.Pure := by
  intro n m s tail hn hm hs _ hbs ht _ hbt
  have hn' : 0 ≤ n ∧ n < 18446744073709551616 := by
    simp [Lit.wf, IntKind.min, IntKind.max, IntKind.signed, IntKind.bits] at hn; omega
  have hm' : -9223372036854775808 ≤ m ∧ m ≤ 9223372036854775807 := by
    simp [Lit.wf, IntKind.min, IntKind.max, IntKind.signed, IntKind.bits] at hm; omega
  obtain ⟨n, rfl⟩ : ∃ m : Nat, n = (m : Int) := ⟨n.toNat, by omega⟩
  replace hbs := bytes_of hbs
  replace hbt := bytes_of hbt
  refine ⟨101, ?_⟩
  have hw : ∀ d, d = true → funicularlaw02_PackBack.j0 101 (n : Int) m s tail d = some true := by
    intro d hd
    rw [funicularlaw02_PackBack.j0, if_pos hd, works' (by decide)]; rfl
  rw [funicularlaw02_PackBack.f]
  by_cases h1 : (s.length : Int) > 2000
  · rw [if_pos h1]; exact hw _ rfl
  rw [if_neg h1]
  by_cases h2 : (tail.length : Int) > 2000
  · exact hw _ (by simpa using h2)
  rw [funicularlaw02_PackBack.j0, if_neg (by simpa using h2)]
  have l1 := enc_length n
  have l2 := enc_length (zig m)
  have l3 := enc_length s.length
  have hz := zig_lt hm'.1 hm'.2
  have b1 := enc_bytes (n := n) (by omega)
  have b2 := enc_bytes hz
  have b3 := enc_bytes (n := s.length) (by omega)
  rw [uint (by omega) (by decide) (by decide), Option.bind_some, List.nil_append, int hm'.1 hm'.2 (by omega) (by decide)]
  simp only [Option.bind_some]
  rw [bytesP (by simp only [List.length_append]; omega) (by omega) (by decide)]
  simp only [Option.bind_some]
  rw [if_pos (by simp only [List.length_append]; omega)]
  have e : enc n ++ enc (zig m) ++ enc s.length ++ s ++ tail = enc n ++ (enc (zig m) ++ (enc s.length ++ s ++ tail)) := by simp only [List.append_assoc]
  have hB3 : Bytes (enc s.length ++ s ++ tail) := (b3.app hbs).app hbt
  rw [e, readUint (b1.app (b2.app hB3)) (by simp only [List.length_append]; omega) (by decide), whole, rdu_enc (by omega)]
  simp only [Option.bind_some]
  rw [readInt (b2.app hB3) (by simp only [List.length_append]; omega) (by decide), rdu_enc hz]
  simp only [Option.bind_some]
  rw [readBytes hB3 (by simp only [List.length_append]; omega) (by decide), rdb_enc (by omega)]
  simp only [Option.bind_some]
  rw [if_pos trivial, if_pos trivial, if_pos trivial, if_pos trivial, zag_zig, if_pos rfl, same_self]
  simp only [Option.bind_some]
  rw [if_pos trivial, same_self]
  simp only [Option.bind_some]
  rw [if_pos trivial, works' (by decide)]; rfl

theorem PackOnce_pf : funicularlaw02_PackOnce.Pure := by
  intro b hb _ hbb
  replace hbb := bytes_of hbb
  refine ⟨101, ?_⟩
  rw [funicularlaw02_PackOnce.f]
  by_cases h1 : (b.length : Int) > 2000
  · rw [if_pos h1, works' (by decide)]; rfl
  rw [if_neg h1, readUint hbb (by omega) (by decide), Option.bind_some, whole]
  dsimp only
  have hv := rdu_lt 0 b hbb (by decide)
  have hl := rdu_len 0 b
  have el := enc_length (rdu 0 b).1
  have j1 : ∀ d, d = false → funicularlaw02_PackOnce.j1 100 b d = some true := by
    intro d hd
    rw [funicularlaw02_PackOnce.j1, if_neg (by rw [hd]; decide), readBytes hbb (by omega) (by decide), Option.bind_some]
    have hbl : (rdb b).1.length + (rdb b).2.1.length ≤ b.length := by
      unfold rdb
      split
      · split
        · simp
        · simp only [List.length_take, List.length_drop]; omega
      · simp
    by_cases he : (rdb b).2.2 = 0
    · have e3 := enc_length (rdb b).1.length
      rw [if_pos he, bytesP (by decide) (by omega) (by decide), Option.bind_some, List.nil_append]
      rw [if_pos (by simp only [List.length_append]; omega), rdb_once hbb he, same_self]
      simp only [Option.bind_some]
      rw [if_pos trivial, works' (by decide)]; rfl
    · rw [if_neg he, works' (by decide)]; rfl
  have j0 : ∀ d, d = false → funicularlaw02_PackOnce.j0 101 b d = some true := by
    intro d hd
    rw [funicularlaw02_PackOnce.j0, if_neg (by rw [hd]; decide), readInt hbb (by omega) (by decide), Option.bind_some]
    dsimp only
    by_cases he : (rdu 0 b).2.2 = 0
    · have hz := zag_range (n := (rdu 0 b).1) (by omega)
      rw [if_pos he, int hz.1 hz.2 (by decide) (by decide), Option.bind_some, List.nil_append, zig_zag, if_pos (by omega), rdu_enc_once hbb he, same_self, Option.bind_some]
      exact j1 _ rfl
    · rw [if_neg he]; exact j1 _ rfl
  by_cases he : (rdu 0 b).2.2 = 0
  · rw [if_pos he, uint (by omega) (by decide) (by decide), Option.bind_some, List.nil_append, if_pos (by omega), rdu_enc_once hbb he, same_self, Option.bind_some]
    exact j0 _ rfl
  · rw [if_neg he]; exact j0 _ rfl
end Go.Proofs.Ytopbcdeamdplfaa.Pure
