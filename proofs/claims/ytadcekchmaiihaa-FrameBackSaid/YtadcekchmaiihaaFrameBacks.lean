import Derived.Test.YtadcekchmaiihaaFrameScans
namespace Go.Proofs.Ytadcekchmaiihaa.FrameOf
open Go Go.RowKit Go.Proofs.Ytadcekchmaiihaa.PA Go.Proofs.YtadcekchmaiihaaW.PrintWords Go.Proofs.YtadcekchmaiihaaW.PrintLast Go.Proofs.YtadcekchmaiihaaW.PrintMore Go.Proofs.Ytadcekchmaiihaa.Crc Go.Proofs.Ytadcekchmaiihaa.CrcOf Go.Proofs.Ytadcekchmaiihaa.Frame Go.Proofs.Ytadcekchmaiihaa.Pure
/-- How long some records are together; what they are when written. -/
def tot : List (List Int) → Nat
  | [] => 0
  | r :: t => r.length + tot t
def cat : List (List Int) → List Int
  | [] => []
  | r :: t => enc r ++ cat t
theorem cat_length : ∀ l, (cat l).length = 8 * l.length + tot l
  | [] => rfl
  | r :: t => by rw [cat, tot, List.length_append, enc_length, List.length_cons, cat_length t]; omega
theorem cat_bytes : ∀ {l}, (∀ r ∈ l, Bytes r) → Bytes (cat l)
  | [], _ => b_nil
  | r :: t, h => b_app (enc_bytes (h r (by simp))) (cat_bytes fun q hq => h q (by simp [hq]))
theorem tot_mem : ∀ {l : List (List Int)} {r}, r ∈ l → r.length ≤ tot l
  | q :: t, r, h => by
    rw [tot]
    rcases List.mem_cons.mp h with e | e
    · subst e; omega
    · have := tot_mem e; omega
theorem scn_cat (t : List Int) (f : Nat) : ∀ l : List (List Int), (∀ r ∈ l, Bytes r ∧ r.length < 4294967296) → scn (f + l.length) (cat l ++ t) = (l ++ (scn f t).1, (cat l).length + (scn f t).2)
  | [], _ => by simp [cat]
  | r :: q, h => by
    have h1 := h r (by simp)
    have h2 := scn_cat t f q (fun x hx => h x (by simp [hx]))
    rw [cat, List.append_assoc, List.length_cons, show f + (q.length + 1) = (f + q.length) + 1 by omega, scn_enc h1.1 h1.2, h2, List.length_append, enc_length]
    simp only [List.cons_append, Nat.add_assoc]
theorem rdL {l : List (List Int)} {i : Nat} (h : i < l.length) : rd_L1 l (i : Int) = l[i] := by
  rw [rd_L1, Int.toNat_natCast, List.getD_eq_getElem?_getD, List.getElem?_eq_getElem h]; rfl
theorem light_l0 (d : Nat) : ∀ (k : Nat) (l : List (List Int)) (s i : Nat), l.length = i + d → l.length ≤ 60 → s ≤ 600 → (∀ r ∈ l, r.length ≤ 9000000000000000000) → d + 1 ≤ k →
    ∃ c, funicularlaw05_light.l0 k l (s : Int) (i : Int) = some c ∧ (c = true → s + tot (l.drop i) ≤ 600) := by
  induction d with
  | zero =>
    intro k l s i hl hm hs hr hk
    obtain ⟨k, rfl⟩ : ∃ m, k = m + 1 := ⟨k - 1, by omega⟩
    rw [funicularlaw05_light.l0, if_neg (by omega)]
    exact ⟨true, rfl, fun _ => by rw [List.drop_eq_nil_of_le (by omega), tot]; omega⟩
  | succ d ih =>
    intro k l s i hl hm hs hr hk
    obtain ⟨k, rfl⟩ : ∃ m, k = m + 1 := ⟨k - 1, by omega⟩
    have hlt : i < l.length := by omega
    have h1 := hr _ (List.getElem_mem hlt)
    have hd := List.drop_eq_getElem_cons hlt
    rw [funicularlaw05_light.l0, if_pos (by omega), if_pos (by omega), rdL hlt, hd, tot]
    generalize l[i].length = m at h1 ⊢
    have w1 : wrap64 ((s : Int) + (m : Int)) = ((s + m : Nat) : Int) := by rw [w64 (by omega) (by omega)]; omega
    have w2 : wrap64 ((i : Int) + 1) = ((i + 1 : Nat) : Int) := by rw [w64 (by omega) (by omega)]; omega
    rw [w1, w2]
    clear w1 w2 hd
    by_cases h : ((s + m : Nat) : Int) > 600
    · rw [if_pos h]; exact ⟨false, rfl, fun h => by cases h⟩
    · rw [if_neg h]
      obtain ⟨c, e, hc⟩ := ih k l (s + m) (i + 1) (by omega) hm (by omega) hr (by omega)
      exact ⟨c, e, fun q => by have := hc q; omega⟩
theorem light_f {k : Nat} {l : List (List Int)} (hr : ∀ r ∈ l, r.length ≤ 9000000000000000000) (hk : 100 ≤ k) : ∃ c, funicularlaw05_light.f k l = some c ∧ (c = true → l.length ≤ 60 ∧ tot l ≤ 600) := by
  rw [funicularlaw05_light.f]
  by_cases h : (l.length : Int) > 60
  · rw [if_pos h]; exact ⟨false, rfl, fun h => by cases h⟩
  · rw [if_neg h]
    obtain ⟨c, e, hc⟩ := light_l0 l.length k l 0 0 (by omega) (by omega) (by omega) hr (by omega)
    exact ⟨c, e, fun q => ⟨by omega, by have := hc q; simpa using this⟩⟩
theorem written_l0 (d : Nat) : ∀ (k : Nat) (l : List (List Int)) (acc : List Int) (i : Nat), l.length = i + d → l.length ≤ 100 → (∀ r ∈ l, Bytes r ∧ r.length ≤ 100000) → acc.length ≤ 1000000 + 100008 * i → 1000100 + d ≤ k →
    funicularlaw05_written.l0 k l acc (i : Int) = some (acc ++ cat (l.drop i)) := by
  induction d with
  | zero =>
    intro k l acc i hl hm hr ha hk
    obtain ⟨k, rfl⟩ : ∃ m, k = m + 1 := ⟨k - 1, by omega⟩
    rw [funicularlaw05_written.l0, if_neg (by omega), List.drop_eq_nil_of_le (by omega), cat, List.append_nil]
  | succ d ih =>
    intro k l acc i hl hm hr ha hk
    obtain ⟨k, rfl⟩ : ∃ m, k = m + 1 := ⟨k - 1, by omega⟩
    have hlt : i < l.length := by omega
    have h1 := hr _ (List.getElem_mem hlt)
    have hd := List.drop_eq_getElem_cons hlt
    have w2 : wrap64 ((i : Int) + 1) = ((i + 1 : Nat) : Int) := by rw [w64 (by omega) (by omega)]; omega
    rw [funicularlaw05_written.l0, if_pos (by omega), if_pos (by omega), rdL hlt, w2]
    clear w2
    rw [Put_f h1.1 h1.2 (by omega) (by omega), Option.bind_some, ih k l _ (i + 1) (by omega) hm hr (by rw [List.length_append, enc_length]; omega) (by omega), hd, cat, List.append_assoc]
theorem written_f {k : Nat} {l : List (List Int)} (hm : l.length ≤ 100) (hr : ∀ r ∈ l, Bytes r ∧ r.length ≤ 100000) (hk : 1000200 ≤ k) : funicularlaw05_written.f k l = some (cat l) := by
  have := written_l0 l.length k l [] 0 (by omega) hm hr (by simp) (by omega)
  rw [funicularlaw05_written.f]
  simpa using this
attribute [local irreducible] Frame.scn Frame.step Frame.sum
theorem back {l : List (List Int)} (hr : ∀ r ∈ l, Bytes r ∧ r.length ≤ 9000000000000000000) : ∃ k, funicularlaw05_FrameBack.f k l = some true := by
  refine ⟨2000000, ?_⟩
  obtain ⟨c, e, hc⟩ := light_f (k := 2000000) (fun r h => (hr r h).2) (by decide)
  rw [funicularlaw05_FrameBack.f, e, Option.bind_some]
  cases c with
  | false => rw [if_neg (by decide), FrameOf.works' (by omega)]; rfl
  | true =>
    obtain ⟨h1, h2⟩ := hc rfl
    have hr2 : ∀ r ∈ l, Bytes r ∧ r.length ≤ 100000 := fun r h => ⟨(hr r h).1, by have := tot_mem h; omega⟩
    have hl := cat_length l
    have hs := scn_cat [] (200 - l.length) l (fun r h => ⟨(hr2 r h).1, by have := (hr2 r h).2; omega⟩)
    rw [List.append_nil, scn_short (b := []) (by decide), List.append_nil, show 200 - l.length + l.length = 200 by omega] at hs
    rw [if_pos rfl, written_f (by omega) hr2 (by omega), Option.bind_some, scan_f (f := 200) (cat_bytes fun r h => (hr r h).1) (by omega) (by omega) (by omega) (by omega), Option.bind_some, hs]
    simp only
    rw [if_pos (by omega), all_f _ (by omega) (by omega), Option.bind_some, if_pos rfl, FrameOf.works' (by omega)]
    rfl
end Go.Proofs.Ytadcekchmaiihaa.FrameOf
