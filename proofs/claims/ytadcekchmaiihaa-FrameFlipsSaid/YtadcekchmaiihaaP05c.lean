/- Records, torn and turned: the laws. -/
import Derived.Test.YtadcekchmaiihaaP05b
namespace Go.Proofs.Ytadcekchmaiihaa.PE
set_option linter.unusedVariables false
open Go Go.RowKit Go.Proofs.Ytadcekchmaiihaa.Crc
theorem light_l0 {l : List (List Int)} (hl : l.length ≤ 60) (hr : ∀ r ∈ l, r.length ≤ 140737488355328) : ∀ (q : List (List Int)) (i s : Nat), l.drop i = q → s ≤ 600 → ∃ c, law05_light_l0 l (s : Int) (i : Int) = some c ∧ (c = true → s + tot q ≤ 600) := by
  intro q
  induction q with
  | nil =>
    intro i s hd hs
    have := at_nil hd
    rw [law05_light_l0_eq, ilen_eq, Bool.cond_decide, if_neg (by omega)]
    exact ⟨_, rfl, fun _ => by simpa [tot] using hs⟩
  | cons r q ih =>
    intro i s hd hs
    obtain ⟨h1, h2, h3⟩ := at_drop hd
    have hx := hr r (List.mem_of_getElem? h2)
    rw [law05_light_l0_eq, ilen_eq, Bool.cond_decide, if_pos (by omega), Bool.cond_decide, if_pos (by omega), Int.toNat_natCast, h2, Option.bind_some, ilen_eq, show IntKind.i64.wrap ((s : Int) + (r.length : Int)) = ((s + r.length : Nat) : Int) by rw [wrap_i64 (by omega) (by omega)]; omega, Bool.cond_decide]
    by_cases hc : ((s + r.length : Nat) : Int) > 600
    · rw [if_pos hc]; exact ⟨_, rfl, fun h => (by cases h)⟩
    · rw [if_neg hc, wrap_succ (by omega)]
      obtain ⟨c, k1, k2⟩ := ih (i + 1) (s + r.length) h3 (by omega)
      exact ⟨c, k1, fun h => by have := k2 h; rw [tot]; omega⟩
theorem lite_spec {l : List (List Int)} (hr : ∀ r ∈ l, r.length ≤ 140737488355328) : ∃ c, law05_light l = some c ∧ (c = true → l.length ≤ 60 ∧ tot l ≤ 600) := by
  rw [law05_light_eq, ilen_eq, Bool.cond_decide]
  by_cases h : (l.length : Int) > 60
  · rw [if_pos h]; exact ⟨_, rfl, fun h => (by cases h)⟩
  · rw [if_neg h]
    obtain ⟨c, k1, k2⟩ := light_l0 (by omega) hr l 0 0 rfl (by omega)
    exact ⟨c, k1, fun h => ⟨by omega, by have := k2 h; omega⟩⟩
theorem written_l0 {l : List (List Int)} (hl : l.length ≤ 1000) (hr : ∀ r ∈ l, Bytes r ∧ r.length ≤ 100000) : ∀ (q : List (List Int)) (i : Nat) (acc : List Int), l.drop i = q → acc.length + (cat q).length ≤ 100000000 → law05_written_l0 l (i : Int) acc = some (acc ++ cat q) := by
  intro q
  induction q with
  | nil =>
    intro i acc hd _
    have := at_nil hd
    rw [law05_written_l0_eq, ilen_eq, Bool.cond_decide, if_neg (by omega), cat, List.append_nil]
  | cons r q ih =>
    intro i acc hd ha
    obtain ⟨h1, h2, h3⟩ := at_drop hd
    obtain ⟨b1, b2⟩ := hr r (List.mem_of_getElem? h2)
    rw [cat, List.length_append, rec_length] at ha
    rw [law05_written_l0_eq, ilen_eq, Bool.cond_decide, if_pos (by omega), Bool.cond_decide, if_pos (by omega), Int.toNat_natCast, h2, Option.bind_some, Put_spec b1 b2 (by omega), Option.bind_some, wrap_succ (by omega),
      ih (i + 1) _ h3 (by rw [List.length_append, rec_length]; omega), cat, List.append_assoc]
theorem written_spec {l : List (List Int)} (hl : l.length ≤ 1000) (hr : ∀ r ∈ l, Bytes r ∧ r.length ≤ 100000) (hc : (cat l).length ≤ 100000000) : law05_written l = some (cat l) := by
  rw [law05_written_eq]
  exact written_l0 hl hr l 0 [] rfl (by simpa using hc)
theorem all_l0 {l : List (List Int)} (hl : l.length ≤ 1000000) : ∀ (q : List (List Int)) (i : Nat), l.drop i = q → ref05_SameAll_l0 l l (i : Int) = some true := by
  intro q
  induction q with
  | nil =>
    intro i hd
    have := at_nil hd
    rw [ref05_SameAll_l0_eq, ilen_eq, Bool.cond_decide, if_neg (by omega)]
  | cons r q ih =>
    intro i hd
    obtain ⟨h1, h2, h3⟩ := at_drop hd
    rw [ref05_SameAll_l0_eq, ilen_eq, Bool.cond_decide, if_pos (by omega), Bool.cond_decide, if_pos (by omega), Int.toNat_natCast, h2, Option.bind_some, Bool.cond_decide, if_pos (by omega), Option.bind_some, beq_self_eq_true, Bool.not_true, cond_false, wrap_succ (by omega)]
    exact ih (i + 1) h3
theorem all_self {l : List (List Int)} (hl : l.length ≤ 1000000) : ref05_SameAll l l = some true := by
  rw [ref05_SameAll_eq, bne_self_eq_false, cond_false]; exact all_l0 hl _ 0 rfl
theorem same_self (t : List Int) : ref02_Same t t = some true := by rw [ref02_Same_eq, beq_self_eq_true]
theorem b12 : Bytes [1, 2] := fun x h => by
  rcases List.mem_cons.mp h with rfl | h
  · decide
  · rw [List.mem_singleton] at h; subst h; decide
theorem works05 : law05_works = some true := by
  have e : rec_ [1, 2] ++ rec_ [] = cat [[1, 2], []] := by rw [cat, cat, cat, List.append_nil]
  have l18 : (cat [[1, 2], []]).length = 18 := by rw [cat_length]; rfl
  have hb : ∀ r ∈ ([[1, 2], []] : List (List Int)), Bytes r ∧ r.length < 4294967296 := fun r h => by
    rcases List.mem_cons.mp h with rfl | h
    · exact ⟨b12, by decide⟩
    · rw [List.mem_singleton] at h; subst h; exact ⟨b_nil, by decide⟩
  have hs : frame_Scan (cat [[1, 2], []] ++ [9]) = some ([[1, 2], []], 18) := by
    rw [scan_spec (f := 5) (b_app (cat_bytes fun r h => (hb r h).1) (fun x h => by rw [List.mem_singleton] at h; subst h; decide)) (by rw [List.length_append, l18]; decide) (by rw [List.length_append, l18]; decide) (by decide),
      show (5 : Nat) = 3 + [[(1 : Int), 2], []].length from rfl, scn_cat [9] 3 _ hb, scn_none (step_short (by decide)), l18]
    rfl
  rw [law05_works_eq, Put_spec b12 (by decide) (by decide), Option.bind_some, List.nil_append, Put_spec b_nil (by decide) (by rw [rec_length]; decide), Option.bind_some, e, show (cat [[1, 2], []]).length.ble (cat [[1, 2], []]).length = true from Nat.ble_self_eq_true _, cond_true, List.take_length,
    Bool.cond_decide, if_pos (show _ ≤ room by simp only [ilen_eq, room_eq, l18]; decide), hs, Option.bind_some, l18]
  show ((ref02_Same [1, 2] [1, 2]).bind fun val18 => bif val18 then (([[1, 2], []] : List (List Int))[Int.toNat 1]?).bind fun val22 => some (ilen val22 == 0) else some false) = some true
  rw [same_self]; rfl
theorem tears_law (l : List (List Int)) (x1 : Int) (hr : ∀ r ∈ l, Bytes r ∧ r.length ≤ 140737488355328) : law05_FrameTears l x1 = some true := by
  obtain ⟨c, hc, hl⟩ := lite_spec (l := l) fun r h => (hr r h).2
  rw [law05_FrameTears_eq, hc, Option.bind_some, works05]
  cases c with
  | false => rfl
  | true =>
    obtain ⟨l1, l2⟩ := hl rfl
    have hm : ∀ r ∈ l, Bytes r ∧ r.length ≤ 600 := fun r h => ⟨(hr r h).1, by have := tot_mem h; omega⟩
    have hlen := cat_length l
    rw [Bool.not_true, cond_false, written_spec (by omega) (fun r h => ⟨(hm r h).1, by have := (hm r h).2; omega⟩) (by omega), Option.bind_some]
    have m1 := Int.emod_nonneg x1 (show (18446744073709551616 : Int) ≠ 0 by decide)
    have k1 := Int.emod_nonneg (x1 % 18446744073709551616) (show (((cat l).length : Nat) : Int) + 1 ≠ 0 by omega)
    have k2 := Int.emod_lt_of_pos (x1 % 18446744073709551616) (show (0 : Int) < (((cat l).length : Nat) : Int) + 1 by omega)
    rw [show IntKind.u64.wrap (IntKind.i64.wrap (ilen (cat l) + 1)) = ((cat l).length : Int) + 1 by rw [ilen_eq, wrap_i64 (by omega) (by omega), wrap_u64 (by omega) (by omega)], wrap_u64' (x := x1), Int.tmod_eq_emod_of_nonneg m1,
      wrap_i64 (x := x1 % 18446744073709551616 % (((cat l).length : Int) + 1)) (by omega) (by omega)]
    obtain ⟨k, hk⟩ : ∃ k : Nat, x1 % 18446744073709551616 % (((cat l).length : Int) + 1) = (k : Int) := ⟨(x1 % 18446744073709551616 % (((cat l).length : Int) + 1)).toNat, by omega⟩
    rw [hk] at k1 k2 ⊢
    obtain ⟨j, j1, j2, j3, j4, j5⟩ := scn_torn l k 200 (fun r h => ⟨(hm r h).1, by have := (hm r h).2; omega⟩) (by omega) (by omega)
    have hs : frame_Scan ((cat l).take k) = some (l.take j, (((cat (l.take j)).length : Nat) : Int)) := by
      rw [scan_spec (f := 200) (b_take (cat_bytes fun r h => (hm r h).1) k) (by rw [List.length_take]; omega) (by rw [List.length_take]; omega) (by decide), j2]
    have lj : (l.take j).length = j := by rw [List.length_take]; omega
    rw [Bool.cond_decide, if_neg (by omega), Bool.cond_decide, if_pos k1, Bool.cond_decide, if_pos (by rw [ilen_eq]; omega), Int.toNat_natCast, show (Int.toNat 0 + (k - Int.toNat 0)).ble (cat l).length = true from Nat.ble_eq.mpr (by show 0 + (k - 0) ≤ _; omega), cond_true,
      show List.take (k - Int.toNat 0) (List.drop (Int.toNat 0) (cat l)) = (cat l).take k from rfl, hs, Option.bind_some]
    dsimp only
    rw [Bool.cond_decide, if_neg (by omega), Bool.cond_decide, ilen_eq, ilen_eq, ilen_eq, lj, if_neg (by omega), Bool.cond_decide, if_pos (by omega), Bool.cond_decide, if_pos (by omega), Int.toNat_natCast, show List.drop (Int.toNat 0) (l.take j) = l.take j from rfl, all_self (by omega), Option.bind_some, Bool.not_true, cond_false,
      written_spec (by omega) (fun r h => ⟨(hm r (List.mem_of_mem_take h)).1, by have := (hm r (List.mem_of_mem_take h)).2; omega⟩) (by omega), Option.bind_some, Bool.cond_decide, if_pos (by omega), Bool.cond_decide, if_pos (by omega), Int.toNat_natCast,
      show (Int.toNat 0 + ((cat (l.take j)).length - Int.toNat 0)).ble (cat l).length = true from Nat.ble_eq.mpr (by show 0 + ((cat (l.take j)).length - 0) ≤ _; omega), cond_true,
      show List.take ((cat (l.take j)).length - Int.toNat 0) (List.drop (Int.toNat 0) (cat l)) = (cat l).take (cat (l.take j)).length from rfl, j4, same_self, Option.bind_some, Bool.not_true, cond_false]
    rcases j5 with j5 | ⟨r, j5, j6⟩
    · rw [beq_yes (by omega), cond_true]; rfl
    · by_cases hj : j = l.length
      · rw [beq_yes (by omega), cond_true]; rfl
      · have hr2 := (hm r (List.mem_of_getElem? j5)).2
        rw [beq_no (by omega), cond_false, Bool.cond_decide, if_pos (by omega), j5, Option.bind_some, ilen_eq, Bool.cond_decide, wrap_i64 (x := (((cat (l.take j)).length : Nat) : Int) + 8) (by omega) (by omega), wrap_i64 (by omega) (by omega), if_pos (by omega)]
        rfl
end Go.Proofs.Ytadcekchmaiihaa.PE
