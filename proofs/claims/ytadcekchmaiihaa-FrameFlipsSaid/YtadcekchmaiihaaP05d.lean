/- A byte turned: the law. -/
import Derived.Test.YtadcekchmaiihaaP05c
namespace Go.Proofs.Ytadcekchmaiihaa.PE
set_option linter.unusedVariables false
open Go Go.RowKit Go.Proofs.Ytadcekchmaiihaa.Crc
theorem cat_split {l : List (List Int)} {w : Nat} {r : List Int} (hw : l[w]? = some r) : (cat l).length = (cat (l.take w)).length + (8 + r.length + (cat (l.drop (w + 1))).length) := by
  have hlt : w < l.length := by
    rcases Nat.lt_or_ge w l.length with h1 | h1
    · exact h1
    · rw [List.getElem?_eq_none h1] at hw; cases hw
  have hsplit : l = l.take w ++ r :: l.drop (w + 1) := by
    rw [List.getElem?_eq_getElem hlt] at hw
    rw [← Option.some.inj hw, ← List.drop_eq_getElem_cons hlt, List.take_append_drop]
  conv => lhs; rw [hsplit]
  rw [cat_app, cat, List.length_append, List.length_append, rec_length]
theorem xor_turn {x y : Nat} (hy : y ≠ 0) : x ^^^ y ≠ x := fun h => hy (by
  have := congrArg (fun z => x ^^^ z) h
  simpa [← Nat.xor_assoc] using this)
theorem flips_law (l : List (List Int)) (x1 x2 x3 : Int) (hr : ∀ r ∈ l, Bytes r ∧ r.length ≤ 140737488355328) (h3 : 0 ≤ x3 ∧ x3 ≤ 255) : law05_FrameFlips l x1 x2 x3 = some true := by
  obtain ⟨c, hc, hl⟩ := lite_spec (l := l) fun r h => (hr r h).2
  rw [law05_FrameFlips_eq, hc, Option.bind_some, works05]
  cases c with
  | false => rfl
  | true =>
    obtain ⟨l1, l2⟩ := hl rfl
    have hm : ∀ r ∈ l, Bytes r ∧ r.length ≤ 600 := fun r h => ⟨(hr r h).1, by have := tot_mem h; omega⟩
    have hlen := cat_length l
    rw [Bool.not_true, cond_false, ilen_eq]
    by_cases h0 : l.length = 0
    · rw [beq_yes (by omega), cond_true]; rfl
    rw [beq_no (by omega), cond_false]
    by_cases hx3 : x3 = 0
    · rw [beq_yes hx3, cond_true]; rfl
    rw [beq_no hx3, cond_false, Bool.cond_decide, wrap_u64 (x := (l.length : Int)) (by omega) (by omega), if_neg (by omega)]
    have m1 := Int.emod_nonneg x1 (show (18446744073709551616 : Int) ≠ 0 by decide)
    have k1 := Int.emod_nonneg (x1 % 18446744073709551616) (show ((l.length : Nat) : Int) ≠ 0 by omega)
    have k2 := Int.emod_lt_of_pos (x1 % 18446744073709551616) (show (0 : Int) < ((l.length : Nat) : Int) by omega)
    rw [wrap_u64' (x := x1), Int.tmod_eq_emod_of_nonneg m1, wrap_i64 (x := x1 % 18446744073709551616 % (l.length : Int)) (by omega) (by omega)]
    obtain ⟨w, hw⟩ : ∃ w : Nat, x1 % 18446744073709551616 % (l.length : Int) = (w : Int) := ⟨(x1 % 18446744073709551616 % (l.length : Int)).toNat, by omega⟩
    rw [hw] at k1 k2 ⊢
    have hwl : w < l.length := by omega
    have hgr : l[w]? = some l[w] := List.getElem?_eq_getElem hwl
    have hsp := cat_split hgr
    obtain ⟨rb, rl⟩ := hm _ (List.getElem_mem hwl)
    generalize l[w] = r at hgr hsp rb rl
    have ht : law05_written (l.take w) = some (cat (l.take w)) := written_spec (by rw [List.length_take]; omega) (fun r h => ⟨(hm r (List.mem_of_mem_take h)).1, by have := (hm r (List.mem_of_mem_take h)).2; omega⟩) (by omega)
    rw [Bool.cond_decide, if_pos k1, Bool.cond_decide, if_pos (by omega), Int.toNat_natCast, show List.drop (Int.toNat 0) (l.take w) = l.take w from rfl, ht, Option.bind_some, written_spec (by omega) (fun r h => ⟨(hm r h).1, by have := (hm r h).2; omega⟩) (by omega), Option.bind_some,
      Bool.cond_decide, if_pos k1, hgr, Option.bind_some, ilen_eq, ilen_eq, ilen_eq]
    have m2 := Int.emod_nonneg x2 (show (18446744073709551616 : Int) ≠ 0 by decide)
    have n1 := Int.emod_nonneg (x2 % 18446744073709551616) (show (4 : Int) + ((r.length : Nat) : Int) ≠ 0 by omega)
    have n2 := Int.emod_lt_of_pos (x2 % 18446744073709551616) (show (0 : Int) < 4 + ((r.length : Nat) : Int) by omega)
    have e0 : IntKind.u64.wrap (IntKind.i64.wrap (4 + (r.length : Int))) = 4 + (r.length : Int) := by rw [wrap_i64 (by omega) (by omega), wrap_u64 (by omega) (by omega)]
    rw [e0, wrap_u64' (x := x2), Int.tmod_eq_emod_of_nonneg m2]
    obtain ⟨j, hj⟩ : ∃ j : Nat, x2 % 18446744073709551616 % (4 + (r.length : Int)) = (j : Int) := ⟨(x2 % 18446744073709551616 % (4 + (r.length : Int))).toNat, by omega⟩
    rw [hj] at n1 n2 ⊢
    have e1 : IntKind.i64.wrap (IntKind.i64.wrap (((cat (l.take w)).length : Int) + 4) + IntKind.i64.wrap (j : Int)) = (((cat (l.take w)).length + 4 + j : Nat) : Int) := by
      rw [wrap_i64 (x := ((cat (l.take w)).length : Int) + 4) (by omega) (by omega), wrap_i64 (x := (j : Int)) (by omega) (by omega), wrap_i64 (by omega) (by omega)]; omega
    rw [e1, Bool.cond_decide, if_neg (by omega), Bool.cond_decide, if_neg (by omega), Bool.cond_decide, if_pos (show _ ≤ room by simp only [room_eq]; omega), List.nil_append, ilen_eq, Bool.cond_decide, if_pos (by omega), Bool.cond_decide, if_pos (by omega), Int.toNat_natCast]
    have hk : (cat (l.take w)).length + 4 + j < (cat l).length := by omega
    rw [List.getElem?_eq_getElem hk, Option.bind_some, Bool.cond_decide, if_pos (by omega), Bool.cond_decide, if_pos (by omega), Option.bind_some]
    have hbv := cat_bytes (fun r h => (hm r h).1) _ (List.getElem_mem hk)
    obtain ⟨u, hu, hu2⟩ := nat_of hbv
    obtain ⟨y, hy, hy2⟩ := nat_of (x := x3) (by omega)
    have hne : u ^^^ y ≠ u := xor_turn (by omega)
    have hlt : u ^^^ y < 256 := Nat.xor_lt_two_pow (n := 8) hu2 hy2
    have ev : IntKind.u8.wrap ((BitVec.ofInt IntKind.u8.bits (cat l)[(cat (l.take w)).length + 4 + j] ^^^ BitVec.ofInt IntKind.u8.bits x3).toNat : Int) = ((u ^^^ y : Nat) : Int) := by rw [bits_xor, hu, hy, bx8 hu2 hy2]
    rw [ev]
    have hfl := scn_flip (l := l) (fun r h => ⟨(hm r h).1, by have := (hm r h).2; omega⟩) hgr (j := j) (by omega) (v := ((u ^^^ y : Nat) : Int)) ⟨by omega, by omega⟩ (by rw [List.getElem?_eq_getElem hk, hu]; intro h; exact hne (by have := Option.some.inj h; omega)) (f := 200) (by omega)
    have hbs : Bytes ((cat l).set ((cat (l.take w)).length + 4 + j) ((u ^^^ y : Nat) : Int)) := fun x hx => by
      rcases List.mem_or_eq_of_mem_set hx with hx | rfl
      · exact cat_bytes (fun r h => (hm r h).1) x hx
      · exact ⟨by omega, by omega⟩
    rw [scan_spec (f := 200) hbs (by rw [List.length_set]; omega) (by rw [List.length_set]; omega) (by decide), hfl, Option.bind_some]
    dsimp only
    rw [beq_self_eq_true, cond_true, Bool.cond_decide, if_pos k1, Bool.cond_decide, if_pos (by omega), all_self (by rw [List.length_take]; omega)]
    rfl
end Go.Proofs.Ytadcekchmaiihaa.PE
