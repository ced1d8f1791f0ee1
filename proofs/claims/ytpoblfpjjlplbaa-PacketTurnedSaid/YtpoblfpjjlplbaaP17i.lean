/- A packet of which some bytes within four side by side were turned is none. -/
import Derived.Test.YtpoblfpjjlplbaaP17h
namespace Go.Proofs.Ytpoblfpjjlplbaa.PE
set_option linter.unusedVariables false
open Go Go.RowKit Go.Proofs.Ytpoblfpjjlplbaa.Crc
theorem run_diff (s d : Nat) (b : List Int) : run (s ^^^ d) b = run s b ^^^ stn (8 * b.length) d := by
  induction b generalizing s d with
  | nil => rfl
  | cons c b ih =>
    rw [run_cons, run_cons, List.length_cons, show 8 * (b.length + 1) = 8 + 8 * b.length by omega, stn_add, ← ih]
    congr 1
    have := byt_xor s d c.toNat 0
    rw [Nat.xor_zero] at this
    rw [this]
    simp [byt]
/-- Four bytes turned. -/
theorem run_turned (s y : Nat) (pre post : List Int) (x0 x1 x2 x3 : Nat) (hy : y < 4294967296) :
    run s (pre ++ (((x0 ^^^ (y % 256) : Nat) : Int) :: ((x1 ^^^ (y / 256 % 256) : Nat) : Int) :: ((x2 ^^^ (y / 65536 % 256) : Nat) : Int) :: ((x3 ^^^ (y / 16777216 % 256) : Nat) : Int) :: post)) =
      run s (pre ++ ((x0 : Int) :: (x1 : Int) :: (x2 : Int) :: (x3 : Int) :: post)) ^^^ stn (8 * post.length) (stn 32 y) := by
  rw [run_append, run_append]
  generalize run s pre = R
  have e : ∀ a0 a1 a2 a3 : Int, run R (a0 :: a1 :: a2 :: a3 :: post) = run (run R [a0, a1, a2, a3]) post := fun a0 a1 a2 a3 => run_append R [a0, a1, a2, a3] post
  rw [e, e, ← run_diff]
  congr 1
  have hb := run_blend R 0 [(x0 : Int), (x1 : Int), (x2 : Int), (x3 : Int)] [((y % 256 : Nat) : Int), ((y / 256 % 256 : Nat) : Int), ((y / 65536 % 256 : Nat) : Int), ((y / 16777216 % 256 : Nat) : Int)] rfl
  rw [Nat.xor_zero] at hb
  simp only [blend, Int.toNat_natCast] at hb
  have e2 : y % 256 + 256 * (y / 256 % 256 + 256 * (y / 65536 % 256 + 256 * (y / 16777216 % 256))) = y := by omega
  have h4 := run_four 0 (y % 256) (y / 256 % 256) (y / 65536 % 256) (y / 16777216 % 256) (Nat.mod_lt _ (by decide)) (Nat.mod_lt _ (by decide)) (Nat.mod_lt _ (by decide)) (Nat.mod_lt _ (by decide))
  rw [Nat.zero_xor, e2] at h4
  rw [hb, h4]
theorem split4 {b : List Int} {k : Nat} (hb : Bytes b) (h : k + 4 ≤ b.length) : ∃ (pre post : List Int) (x0 x1 x2 x3 : Nat), pre.length = k ∧ x0 < 256 ∧ x1 < 256 ∧ x2 < 256 ∧ x3 < 256 ∧
    b = pre ++ ((x0 : Int) :: (x1 : Int) :: (x2 : Int) :: (x3 : Int) :: post) := by
  have f : ∀ i, i < b.length → ∃ x : Nat, x < 256 ∧ b[i]? = some (x : Int) := fun i hi => by
    have hx := hb _ (List.getElem_mem hi)
    exact ⟨b[i].toNat, by omega, by rw [List.getElem?_eq_getElem hi]; congr 1; omega⟩
  obtain ⟨x0, h0, e0⟩ := f k (by omega)
  obtain ⟨x1, h1, e1⟩ := f (k + 1) (by omega)
  obtain ⟨x2, h2, e2⟩ := f (k + 2) (by omega)
  obtain ⟨x3, h3, e3⟩ := f (k + 3) (by omega)
  refine ⟨b.take k, b.drop (k + 4), x0, x1, x2, x3, by simp; omega, h0, h1, h2, h3, ?_⟩
  have d : ∀ (i : Nat) (x : Int), b[i]? = some x → b.drop i = x :: b.drop (i + 1) := fun i x hx => by
    obtain ⟨hi, hx⟩ := List.getElem?_eq_some_iff.mp hx
    rw [List.drop_eq_getElem_cons hi, hx]
  rw [← d _ _ e3, ← d _ _ e2, ← d _ _ e1, ← d _ _ e0, List.take_append_drop]
/-- A text with its sum behind has always the same register. -/
theorem run_sealed {c : List Int} (hc : Bytes c) : run M (sealed c) = stn 32 M := by
  have hs := sumv_lt hc
  have e : sealed c = c ++ [((sumv c % 256 : Nat) : Int), ((sumv c / 256 % 256 : Nat) : Int), ((sumv c / 65536 % 256 : Nat) : Int), ((sumv c / 16777216 % 256 : Nat) : Int)] := rfl
  rw [e, run_append, run_four _ _ _ _ _ (Nat.mod_lt _ (by decide)) (Nat.mod_lt _ (by decide)) (Nat.mod_lt _ (by decide)) (Nat.mod_lt _ (by decide))]
  have e2 : sumv c % 256 + 256 * (sumv c / 256 % 256 + 256 * (sumv c / 65536 % 256 + 256 * (sumv c / 16777216 % 256))) = sumv c := by omega
  rw [e2, sumv, Nat.xor_comm, Nat.xor_assoc, Nat.xor_self, Nat.xor_zero]
theorem read_other {x : List Int} (hb : Bytes x) (h4 : 4 ≤ x.length) (hl : x.length ≤ 140737488351232) (hr : run M x ≠ stn 32 M) : packet_Read x = some (0, 0, [], 4) := by
  have hx : x = x.take (x.length - 4) ++ x.drop (x.length - 4) := (List.take_append_drop _ _).symm
  have hc : Bytes (x.take (x.length - 4)) := fun y hy => hb y (List.mem_of_mem_take hy)
  have ht : Bytes (x.drop (x.length - 4)) := fun y hy => hb y (List.mem_of_mem_drop hy)
  have htl : (x.drop (x.length - 4)).length = 4 := by rw [List.length_drop]; omega
  have hcl : (x.take (x.length - 4)).length ≤ 140737488351232 := by rw [List.length_take]; omega
  generalize x.take (x.length - 4) = c at hx hc hcl
  generalize x.drop (x.length - 4) = t at hx ht htl
  rw [hx]
  refine read_bad hc ht htl hcl fun e => hr ?_
  rw [hx, e]
  exact run_sealed hc
theorem set_pre (pre post : List Int) (x y : Int) (k : Nat) (h : pre.length = k) : (pre ++ x :: post).set k y = pre ++ y :: post := by
  subst h; simp
theorem at_pre (pre post : List Int) (x : Int) (k : Nat) (h : pre.length = k) : (pre ++ x :: post)[k]? = some x := by
  subst h; simp
/-- One byte of it is turned. -/
theorem turned_step (pre post : List Int) (y : Int) (n i x q : Nat) (hx : x < 256) (hq : q < 256) (hp : pre.length = n + i) (hi : i < 4) (hb : n + i < 140737488355328)
    (e : IntKind.u8.wrap (y.fdiv (2 ^ min (8 * i) IntKind.u32.bits)) = (q : Int)) :
    law17_PacketTurned_l0 y (n : Int) (i : Int) (pre ++ (x : Int) :: post) = law17_PacketTurned_l0 y (n : Int) ((i + 1 : Nat) : Int) ((pre ++ [((x ^^^ q : Nat) : Int)]) ++ post) := by
  have e1 : IntKind.i64.wrap ((n : Int) + (i : Int)) = ((n + i : Nat) : Int) := by rw [wrap_i64 (by omega) (by omega)]; omega
  have e2 : IntKind.i64.wrap (8 * (i : Int)) = ((8 * i : Nat) : Int) := by rw [wrap_i64 (by omega) (by omega)]; omega
  have hlen : n + i < (pre ++ (x : Int) :: post).length := by simp only [List.length_append, List.length_cons]; omega
  rw [law17_PacketTurned_l0_eq, e1, e2, wrap_succ (by omega), Int.toNat_natCast, Int.toNat_natCast, at_pre _ _ _ _ hp, Option.bind_some, Option.bind_some, e, bits_xor, bx8 hx hq, set_pre _ _ _ _ _ hp, ilen_eq,
    Bool.cond_decide, if_pos (by omega), Bool.cond_decide, if_pos (by omega), Bool.cond_decide, if_pos (by omega), Bool.cond_decide, if_neg (by omega), Bool.cond_decide, if_pos (by omega), Bool.cond_decide, if_pos (by omega), List.append_assoc, List.singleton_append]
theorem turned_law (a b : Int) (l : List Mg) (at_ burst : Int) (hl : l.length ≤ 140737488355328) (h : ∀ m ∈ l, WfM m) (hbu : 0 ≤ burst ∧ burst ≤ 4294967295) : law17_PacketTurned a b l at_ burst = some true := by
  obtain ⟨t, h1, _⟩ := light_of17 hl h
  rw [law17_PacketTurned_eq, h1, Option.bind_some, works17, Option.bind_some, put_spec (short_of h) (fun m hm => (h m hm).1), Option.bind_some, putS]
  cases t with
  | false => rfl
  | true =>
    rw [Bool.not_true, cond_false]
    by_cases hz : burst = 0
    · rw [beq_yes hz, cond_true]
    rw [beq_no hz, cond_false]
    by_cases hk : chk a b l = 0
    · rw [if_pos hk]
      dsimp only
      have hbb : Bytes (body a b l) := body_bytes hk (fun m hm => (h m hm).1)
      have hS : Bytes (sealed (body a b l)) := Go.Proofs.Ytpoblfpjjlplbaa.Pack.Bytes.app hbb (le4_bytes _)
      have hSl : (sealed (body a b l)).length ≤ 200000004 := by have := body_len hk; rw [seal_len]; omega
      have hrs := run_sealed hbb
      generalize sealed (body a b l) = S at hS hSl hrs
      rw [bne_no rfl, cond_false, ilen_eq, Bool.cond_decide]
      by_cases h5 : (S.length : Int) < 5
      · rw [if_pos h5]
      rw [if_neg h5, wrap_i64 (x := (S.length : Int) - 3) (by omega) (by omega), wrap_u64 (x := (S.length : Int) - 3) (by omega) (by omega), Bool.cond_decide, if_neg (by omega), Bool.cond_decide, if_pos (show _ ≤ room by simp only [room_eq]; omega), List.nil_append]
      have hr : 0 ≤ IntKind.u64.wrap at_ := by rw [wrap_u64']; omega
      generalize IntKind.u64.wrap at_ = at1 at hr
      obtain ⟨n, hn, hn2⟩ : ∃ n : Nat, IntKind.i64.wrap (Int.tmod at1 ((S.length : Int) - 3)) = (n : Int) ∧ n + 3 < S.length := by
        have e : Int.tmod at1 ((S.length : Int) - 3) = at1 % ((S.length : Int) - 3) := Int.tmod_eq_emod_of_nonneg hr
        have p0 := Int.emod_nonneg at1 (b := (S.length : Int) - 3) (by omega)
        have p1 := Int.emod_lt_of_pos at1 (b := (S.length : Int) - 3) (by omega)
        rw [e, wrap_i64 (by omega) (by omega)]
        exact ⟨(at1 % ((S.length : Int) - 3)).toNat, by omega, by omega⟩
      rw [hn]
      obtain ⟨y, rfl⟩ : ∃ y : Nat, burst = (y : Int) := ⟨burst.toNat, by omega⟩
      obtain ⟨pre, post, x0, x1, x2, x3, hp, l0, l1, l2, l3, eb⟩ := split4 hS (k := n) (by omega)
      have sh : ∀ j : Nat, (y : Int).fdiv ((2 : Int) ^ j) = ((y / 2 ^ j : Nat) : Int) := fun j => by
        rw [Int.fdiv_eq_ediv_of_nonneg _ (by exact_mod_cast Nat.zero_le _), Int.natCast_ediv]; simp
      have q0 : IntKind.u8.wrap ((y : Int).fdiv (2 ^ min (8 * 0) IntKind.u32.bits)) = ((y % 256 : Nat) : Int) := by rw [show min (8 * 0) IntKind.u32.bits = 0 from rfl, sh, wrap_u8]; simp
      have q1 : IntKind.u8.wrap ((y : Int).fdiv (2 ^ min (8 * 1) IntKind.u32.bits)) = ((y / 256 % 256 : Nat) : Int) := by rw [show min (8 * 1) IntKind.u32.bits = 8 from rfl, sh, wrap_u8]; simp
      have q2 : IntKind.u8.wrap ((y : Int).fdiv (2 ^ min (8 * 2) IntKind.u32.bits)) = ((y / 65536 % 256 : Nat) : Int) := by rw [show min (8 * 2) IntKind.u32.bits = 16 from rfl, sh, wrap_u8]; simp
      have q3 : IntKind.u8.wrap ((y : Int).fdiv (2 ^ min (8 * 3) IntKind.u32.bits)) = ((y / 16777216 % 256 : Nat) : Int) := by rw [show min (8 * 3) IntKind.u32.bits = 24 from rfl, sh, wrap_u8]; simp
      have hlen : S.length = n + 4 + post.length := by rw [eb]; simp only [List.length_append, List.length_cons]; omega
      have tr := run_turned M y pre post x0 x1 x2 x3 (by omega)
      rw [← eb] at tr
      have hx : ∀ a q : Nat, a < 256 → (((a ^^^ (q % 256) : Nat) : Int) < 256) := fun a q ha => by
        have := Nat.xor_lt_two_pow (n := 8) (x := a) (y := q % 256) ha (Nat.mod_lt _ (by decide)); omega
      have hB : Bytes (pre ++ (((x0 ^^^ (y % 256) : Nat) : Int) :: ((x1 ^^^ (y / 256 % 256) : Nat) : Int) :: ((x2 ^^^ (y / 65536 % 256) : Nat) : Int) :: ((x3 ^^^ (y / 16777216 % 256) : Nat) : Int) :: post)) := by
        intro z hz
        simp only [List.mem_append, List.mem_cons] at hz
        rcases hz with hz | rfl | rfl | rfl | rfl | hz
        · exact hS z (by rw [eb]; simp [hz])
        · exact ⟨by omega, hx _ _ l0⟩
        · exact ⟨by omega, hx _ _ l1⟩
        · exact ⟨by omega, hx _ _ l2⟩
        · exact ⟨by omega, hx _ _ l3⟩
        · exact hS z (by rw [eb]; simp [hz])
      have hT : run M (pre ++ (((x0 ^^^ (y % 256) : Nat) : Int) :: ((x1 ^^^ (y / 256 % 256) : Nat) : Int) :: ((x2 ^^^ (y / 65536 % 256) : Nat) : Int) :: ((x3 ^^^ (y / 16777216 % 256) : Nat) : Int) :: post)) ≠ stn 32 M := by
        intro e
        have hy : stn (8 * post.length) (stn 32 y) ≠ 0 := stn_ne _ (stn_lt 32 (by omega)) (stn_ne 32 (by omega) (by omega))
        apply hy
        rw [tr, hrs] at e
        have e2 := congrArg (fun z => stn 32 M ^^^ z) e
        simp only [xor_self_l, Nat.xor_self] at e2
        exact e2
      rw [eb, show (0 : Int) = ((0 : Nat) : Int) from rfl]
      rw [turned_step pre _ y n 0 x0 _ l0 (Nat.mod_lt _ (by decide)) (by omega) (by omega) (by omega) q0]
      rw [turned_step (pre ++ _) _ y n 1 x1 _ l1 (Nat.mod_lt _ (by decide)) (by simp; omega) (by omega) (by omega) q1]
      rw [turned_step ((pre ++ _) ++ _) _ y n 2 x2 _ l2 (Nat.mod_lt _ (by decide)) (by simp; omega) (by omega) (by omega) q2]
      rw [turned_step (((pre ++ _) ++ _) ++ _) _ y n 3 x3 _ l3 (Nat.mod_lt _ (by decide)) (by simp; omega) (by omega) (by omega) q3]
      simp only [List.append_assoc, List.cons_append, List.nil_append]
      rw [law17_PacketTurned_l0_eq, Bool.cond_decide, if_neg (by omega), read_other hB (by simp only [List.length_append, List.length_cons]; omega) (by simp only [List.length_append, List.length_cons]; omega) hT, Option.bind_some, works17]
      rfl
    · rw [if_neg hk]
      dsimp only
      rw [bne_yes hk, cond_true]
end Go.Proofs.Ytpoblfpjjlplbaa.PE
