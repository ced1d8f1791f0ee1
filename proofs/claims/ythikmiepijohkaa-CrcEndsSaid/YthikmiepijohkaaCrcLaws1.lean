import Derived.Test.YthikmiepijohkaaCrcOf
namespace Go.Proofs.Ythikmiepijohkaa.Pure
open Go Go.RowKit Go.Proofs.Ythikmiepijohkaa.PA Go.Proofs.YthikmiepijohkaaW.PrintWords Go.Proofs.YthikmiepijohkaaW.PrintLast Go.Proofs.YthikmiepijohkaaW.PrintMore Go.Proofs.Ythikmiepijohkaa.Crc Go.Proofs.Ythikmiepijohkaa.CrcOf

theorem upd' {k s : Nat} {b : List Int} (hs : s < 4294967296) (hb : Bytes b) (hm : b.length ≤ 140737488351232) (hk : 10 * b.length + 1 ≤ k) :
    crc_Update.f k (s : Int) b = some ((M ^^^ run (M ^^^ s) b : Nat) : Int) := by
  obtain ⟨k, rfl⟩ : ∃ m, k = m + 10 * b.length + 1 := ⟨k - (10 * b.length + 1), by omega⟩
  exact upd k s b hs hb hm
theorem sum' {k : Nat} {b : List Int} (hb : Bytes b) (hm : b.length ≤ 140737488351232) (hk : 10 * b.length + 1 ≤ k) :
    crc_Sum.f k b = some ((M ^^^ run M b : Nat) : Int) := by
  obtain ⟨k, rfl⟩ : ∃ m, k = m + 10 * b.length + 1 := ⟨k - (10 * b.length + 1), by omega⟩
  exact sum k b hb hm
theorem works' {k : Nat} (hk : 91 ≤ k) : funicularlaw01_works.f k = some true := by
  obtain ⟨k, rfl⟩ : ∃ m, k = m + 91 := ⟨k - 91, by omega⟩
  exact works k
theorem bytes_app {a b : List Int} (ha : Bytes a) (hb : Bytes b) : Bytes (a ++ b) := fun x hx => by
  rcases List.mem_append.mp hx with h | h
  · exact ha x h
  · exact hb x h

theorem CrcGoes_pf : funicularlaw01_CrcGoes.Pure := by
  intro a b ha _ hba hb _ hbb
  replace hba := bytes_of hba
  replace hbb := bytes_of hbb
  refine ⟨20 * (a.length + b.length) + 200, ?_⟩
  have hw : ∀ d, funicularlaw01_CrcGoes.j0 (20 * (a.length + b.length) + 199 + 1) a b d = if d = true then some true else funicularlaw01_CrcGoes.j0 (20 * (a.length + b.length) + 199 + 1) a b d := by
    intro d
    by_cases hd : d = true
    · rw [if_pos hd, funicularlaw01_CrcGoes.j0, if_pos hd, works' (by omega)]; rfl
    · rw [if_neg hd]
  rw [funicularlaw01_CrcGoes.f]
  by_cases h1 : (a.length : Int) > 5000
  · rw [if_pos h1, hw, if_pos rfl]
  rw [if_neg h1, hw]
  by_cases h2 : (b.length : Int) > 5000
  · rw [if_pos (by simpa using h2)]
  rw [if_neg (by simpa using h2), funicularlaw01_CrcGoes.j0, if_neg (by simpa using h2), List.nil_append]
  rw [if_pos (by simp only [List.length_nil]; omega)]
  simp only [Option.bind_some]
  rw [if_pos (by omega), sum' hba (by omega) (by omega)]
  simp only [Option.bind_some]
  have hr : run M a < 4294967296 := run_lt (by decide) hba
  rw [upd' (xor_lt (by decide) hr) hbb (by omega) (by omega)]
  simp only [Option.bind_some]
  rw [sum' (bytes_app hba hbb) (by simp only [List.length_append]; omega) (by simp only [List.length_append]; omega)]
  simp only [Option.bind_some]
  rw [xor_self_l, run_append, if_pos rfl, works' (by omega)]; rfl

theorem CrcEnds_pf : funicularlaw01_CrcEnds.Pure := by
  intro b hb _ hbb
  replace hbb := bytes_of hbb
  refine ⟨10 * b.length + 200, ?_⟩
  rw [funicularlaw01_CrcEnds.f]
  by_cases h1 : (b.length : Int) > 5000
  · rw [if_pos h1, works' (by omega)]; rfl
  rw [if_neg h1, sum' hbb (by omega) (by omega)]
  simp only [Option.bind_some]
  have hr : run M b < 4294967296 := run_lt (by decide) hbb
  generalize run M b = R at hr
  have hs : M ^^^ R < 4294967296 := xor_lt (by decide) hr
  obtain ⟨s, hs'⟩ : ∃ s, s = M ^^^ R := ⟨_, rfl⟩
  have hR : R = M ^^^ s := by rw [hs', xor_self_l]
  rw [← hs'] at hs ⊢
  have e0 : (s : Int) % 256 = ((s % 256 : Nat) : Int) := by omega
  have e1 : (s : Int) / 256 % 256 = ((s / 256 % 256 : Nat) : Int) := by omega
  have e2 : (s : Int) / 65536 % 256 = ((s / 65536 % 256 : Nat) : Int) := by omega
  have e3 : (s : Int) / 16777216 % 256 = ((s / 16777216 % 256 : Nat) : Int) := by omega
  rw [e0, e1, e2, e3]
  rw [upd' hs (fun x hx => by simp only [List.mem_cons, List.not_mem_nil, or_false] at hx; omega) (by simp) (by simp only [List.length_cons, List.length_nil]; omega)]
  simp only [Option.bind_some]
  rw [run_four _ _ _ _ _ (Nat.mod_lt _ (by decide)) (Nat.mod_lt _ (by decide)) (Nat.mod_lt _ (by decide)) (Nat.mod_lt _ (by decide))]
  have e : s % 256 + 256 * (s / 256 % 256 + 256 * (s / 65536 % 256 + 256 * (s / 16777216 % 256))) = s := by omega
  rw [e, Nat.xor_assoc, Nat.xor_self, Nat.xor_zero, if_pos (by decide +kernel), works' (by omega)]; rfl

theorem run_diff (s d : Nat) (b : List Int) : run (s ^^^ d) b = run s b ^^^ stn (8 * b.length) d := by
  induction b generalizing s d with
  | nil => rfl
  | cons c b ih =>
    rw [run_cons, run_cons, List.length_cons, show 8 * (b.length + 1) = 8 + 8 * b.length by omega, stn_add, ← ih]
    congr 1
    have := byt_xor s d c.toNat 0
    rw [Nat.xor_zero] at this
    rw [this]
    simp [byt]
/-- Four bytes turned. -/
theorem run_turned (s y : Nat) (pre post : List Int) (x0 x1 x2 x3 : Nat) (hy : y < 4294967296) :
    run s (pre ++ (((x0 ^^^ (y % 256) : Nat) : Int) :: ((x1 ^^^ (y / 256 % 256) : Nat) : Int) :: ((x2 ^^^ (y / 65536 % 256) : Nat) : Int) :: ((x3 ^^^ (y / 16777216 % 256) : Nat) : Int) :: post)) =
      run s (pre ++ ((x0 : Int) :: (x1 : Int) :: (x2 : Int) :: (x3 : Int) :: post)) ^^^ stn (8 * post.length) (stn 32 y) := by
  rw [run_append, run_append]
  generalize run s pre = R
  have e : ∀ a0 a1 a2 a3 : Int, run R (a0 :: a1 :: a2 :: a3 :: post) = run (run R [a0, a1, a2, a3]) post := fun a0 a1 a2 a3 => run_append R [a0, a1, a2, a3] post
  rw [e, e, ← run_diff]
  congr 1
  have hb := run_blend R 0 [(x0 : Int), (x1 : Int), (x2 : Int), (x3 : Int)] [((y % 256 : Nat) : Int), ((y / 256 % 256 : Nat) : Int), ((y / 65536 % 256 : Nat) : Int), ((y / 16777216 % 256 : Nat) : Int)] rfl
  rw [Nat.xor_zero] at hb
  simp only [blend, Int.toNat_natCast] at hb
  have e2 : y % 256 + 256 * (y / 256 % 256 + 256 * (y / 65536 % 256 + 256 * (y / 16777216 % 256))) = y := by omega
  have h4 := run_four 0 (y % 256) (y / 256 % 256) (y / 65536 % 256) (y / 16777216 % 256) (Nat.mod_lt _ (by decide)) (Nat.mod_lt _ (by decide)) (Nat.mod_lt _ (by decide)) (Nat.mod_lt _ (by decide))
  rw [Nat.zero_xor, e2] at h4
  rw [hb, h4]

theorem split4 {b : List Int} {k : Nat} (hb : Bytes b) (h : k + 4 ≤ b.length) : ∃ (pre post : List Int) (x0 x1 x2 x3 : Nat), pre.length = k ∧ x0 < 256 ∧ x1 < 256 ∧ x2 < 256 ∧ x3 < 256 ∧
    b = pre ++ ((x0 : Int) :: (x1 : Int) :: (x2 : Int) :: (x3 : Int) :: post) := by
  have f : ∀ i, i < b.length → ∃ x : Nat, x < 256 ∧ b[i]? = some (x : Int) := fun i hi => by
    have hx := hb _ (List.getElem_mem hi)
    exact ⟨b[i].toNat, by omega, by rw [List.getElem?_eq_getElem hi]; congr 1; omega⟩
  obtain ⟨x0, h0, e0⟩ := f k (by omega)
  obtain ⟨x1, h1, e1⟩ := f (k + 1) (by omega)
  obtain ⟨x2, h2, e2⟩ := f (k + 2) (by omega)
  obtain ⟨x3, h3, e3⟩ := f (k + 3) (by omega)
  refine ⟨b.take k, b.drop (k + 4), x0, x1, x2, x3, by simp; omega, h0, h1, h2, h3, ?_⟩
  have d : ∀ i x, b[i]? = some x → b.drop i = x :: b.drop (i + 1) := fun i x hx => by
    obtain ⟨hi, hx⟩ := List.getElem?_eq_some_iff.mp hx
    rw [List.drop_eq_getElem_cons hi, hx]
  rw [← d _ _ e3, ← d _ _ e2, ← d _ _ e1, ← d _ _ e0, List.take_append_drop]
theorem rd_pre (pre post : List Int) (x : Int) (k : Nat) (h : pre.length = k) : rd (pre ++ x :: post) (k : Int) = x := by
  subst h; simp [rd, List.getD_eq_getElem?_getD]
theorem set_pre (pre post : List Int) (x y : Int) (k : Nat) (h : pre.length = k) : (pre ++ x :: post).set k y = pre ++ y :: post := by
  subst h; simp
/-- One byte of it is turned. -/
theorem tells_step (k : Nat) (b pre post : List Int) (y : Int) (n : Nat) (i x q : Nat) (hx : x < 256) (hq : q < 256) (hp : pre.length = n + i) (hi : i < 4) 
    (hb : n + i < 140737488355328) (e : (shr .u32 y (8 * (i : Int))) % 256 = (q : Int)) :
    funicularlaw01_CrcTells.l0 (k + 1) b y (n : Int) (pre ++ (x : Int) :: post) (i : Int) = funicularlaw01_CrcTells.l0 k b y (n : Int) ((pre ++ [((x ^^^ q : Nat) : Int)]) ++ post) ((i + 1 : Nat) : Int) := by
  have e1 : wrap64 ((n : Int) + (i : Int)) = ((n + i : Nat) : Int) := by rw [w64 (by omega) (by omega)]; omega
  have e2 : wrap64 (8 * (i : Int)) = 8 * (i : Int) := w64 (by omega) (by omega)
  rw [funicularlaw01_CrcTells.l0, if_pos (by omega), e1, e2, if_pos (by omega), if_pos (by simp only [List.length_append, List.length_cons]; omega), if_pos (by omega), e, rd_pre _ _ _ _ hp, bx8 hx hq,
    show ((n + i : Nat) : Int).toNat = n + i from rfl, set_pre _ _ _ _ _ hp, w64 (by omega) (by omega)]
  simp only [List.append_assoc, List.singleton_append]
  rfl
theorem u64w {i : Int} (h0 : 0 ≤ i) (h1 : i < 18446744073709551616) : IntKind.u64.wrap i = i := by
  simp only [IntKind.wrap, IntKind.bits, IntKind.signed]; simp; omega
theorem u64w_range (i : Int) : 0 ≤ IntKind.u64.wrap i ∧ IntKind.u64.wrap i < 18446744073709551616 := by
  simp only [IntKind.wrap, IntKind.bits, IntKind.signed]; simp; omega
theorem shr32 (y : Int) (i : Nat) (h : i < 4) : shr .u32 y (8 * (i : Int)) = y / 2 ^ (8 * i) := by
  unfold shr
  rw [show (8 * (i : Int)).toNat = 8 * i by omega, show min (8 * i) IntKind.u32.bits = 8 * i by simp [IntKind.bits]; omega]

theorem CrcTells_pf : funicularlaw01_CrcTells.Pure := by
  intro b at_ burst hl _ hb _ hburst
  replace hb := bytes_of hb
  have hbu : 0 ≤ burst ∧ burst < 4294967296 := by
    simp [Lit.wf, IntKind.min, IntKind.max, IntKind.signed, IntKind.bits] at hburst; omega
  refine ⟨10 * b.length + 300, ?_⟩
  have hw : ∀ d, d = true → funicularlaw01_CrcTells.j0 (10 * b.length + 299 + 1) b at_ burst d = some true := by
    intro d hd
    rw [funicularlaw01_CrcTells.j0, if_pos hd, works' (by omega)]; rfl
  rw [funicularlaw01_CrcTells.f]
  by_cases h1 : (b.length : Int) < 5
  · rw [if_pos h1]; exact hw _ rfl
  rw [if_neg h1]
  by_cases h2 : (b.length : Int) > 5000
  · rw [if_pos h2]; exact hw _ rfl
  rw [if_neg h2]
  by_cases h3 : burst = 0
  · exact hw _ (by rw [h3]; rfl)
  rw [funicularlaw01_CrcTells.j0, if_neg (by simpa using h3)]
  rw [w64 (i := (b.length : Int) - 4) (by omega) (by omega), u64w (i := (b.length : Int) - 4) (by omega) (by omega), if_neg (by omega), if_pos (by simp only [List.length_nil]; omega), List.nil_append]
  have hr := u64w_range at_
  generalize IntKind.u64.wrap at_ = at1 at hr
  obtain ⟨n, hn, hn2⟩ : ∃ n : Nat, wrap64 (Int.tmod at1 ((b.length : Int) - 4)) = (n : Int) ∧ n + 4 < b.length := by
    have e : Int.tmod at1 ((b.length : Int) - 4) = at1 % ((b.length : Int) - 4) := Int.tmod_eq_emod_of_nonneg hr.1
    have p0 := Int.emod_nonneg at1 (b := (b.length : Int) - 4) (by omega)
    have p1 := Int.emod_lt_of_pos at1 (b := (b.length : Int) - 4) (by omega)
    rw [e, w64 (by omega) (by omega)]
    exact ⟨(at1 % ((b.length : Int) - 4)).toNat, by omega, by omega⟩
  rw [hn]
  obtain ⟨y, rfl⟩ : ∃ y : Nat, burst = (y : Int) := ⟨burst.toNat, by omega⟩
  obtain ⟨pre, post, x0, x1, x2, x3, hp, l0, l1, l2, l3, eb⟩ := split4 hb (k := n) (by omega)
  have q0 : (shr .u32 (y : Int) (8 * ((0 : Nat) : Int))) % 256 = ((y % 256 : Nat) : Int) := by rw [shr32 _ _ (by decide)]; simp
  have q1 : (shr .u32 (y : Int) (8 * ((1 : Nat) : Int))) % 256 = ((y / 256 % 256 : Nat) : Int) := by rw [shr32 _ _ (by decide)]; simp
  have q2 : (shr .u32 (y : Int) (8 * ((2 : Nat) : Int))) % 256 = ((y / 65536 % 256 : Nat) : Int) := by rw [shr32 _ _ (by decide)]; simp
  have q3 : (shr .u32 (y : Int) (8 * ((3 : Nat) : Int))) % 256 = ((y / 16777216 % 256 : Nat) : Int) := by rw [shr32 _ _ (by decide)]; simp
  have hlen : b.length = n + 4 + post.length := by rw [eb]; simp only [List.length_append, List.length_cons]; omega
  have t := run_turned M y pre post x0 x1 x2 x3 (by omega)
  rw [← eb] at t
  have hx : ∀ a q : Nat, a < 256 → (((a ^^^ (q % 256) : Nat) : Int) < 256) := fun a q ha => by
    have := Nat.xor_lt_two_pow (n := 8) (x := a) (y := q % 256) ha (Nat.mod_lt _ (by decide)); omega
  have hB : Bytes (pre ++ (((x0 ^^^ (y % 256) : Nat) : Int) :: ((x1 ^^^ (y / 256 % 256) : Nat) : Int) :: ((x2 ^^^ (y / 65536 % 256) : Nat) : Int) :: ((x3 ^^^ (y / 16777216 % 256) : Nat) : Int) :: post)) := by
    intro z hz
    simp only [List.mem_append, List.mem_cons] at hz
    rcases hz with hz | rfl | rfl | rfl | rfl | hz
    · exact hb z (by rw [eb]; simp [hz])
    · exact ⟨by omega, hx _ _ l0⟩
    · exact ⟨by omega, hx _ _ l1⟩
    · exact ⟨by omega, hx _ _ l2⟩
    · exact ⟨by omega, hx _ _ l3⟩
    · exact hb z (by rw [eb]; simp [hz])
  conv => lhs; arg 5; rw [eb]
  rw [show (0 : Int) = ((0 : Nat) : Int) from rfl, show 10 * b.length + 299 = (10 * b.length + 294 + 1) + 1 + 1 + 1 + 1 by omega]
  rw [tells_step _ b pre _ y n 0 x0 _ l0 (Nat.mod_lt _ (by decide)) (by omega) (by omega) (by omega) q0]
  rw [tells_step _ b (pre ++ _) _ y n 1 x1 _ l1 (Nat.mod_lt _ (by decide)) (by simp; omega) (by omega) (by omega) q1]
  rw [tells_step _ b ((pre ++ _) ++ _) _ y n 2 x2 _ l2 (Nat.mod_lt _ (by decide)) (by simp; omega) (by omega) (by omega) q2]
  rw [tells_step _ b (((pre ++ _) ++ _) ++ _) _ y n 3 x3 _ l3 (Nat.mod_lt _ (by decide)) (by simp; omega) (by omega) (by omega) q3]
  simp only [List.append_assoc, List.cons_append, List.nil_append]
  rw [funicularlaw01_CrcTells.l0, if_neg (by omega), sum' hb (by omega) (by omega)]
  simp only [Option.bind_some]
  rw [sum' hB (by simp only [List.length_append, List.length_cons]; omega) (by simp only [List.length_append, List.length_cons]; omega)]
  simp only [Option.bind_some]
  rw [t, if_neg, works' (by omega)]
  · rfl
  · intro e
    have hy : stn (8 * post.length) (stn 32 y) ≠ 0 := stn_ne _ (stn_lt 32 (by omega)) (stn_ne 32 (by omega) (by omega))
    apply hy
    have e1 : M ^^^ run M b = M ^^^ (run M b ^^^ stn (8 * post.length) (stn 32 y)) := by exact_mod_cast e
    have e2 := congrArg (fun z => run M b ^^^ (M ^^^ z)) e1
    simp only [xor_self_l, Nat.xor_self] at e2
    exact e2.symm
end Go.Proofs.Ythikmiepijohkaa.Pure
