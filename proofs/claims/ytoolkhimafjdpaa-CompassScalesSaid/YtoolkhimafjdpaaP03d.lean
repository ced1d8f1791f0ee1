/- The six laws of chapter 03. -/
import Derived.Test.YtoolkhimafjdpaaP03c
namespace Go.Proofs.Ytoolkhimafjdpaa.PE
set_option linter.unusedVariables false
open Go
def Sh (a : Int) : Prop := -32768 ≤ a ∧ a ≤ 32767
theorem Sh.sm {a : Int} (h : Sh a) : Sm a := ⟨h.1, by have := h.2; omega⟩
theorem whole_sm {a : Int} (h : Sm a) : whole a = true := by obtain ⟨h1, h2⟩ := h; exact whole_of (by omega) (by omega)
theorem wrap_sm {a : Int} (h : Sm a) : IntKind.i64.wrap a = a := by obtain ⟨h1, h2⟩ := h; exact wrap_i64 (by omega) (by omega)
theorem points_law {k : Int} {s : ByteArray} (hk : U32 k) (hs : s.size ≤ 140737488351232) : law03_CompassPoints k s = some true := by
  rw [law03_CompassPoints_eq, works03, refParts_says hk, Point_says, Key_says hs, refKey_says hs]
  simp only [Option.bind_some]
  rw [show whole (point k).fst = true from whole_sm (half_sm k), show whole (point k).snd = true from whole_sm (half_sm _), beq_yes rfl]
  simp only [decide_true, Bool.and_self, cond_true]
  cases decide (isize s > 5000) <;> rfl
theorem turns_law {a b n : Int} (ha : Sh a) (hb : Sh b) (h1 : -9223372036854775808 ≤ n) (h2 : n ≤ 9223372036854775807) : law03_CompassTurns a b n = some true := by
  have ha := ha.sm
  have hb := hb.sm
  rw [law03_CompassTurns_eq, works03, wrap_sm ha, wrap_sm hb, refTurn_says ha hb h1 h2, at_says ha hb, refQuarter_says, refNorm_says ha hb]
  simp only [Option.bind_some]
  rw [Turn_says (z := (a, b)) ha hb, Quarter_says (z := (a, b)) ha hb, Norm_says (z := (a, b)) ha hb]
  simp only [Option.bind_some]
  obtain ⟨k1, k2⟩ := qt_sm (n := n) ha hb
  rw [whole_sm k1, whole_sm k2, beq_yes rfl, beq_yes rfl]
  simp only [decide_true, Bool.and_self, cond_true]
theorem parts_law {a b n : Int} {s : ByteArray} (ha : Sh a) (hb : Sh b) (hs : s.size ≤ 140737488351232) : law03_CompassParts a b n s = some true := by
  have ha := ha.sm
  have hb := hb.sm
  rw [law03_CompassParts_eq, works03, wrap_sm ha, wrap_sm hb, at_says ha hb, refPart_says ha hb, Route_says hs, refRoute_says hs]
  simp only [Option.bind_some]
  rw [Part_says (z := (a, b)) ha hb]
  simp only [Option.bind_some]
  rw [beq_yes rfl, beq_yes rfl, beq_yes rfl, beq_yes rfl]
  cases decide (isize s > 5000) <;> rfl
theorem qt_qt (a b m n : Int) : qt (qt a b m).1 (qt a b m).2 n = qt a b (m + n) := by
  have h4 : m % 4 = 0 ∨ m % 4 = 1 ∨ m % 4 = 2 ∨ m % 4 = 3 := by omega
  have k4 : n % 4 = 0 ∨ n % 4 = 1 ∨ n % 4 = 2 ∨ n % 4 = 3 := by omega
  have e : (m + n) % 4 = (m % 4 + n % 4) % 4 := by omega
  unfold qt
  rw [e]
  rcases h4 with h | h | h | h <;> rcases k4 with k | k | k | k <;> rw [h, k] <;> simp
theorem qt_mod {a b n : Int} (h : n % 4 = 0) : qt a b n = (a, b) := by unfold qt; rw [h]; rfl
theorem qt_one (a b : Int) : qt a b 1 = (-b, a) := rfl
theorem quad_one {a b : Int} (h : ¬ (a = 0 ∧ b = 0)) : quad (-b) a = (quad a b + 1) % 4 := by
  unfold quad
  repeat' split
  all_goals first | rfl | (exfalso; omega)
theorem rounds_law {a b m n : Int} (ha : Sh a) (hb : Sh b) (hm : 0 ≤ m ∧ m ≤ 255) (hn : 0 ≤ n ∧ n ≤ 255) : law03_CompassRounds a b m n = some true := by
  have ha := ha.sm
  have hb := hb.sm
  obtain ⟨m1, m2⟩ := hm
  obtain ⟨n1, n2⟩ := hn
  obtain ⟨k1, k2⟩ := qt_sm (n := m) ha hb
  rw [law03_CompassRounds_eq, works03, at_says ha hb]
  simp only [Option.bind_some]
  rw [wrap_i64 (x := m) (by omega) (by omega), wrap_i64 (x := n) (by omega) (by omega), wrap_i64 (x := 4 * m) (by omega) (by omega), wrap_i64 (x := m + n) (by omega) (by omega), wrap_i64 (x := 0 - m) (by omega) (by omega)]
  simp only [Turn_says (z := (a, b)) ha hb, Option.bind_some]
  simp only [Turn_says (z := qt a b m) k1 k2, Option.bind_some, qt_qt]
  rw [qt_mod (n := 4 * m) (by omega), qt_mod (n := m + (0 - m)) (by omega), qt_one, Norm_says (z := (-b, a)) (neg_sm hb) ha, Norm_says (z := (a, b)) ha hb, Quarter_says (z := (-b, a)) (neg_sm hb) ha, Quarter_says (z := (a, b)) ha hb]
  simp only [Option.bind_some]
  have hq := quad_range a b
  have e2 : (IntKind.i64.wrap (quad a b + 1)).tmod 4 = (quad a b + 1) % 4 := by rw [wrap_i64 (by omega) (by omega), tmod_pos (by omega)]
  have e3 : -b * -b + a * a = a * a + b * b := by rw [Int.neg_mul_neg]; omega
  rw [e2, e3, bne_no rfl]
  simp only [decide_true, Bool.and_self, Bool.not_true, cond_false]
  by_cases h : a = 0 ∧ b = 0
  · rw [beq_yes h.1, beq_yes h.2]; rfl
  · rw [quad_one h, beq_yes (a := (quad a b + 1) % 4) rfl]
    cases a == 0 <;> cases b == 0 <;> rfl
/-- Of four parts, or a multiple. -/
theorem prt_four {a b k : Int} (ha : Sm a) (hb : Sm b) (hk : 1 ≤ k ∧ k ≤ 16) (h : ¬ (a = 0 ∧ b = 0)) : ∃ r, 0 ≤ r ∧ r < k ∧ prt a b (4 * k) = quad a b * k + r ∧ prt (-b) a (4 * k) = (quad a b + 1) % 4 * k + r := by
  have h' : ¬ (-b = 0 ∧ a = 0) := by omega
  have hsame : qt (-b) a (-quad (-b) a) = qt a b (-quad a b) := by
    have : qt (-b) a (-quad (-b) a) = qt (qt a b 1).1 (qt a b 1).2 (-quad (-b) a) := rfl
    rw [this, qt_qt, quad_one h]
    have hq := quad_range a b
    unfold qt
    have e : (1 + -((quad a b + 1) % 4)) % 4 = (-quad a b) % 4 := by omega
    rw [e]
  obtain ⟨h1, h2⟩ := turned_back h
  obtain ⟨k1, k2⟩ := qt_sm (n := -quad a b) ha hb
  have hq := quad_range a b
  unfold prt
  rw [hsame, quad_one h]
  simp only
  generalize (qt a b (-quad a b)).1 = c at *
  generalize (qt a b (-quad a b)).2 = d at *
  generalize quad a b = q at *
  have key : ∀ p, (p * (c + d) + d) * (4 * k) / (4 * (c + d)) = p * k + d * k / (c + d) := by
    intro p
    have e1 : (p * (c + d) + d) * (4 * k) = 4 * (d * k + p * k * (c + d)) := by
      rw [Int.add_mul (p * (c + d)) d (4 * k), Int.mul_add 4]
      have : p * (c + d) * (4 * k) = 4 * (p * k * (c + d)) := by ac_rfl
      rw [this]
      have : d * (4 * k) = 4 * (d * k) := by ac_rfl
      rw [this]; omega
    rw [e1, Int.mul_ediv_mul_of_pos _ _ (by decide), Int.add_mul_ediv_right _ _ (by omega)]
    omega
  have hdk : 0 ≤ d * k := Int.mul_nonneg h2 (by omega)
  refine ⟨d * k / (c + d), Int.ediv_nonneg hdk (by omega), Int.ediv_lt_of_lt_mul (by omega) ?_, key q, key _⟩
  rw [Int.mul_comm k]
  exact Int.mul_lt_mul_of_pos_right (by omega) (by omega)
theorem even_law {a b n : Int} (ha : Sh a) (hb : Sh b) (hn : 0 ≤ n ∧ n ≤ 255) : law03_CompassEven a b n = some true := by
  have ha := ha.sm
  have hb := hb.sm
  obtain ⟨n1, n2⟩ := hn
  have e1 : IntKind.i64.wrap (1 + (IntKind.i64.wrap n).tmod 16) = 1 + n % 16 := by rw [wrap_i64 (x := n) (by omega) (by omega), tmod_pos n1, wrap_i64 (by omega) (by omega)]
  rw [law03_CompassEven_eq, works03, at_says ha hb, e1]
  simp only [Option.bind_some]
  rw [wrap_i64 (x := 4 * (1 + n % 16)) (by omega) (by omega)]
  have hk : 1 ≤ 1 + n % 16 ∧ 1 + n % 16 ≤ 16 := by omega
  generalize 1 + n % 16 = k at *
  simp only [Turn_says (z := (a, b)) ha hb, Option.bind_some]
  rw [qt_one, Part_says (z := (a, b)) ha hb, Part_says (z := (-b, a)) (neg_sm hb) ha]
  simp only [Option.bind_some]
  by_cases h : a = 0 ∧ b = 0
  · rw [beq_yes h.1, beq_yes h.2]; rfl
  have main : (bif (prtE a b (4 * k)).2 == 0 then bif (prtE (-b) a (4 * k)).2 == 0 then bif decide (4 * k = 0) then none else bif (prtE (-b) a (4 * k)).1 == (IntKind.i64.wrap ((prtE a b (4 * k)).1 + k)).tmod (4 * k) then some true else some false else some false else some false) = some true := by
    obtain ⟨r, r1, r2, r3, r4⟩ := prt_four ha hb hk h
    have p1 : prtE a b (4 * k) = (prt a b (4 * k), 0) := by unfold prtE; rw [if_neg (by omega), if_neg h]
    have p2 : prtE (-b) a (4 * k) = (prt (-b) a (4 * k), 0) := by unfold prtE; rw [if_neg (by omega), if_neg (by omega)]
    have hq := quad_range a b
    rw [p1, p2, r3, r4]
    simp only
    generalize quad a b = q at *
    have hqk : 0 ≤ q * k := Int.mul_nonneg hq.1 (by omega)
    have hqk3 : q * k ≤ 3 * k := Int.mul_le_mul_of_nonneg_right hq.2 (by omega)
    have hfin : (q + 1) % 4 * k + r = (IntKind.i64.wrap (q * k + r + k)).tmod (4 * k) := by
      rw [wrap_i64 (by omega) (by omega), tmod_pos (by omega)]
      have hc : q = 0 ∨ q = 1 ∨ q = 2 ∨ q = 3 := by omega
      rcases hc with rfl | rfl | rfl | rfl
      · rw [show ((0 : Int) + 1) % 4 = 1 by decide, Int.emod_eq_of_lt (by omega) (by omega)]; omega
      · rw [show ((1 : Int) + 1) % 4 = 2 by decide, Int.emod_eq_of_lt (by omega) (by omega)]; omega
      · rw [show ((2 : Int) + 1) % 4 = 3 by decide, Int.emod_eq_of_lt (by omega) (by omega)]; omega
      · rw [show ((3 : Int) + 1) % 4 = 0 by decide, show 3 * k + r + k = r + 4 * k by omega, Int.add_emod_right, Int.emod_eq_of_lt (by omega) (by omega)]; omega
    rw [beq_yes (a := (0 : Int)) rfl, decide_eq_false (by omega), beq_yes hfin]
    rfl
  by_cases h0 : a = 0
  · have h1 : ¬ b = 0 := fun e => h ⟨h0, e⟩
    rw [beq_yes h0, beq_no h1]
    exact main
  · rw [beq_no h0]
    exact main
theorem quad_scale {a b k : Int} (hk : 0 < k) : quad (a * k) (b * k) = quad a b := by
  have p : ∀ x : Int, (0 < x * k ↔ 0 < x) ∧ (0 ≤ x * k ↔ 0 ≤ x) ∧ (x * k < 0 ↔ x < 0) ∧ (x * k ≤ 0 ↔ x ≤ 0) := by
    intro x
    rcases Int.lt_trichotomy x 0 with h | h | h
    · have := Int.mul_neg_of_neg_of_pos h hk; omega
    · subst h; simp
    · have := Int.mul_pos h hk; omega
  obtain ⟨a1, a2, a3, a4⟩ := p a
  obtain ⟨b1, b2, b3, b4⟩ := p b
  unfold quad
  simp only [a1, a2, a3, a4, b1, b2, b3, b4]
theorem qt_scale {a b k n : Int} : qt (a * k) (b * k) n = ((qt a b n).1 * k, (qt a b n).2 * k) := by
  unfold qt
  split
  · simp [Int.neg_mul]
  · split
    · simp [Int.neg_mul]
    · split
      · simp [Int.neg_mul]
      · rfl
theorem prtE_scale {a b k n : Int} (hk : 0 < k) : prtE (a * k) (b * k) n = prtE a b n := by
  have hz : ∀ x : Int, x * k = 0 ↔ x = 0 := fun x => ⟨fun h => by rcases Int.mul_eq_zero.1 h with h | h; exact h; omega, fun h => by rw [h, Int.zero_mul]⟩
  unfold prtE
  simp only [hz]
  split
  · rfl
  · split
    · rfl
    · unfold prt
      rw [quad_scale hk, qt_scale]
      simp only
      generalize (qt a b (-quad a b)).1 = c
      generalize (qt a b (-quad a b)).2 = d
      generalize quad a b = q
      have e1 : (q * (c * k + d * k) + d * k) * n = (q * (c + d) + d) * n * k := by
        rw [← Int.add_mul, ← Int.mul_assoc, ← Int.add_mul]
        ac_rfl
      have e2 : 4 * (c * k + d * k) = 4 * (c + d) * k := by rw [← Int.add_mul, Int.mul_assoc]
      rw [e1, e2, Int.mul_ediv_mul_of_pos_left _ _ hk]
theorem scales_law {a b n m : Int} (ha : -128 ≤ a ∧ a ≤ 127) (hb : -128 ≤ b ∧ b ≤ 127) (hm : 0 ≤ m ∧ m ≤ 255) : law03_CompassScales a b n m = some true := by
  obtain ⟨m1, m2⟩ := hm
  have w : ∀ x : Int, -32768 ≤ x → x ≤ 32767 → IntKind.i16.wrap x = x := by intro x h1 h2; rw [wrap_i16]; split <;> omega
  have hk1 : IntKind.i16.wrap (1 + (IntKind.i16.wrap m).tmod 200) = 1 + m % 200 := by rw [w m (by omega) (by omega), tmod_pos m1, w _ (by omega) (by omega)]
  have sa : Sm a := ⟨by omega, by omega⟩
  have sb : Sm b := ⟨by omega, by omega⟩
  rw [law03_CompassScales_eq, works03, hk1, w a (by omega) (by omega), w b (by omega) (by omega)]
  have hk : 1 ≤ 1 + m % 200 ∧ 1 + m % 200 ≤ 200 := by omega
  generalize 1 + m % 200 = k at *
  have bd : ∀ x : Int, -128 ≤ x ∧ x ≤ 127 → -25600 ≤ x * k ∧ x * k ≤ 25600 := by
    intro x hx
    have h1 : x.natAbs ≤ 128 := by omega
    have h2 : k.natAbs ≤ 200 := by omega
    have h3 : (x * k).natAbs ≤ 128 * 200 := by rw [Int.natAbs_mul]; exact Nat.mul_le_mul h1 h2
    omega
  obtain ⟨a1, a2⟩ := bd a ha
  obtain ⟨b1, b2⟩ := bd b hb
  have ska : Sm (a * k) := ⟨by omega, by omega⟩
  have skb : Sm (b * k) := ⟨by omega, by omega⟩
  rw [w (a * k) (by omega) (by omega), w (b * k) (by omega) (by omega), at_says sa sb, at_says ska skb]
  simp only [Option.bind_some]
  rw [Part_says (z := (a, b)) sa sb, Part_says (z := (a * k, b * k)) ska skb, prtE_scale (by omega)]
  simp only [Option.bind_some]
  rw [beq_yes (a := (prtE a b n).1) rfl, beq_yes (a := (prtE a b n).2) rfl]
  simp only [cond_true]
  by_cases h : (prtE a b n).2 = 0
  · rw [bne_no h]
    have hr : 0 ≤ (prtE a b n).1 ∧ (prtE a b n).1 < n := by
      unfold prtE at h ⊢
      split at h
      · cases h
      · rename_i hn
        rw [if_neg hn]
        split
        · exact ⟨by decide, by simp only; omega⟩
        · rename_i h0
          exact prt_range sa sb ⟨by omega, by omega⟩ h0
    rw [decide_eq_true hr.1, decide_eq_true hr.2]; rfl
  · rw [bne_yes h]; rfl
end Go.Proofs.Ytoolkhimafjdpaa.PE
