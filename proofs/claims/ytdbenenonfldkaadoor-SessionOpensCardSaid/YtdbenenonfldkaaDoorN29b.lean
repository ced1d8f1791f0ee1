/- Numbers as digits: what the chapter says, and the library; where a message goes. Whether a client may be. To which partitions a command goes. A client that asks something more. What a client is when it hears, when it turns; what is let go for time alone. The laws of clients. From what a row lists to what is known of the world. -/
import Derived.Test.YtdbenenonfldkaaDoorM29a
import Derived.Test.YtdbenenonfldkaaDoorM29b
import Derived.Test.YtdbenenonfldkaaDoorX29
import Derived.Test.YtdbenenonfldkaaDoorN29a
import Derived.Test.YtdbenenonfldkaaDoorRows
import Derived.Test.YtdbenenonfldkaaDoorEItoa
import Derived.Test.YtdbenenonfldkaaDoorERow
import Derived.Stop.LaidErr
import Derived.MakeChecks
namespace Go.Proofs.YtdbenenonfldkaaDoor.PE
set_option linter.unusedVariables false
open Go Go.RowKit Go.Proofs.YtdbenenonfldkaaDoor.Pack
attribute [local irreducible] ref25_decimal_l0 ref29_decimal_l0
def ofL (l : List UInt8) : ByteArray := ⟨l.toArray⟩
theorem ofL_app (a b : List UInt8) : ofL a ++ ofL b = ofL (a ++ b) := by
  apply ByteArray.ext
  rw [ByteArray.data_append]
  simp [ofL]
theorem ofL_size (l : List UInt8) : isize (ofL l) = (l.length : Int) := isize_eq (ofL l)
theorem ofL_list (l : List UInt8) : (ofL l).toList = l := by rw [toList_data]; rfl
theorem app_size (a b : ByteArray) : isize (a ++ b) = isize a + isize b := by
  rw [isize_eq, isize_eq, isize_eq, ByteArray.size_append]; omega
/-- One digit. -/
theorem digit_of (k : Nat) : strOf [IntKind.u8.wrap (IntKind.i64.wrap (48 + ((k % 10 : Nat) : Int)))] = ofL [UInt8.ofNat (48 + k % 10)] := by
  rw [wrap_i64 (by omega) (by omega), wrap_u8, show (48 + ((k % 10 : Nat) : Int)) % 256 = ((48 + k % 10 : Nat) : Int) by omega]
  rfl
theorem digit_ofu (k : Nat) : strOf [IntKind.u8.wrap (IntKind.u64.wrap (48 + ((k % 10 : Nat) : Int)))] = ofL [UInt8.ofNat (48 + k % 10)] := by
  rw [wrap_u64 (by omega) (by omega), wrap_u8, show (48 + ((k % 10 : Nat) : Int)) % 256 = ((48 + k % 10 : Nat) : Int) by omega]
  rfl
theorem dec_step {k : Nat} (h : 10 ≤ k) : Lib.decDigits k = Lib.decDigits (k / 10) ++ [UInt8.ofNat (48 + k % 10)] := by
  rw [Lib.decDigits, dif_neg (by omega)]
theorem dec_one {k : Nat} (h : k < 10) : Lib.decDigits k = [UInt8.ofNat (48 + k % 10)] := by
  rw [Lib.decDigits, dif_pos h, Nat.mod_eq_of_lt h]
theorem dec_len : ∀ (f k : Nat), k < 10 ^ (f + 1) → (Lib.decDigits k).length ≤ f + 1 := by
  intro f
  induction f with
  | zero => intro k h; rw [dec_one (by simpa using h)]; exact Nat.le_refl _
  | succ f ih =>
    intro k h
    by_cases h1 : k < 10
    · rw [dec_one h1]; simp
    · rw [dec_step (by omega), List.length_append]
      have := ih (k / 10) (Nat.div_lt_of_lt_mul (by rw [Nat.pow_succ, Nat.mul_comm] at h; exact h))
      simp only [List.length_cons, List.length_nil]; omega
theorem itoa_len {n : Int} (h : -9223372036854775808 ≤ n ∧ n ≤ 9223372036854775807) : (Lib.itoa n).length ≤ 21 := by
  unfold Lib.itoa
  by_cases hn : n < 0
  · rw [if_pos hn, List.length_cons]
    have := dec_len 19 n.natAbs (Nat.lt_of_le_of_lt (show n.natAbs ≤ 9223372036854775808 by omega) (by decide))
    omega
  · rw [if_neg hn]
    have := dec_len 19 n.toNat (Nat.lt_of_le_of_lt (show n.toNat ≤ 9223372036854775808 by omega) (by decide))
    omega
theorem ofL_ne {l : List UInt8} (h : l ≠ []) : ((ofL l).toList == (⟨#[]⟩ : ByteArray).toList) = false := by
  rw [ofL_list, toList_data]
  cases l with
  | nil => exact absurd rfl h
  | cons a r => rfl
theorem d29_l0 : ∀ (f k : Nat) (y : List UInt8), k < 10 ^ f → k < 9223372036854775808 → y.length + f ≤ 1000 → (k = 0 → y ≠ []) →
    ref29_decimal_l0 (ofL y) (k : Int) = some (ofL (if k = 0 then y else Lib.decDigits k ++ y)) := by
  intro f
  induction f with
  | zero =>
    intro k y hk hk2 hy hne
    have hk0 : k = 0 := by simpa using hk
    rw [ref29_decimal_l0_eq, Bool.cond_decide, if_neg (by omega), ofL_ne (hne hk0), cond_false, if_pos hk0]
  | succ f ih =>
    intro k y hk hk2 hy hne
    by_cases hk0 : k = 0
    · rw [ref29_decimal_l0_eq, Bool.cond_decide, if_neg (by omega), ofL_ne (hne hk0), cond_false, if_pos hk0]
    · have hd : ((k : Int).tmod 10) = ((k % 10 : Nat) : Int) := by rw [Int.tmod_eq_emod_of_nonneg (by omega)]; omega
      have hq : IntKind.i64.wrap ((k : Int).tdiv 10) = ((k / 10 : Nat) : Int) := by rw [Int.tdiv_eq_ediv_of_nonneg (by omega), wrap_i64 (by omega) (by omega)]; omega
      rw [ref29_decimal_l0_eq, Bool.cond_decide, if_pos (by omega), hd, hq, digit_of, ofL_app, ofL_size, ofL_size, Bool.cond_decide, if_pos (show _ ≤ room by simp only [room_eq, List.length_cons, List.length_nil]; omega), if_neg hk0,
        show [UInt8.ofNat (48 + k % 10)] ++ y = UInt8.ofNat (48 + k % 10) :: y from rfl,
        ih (k / 10) _ (Nat.div_lt_of_lt_mul (by rw [Nat.pow_succ, Nat.mul_comm] at hk; exact hk)) (by omega) (by simp only [List.length_cons]; omega) (fun _ => by simp)]
      by_cases h10 : k < 10
      · rw [if_pos (show k / 10 = 0 by omega), dec_one h10]; rfl
      · rw [if_neg (show ¬ k / 10 = 0 by omega), dec_step (k := k) (by omega), List.append_assoc]; rfl
theorem d29_spec {n : Int} (h : 0 ≤ n ∧ n ≤ 9223372036854775807) : ref29_decimal n = some (itoaS n) := by
  obtain ⟨k, rfl⟩ : ∃ k : Nat, n = (k : Int) := ⟨n.toNat, by omega⟩
  have hi : itoaS (k : Int) = ofL (Lib.decDigits k) := by
    unfold itoaS Lib.itoa; rw [if_neg (by omega), Int.toNat_natCast]; rfl
  rw [ref29_decimal_eq, hi]
  by_cases hk0 : k = 0
  · subst hk0
    have e0 : (⟨#[]⟩ : ByteArray) = ofL [] := rfl
    rw [e0, ref29_decimal_l0_eq, Bool.cond_decide, if_neg (by decide), show ((ofL []).toList == (⟨#[]⟩ : ByteArray).toList) = true from beq_yes rfl, cond_true]
    have hd : (((0 : Nat) : Int).tmod 10) = ((0 % 10 : Nat) : Int) := rfl
    have hq : IntKind.i64.wrap (((0 : Nat) : Int).tdiv 10) = ((0 : Nat) : Int) := rfl
    rw [hd, hq, digit_of, ofL_app, ofL_size, ofL_size, Bool.cond_decide, if_pos (show _ ≤ room by simp only [room_eq, List.length_cons, List.length_nil]; omega), d29_l0 0 0 _ (by decide) (by decide) (by decide) (fun _ => by simp), if_pos rfl, dec_one (by decide)]
    rfl
  · have := d29_l0 19 k [] (Nat.lt_of_lt_of_le (show k < 9223372036854775808 by omega) (by decide)) (by omega) (by decide) (fun h => absurd h hk0)
    rw [if_neg hk0, List.append_nil] at this
    exact this
theorem d25_l0 (x : Int) (z : List UInt8) (hz : z.length ≤ 100) : ∀ (f k : Nat) (y : List UInt8), k < 10 ^ f → k < 18446744073709551616 → y.length + f ≤ 1000 → (k = 0 → y ≠ []) →
    ref25_decimal_l0 x (k : Int) (ofL y) = some (ofL (if x < 0 then 45 :: (if k = 0 then y else Lib.decDigits k ++ y) else (if k = 0 then y else Lib.decDigits k ++ y))) := by
  intro f
  have fin : ∀ y : List UInt8, y.length ≤ 1000 → y ≠ [] → ref25_decimal_l0 x ((0 : Nat) : Int) (ofL y) = some (ofL (if x < 0 then 45 :: y else y)) := fun y hy hne => by
    rw [ref25_decimal_l0_eq, Bool.cond_decide, if_neg (by decide), ofL_ne hne, cond_false, Bool.cond_decide]
    by_cases hx : x < 0
    · rw [if_pos hx, if_pos hx, show (⟨#[45]⟩ : ByteArray) = ofL [45] from rfl, ofL_size, ofL_size, Bool.cond_decide, if_pos (show _ ≤ room by simp only [room_eq, List.length_cons, List.length_nil]; omega), ofL_app]; rfl
    · rw [if_neg hx, if_neg hx]
  induction f with
  | zero =>
    intro k y hk hk2 hy hne
    have hk0 : k = 0 := by simpa using hk
    subst hk0
    rw [if_pos rfl]
    exact fin y (by omega) (hne rfl)
  | succ f ih =>
    intro k y hk hk2 hy hne
    by_cases hk0 : k = 0
    · subst hk0; rw [if_pos rfl]; exact fin y (by omega) (hne rfl)
    · have hd : ((k : Int).tmod 10) = ((k % 10 : Nat) : Int) := by rw [Int.tmod_eq_emod_of_nonneg (by omega)]; omega
      have hq : IntKind.u64.wrap ((k : Int).tdiv 10) = ((k / 10 : Nat) : Int) := by rw [Int.tdiv_eq_ediv_of_nonneg (by omega), wrap_u64 (by omega) (by omega)]; omega
      rw [ref25_decimal_l0_eq, Bool.cond_decide, if_pos (by omega), hd, hq, digit_ofu, ofL_app, ofL_size, ofL_size, Bool.cond_decide, if_pos (show _ ≤ room by simp only [room_eq, List.length_cons, List.length_nil]; omega), if_neg hk0,
        show [UInt8.ofNat (48 + k % 10)] ++ y = UInt8.ofNat (48 + k % 10) :: y from rfl,
        ih (k / 10) _ (Nat.div_lt_of_lt_mul (by rw [Nat.pow_succ, Nat.mul_comm] at hk; exact hk)) (by omega) (by simp only [List.length_cons]; omega) (fun _ => by simp)]
      by_cases h10 : k < 10
      · rw [if_pos (show k / 10 = 0 by omega), dec_one h10]; rfl
      · rw [if_neg (show ¬ k / 10 = 0 by omega), dec_step (k := k) (by omega), List.append_assoc]; rfl
theorem d25_zero (x : Int) : ref25_decimal_l0 x ((0 : Nat) : Int) (ofL []) = ref25_decimal_l0 x ((0 : Nat) : Int) (ofL [48]) := by
  have hd : (((0 : Nat) : Int).tmod 10) = ((0 % 10 : Nat) : Int) := rfl
  have hq : IntKind.u64.wrap (((0 : Nat) : Int).tdiv 10) = ((0 : Nat) : Int) := rfl
  rw [ref25_decimal_l0_eq, Bool.cond_decide, if_neg (by decide), show ((ofL []).toList == (⟨#[]⟩ : ByteArray).toList) = true from beq_yes rfl, cond_true, hd, hq, digit_ofu, ofL_app, ofL_size, ofL_size, Bool.cond_decide, if_pos (show _ ≤ room by simp only [room_eq, List.length_cons, List.length_nil]; omega)]
  rfl
theorem d25_spec {n : Int} (h : -9223372036854775808 ≤ n ∧ n ≤ 9223372036854775807) : ref25_decimal n = some (itoaS n) := by
  rw [ref25_decimal_eq, Bool.cond_decide, show (⟨#[]⟩ : ByteArray) = ofL [] from rfl]
  by_cases hn : n < 0
  · have e : IntKind.u64.wrap (0 - IntKind.u64.wrap n) = ((n.natAbs : Nat) : Int) := by rw [wrap_u64', wrap_u64']; omega
    rw [if_pos hn, e, d25_l0 n [] (by decide) 20 n.natAbs [] (Nat.lt_of_le_of_lt (show n.natAbs ≤ 9223372036854775808 by omega) (by decide)) (by omega) (by decide) (fun h => by omega), if_pos hn, if_neg (by omega), List.append_nil]
    unfold itoaS Lib.itoa; rw [if_pos hn]; rfl
  · have e : IntKind.u64.wrap n = ((n.toNat : Nat) : Int) := by rw [wrap_u64']; omega
    rw [if_neg hn, e]
    have hi : itoaS n = ofL (Lib.decDigits n.toNat) := by unfold itoaS Lib.itoa; rw [if_neg hn]; rfl
    rw [hi]
    by_cases h0 : n.toNat = 0
    · rw [h0, d25_zero, d25_l0 n [] (by decide) 0 0 [48] (by decide) (by decide) (by decide) (fun _ => by simp), if_neg hn, if_pos rfl, dec_one (by decide)]; rfl
    · rw [d25_l0 n [] (by decide) 20 n.toNat [] (Nat.lt_of_le_of_lt (show n.toNat ≤ 9223372036854775808 by omega) (by decide)) (by omega) (by decide) (fun h => absurd h h0), if_neg hn, if_neg h0, List.append_nil]
/-- Where a message goes. -/
theorem where_pub {s : ByteArray} {k n : Int} (hs : s.size ≤ 100000) (hk : -9223372036854775808 ≤ k ∧ k ≤ 9223372036854775807) :
    ∃ p e, engine_Where s k n = some (p, e) ∧ ref25_Where s k n = some (p, e) ∧ route (s ++ (⟨#[32]⟩ : ByteArray) ++ itoaS k) n = (p, e) := by
  have e1 : isize s = (s.size : Int) := isize_eq s
  have e2 : isize (⟨#[32]⟩ : ByteArray) = 1 := isize_eq _
  have e3 : isize (itoaS k) = ((Lib.itoa k).length : Int) := isize_eq _
  have l := itoa_len hk
  have hz : (s ++ (⟨#[32]⟩ : ByteArray) ++ itoaS k).size ≤ 140737488351232 := by
    have := app_size (s ++ (⟨#[32]⟩ : ByteArray)) (itoaS k)
    have h2 := app_size s (⟨#[32]⟩ : ByteArray)
    have : (((s ++ (⟨#[32]⟩ : ByteArray) ++ itoaS k).size : Nat) : Int) = isize (s ++ (⟨#[32]⟩ : ByteArray) ++ itoaS k) := (isize_eq _).symm
    omega
  refine ⟨(route (s ++ (⟨#[32]⟩ : ByteArray) ++ itoaS k) n).1, (route (s ++ (⟨#[32]⟩ : ByteArray) ++ itoaS k) n).2, ?_, ?_, rfl⟩
  · rw [engine_Where_eq, Bool.cond_decide, if_pos (show _ ≤ room by rw [e1, e2]; simp only [room_eq]; omega), strconv_FormatInt_eq, beq_yes rfl, cond_true, strconv_Itoa_yes hk, Option.bind_some, app_size, Bool.cond_decide, if_pos (show _ ≤ room by rw [e1, e2, e3]; simp only [room_eq]; omega), Route_says hz]
    rfl
  · rw [ref25_Where_eq, Bool.cond_decide, if_pos (show _ ≤ room by rw [e1, e2]; simp only [room_eq]; omega), d25_spec hk, Option.bind_some, app_size, Bool.cond_decide, if_pos (show _ ≤ room by rw [e1, e2, e3]; simp only [room_eq]; omega), refRoute_says hz]
    rfl
end Go.Proofs.YtdbenenonfldkaaDoor.PE
namespace Go.Proofs.YtdbenenonfldkaaDoor.PE
open Go Go.RowKit
attribute [local irreducible] ses_Check_l0 ref29_Check_l0 ref29_Same_l0
abbrev E29 : Type := Int × Int × List Int
def newOk (a b c : Int) : Prop := 1 ≤ a ∧ a ≤ 1099511627776 ∧ 1 ≤ b ∧ b ≤ 7 ∧ 1 ≤ c ∧ c ≤ 64
theorem new_yes {a b c : Int} (h : newOk a b c) : ses_New a b c = some (a, 0, b, c, 1, [], 0, 0) := by
  obtain ⟨h1, h2, h3, h4, h5, h6⟩ := h
  rw [ses_New_eq, Bool.cond_decide, if_neg (by omega), Bool.cond_decide, if_neg (by omega), Bool.cond_decide, if_neg (by omega), Bool.cond_decide, if_neg (by omega), Bool.cond_decide, if_neg (by omega), Bool.cond_decide, if_neg (by omega)]
theorem new_no {a b c : Int} (h : ¬ newOk a b c) : ses_New a b c = some (0, 0, 0, 0, 0, [], 0, 2) := by
  rw [ses_New_eq, Bool.cond_decide]
  by_cases h1 : a < 1
  · rw [if_pos h1]
  rw [if_neg h1, Bool.cond_decide]
  by_cases h2 : a > 1099511627776
  · rw [if_pos h2]
  rw [if_neg h2, Bool.cond_decide]
  by_cases h3 : b < 1
  · rw [if_pos h3]
  rw [if_neg h3, Bool.cond_decide]
  by_cases h4 : b > 7
  · rw [if_pos h4]
  rw [if_neg h4, Bool.cond_decide]
  by_cases h5 : c < 1
  · rw [if_pos h5]
  rw [if_neg h5, Bool.cond_decide, if_pos]
  exact Int.not_le.mp fun h6 => h ⟨by omega, by omega, by omega, by omega, by omega, h6⟩
theorem new_same (a b c : Int) : ref29_New a b c = ses_New a b c := (ref29_New_eq a b c).trans (ses_New_eq a b c).symm
theorem new_tot (a b c : Int) : ∃ v, ses_New a b c = some v ∧ v.2.2.2.2.2.1 = [] := by
  by_cases h : newOk a b c
  · exact ⟨_, new_yes h, rfl⟩
  · exact ⟨_, new_no h, rfl⟩
def okE (x3 s : Int) (e : E29) : Bool := decide (0 ≤ e.1) && (decide (e.1 < x3) && (e.2.1 == s && decide (1 ≤ s)))
def okO (x3 : Int) : Int → List E29 → Bool
  | _, [] => true
  | s, e :: r => okE x3 s e && okO x3 (s + 1) r
theorem okO_app (x3 : Int) : ∀ (a b : List E29) (s : Int), okO x3 s (a ++ b) = (okO x3 s a && okO x3 (s + a.length) b)
  | [], b, s => by rw [List.nil_append, okO, Bool.true_and, List.length_nil]; simp
  | e :: a, b, s => by
    rw [List.cons_append, okO, okO, okO_app x3 a b (s + 1), Bool.and_assoc, List.length_cons, show s + 1 + (a.length : Int) = s + ((a.length + 1 : Nat) : Int) by omega]
theorem okE_yes {x3 s : Int} {e : E29} : okE x3 s e = true ↔ 0 ≤ e.1 ∧ e.1 < x3 ∧ e.2.1 = s ∧ 1 ≤ s := by
  unfold okE
  rw [Bool.and_eq_true, Bool.and_eq_true, Bool.and_eq_true, decide_eq_true_eq, decide_eq_true_eq, decide_eq_true_eq, beq_iff_eq]
open Classical in
/-- What is wrong with a client. -/
noncomputable def chkS (x0 x1 x2 x3 x4 : Int) (x5 : List E29) (x6 : Int) : Int :=
  if newOk x0 x2 x3 then if 0 ≤ x1 ∧ x1 ≤ 1099511627776 ∧ 1 ≤ x4 ∧ x4 ≤ x2 ∧ (x5.length : Int) ≤ x3 ∧ 0 ≤ x6 ∧ x6 ≤ 17 then bif okO x3 (x1 - x5.length + 1) x5 then 0 else 1 else 1 else 2
theorem chk_l0 {l : List E29} {x0 x1 x2 x3 x4 x6 : Int} (hl : l.length ≤ 100) (h1 : 0 ≤ x1 ∧ x1 ≤ 1099511627776) : ∀ (r : List E29) (i : Nat), l.drop i = r → i ≤ l.length →
    ses_Check_l0 l (l.length : Int) (i : Int) x0 x1 x2 x3 x4 l x6 = some (bif okO x3 (x1 - l.length + 1 + i) r then 0 else 1) := by
  intro r
  induction r with
  | nil =>
    intro i hd _
    have := at_nil hd
    rw [ses_Check_l0_eq, Bool.cond_decide, if_neg (by omega)]; rfl
  | cons e r ih =>
    intro i hd hi
    obtain ⟨k1, k2, k3⟩ := at_drop hd
    have w : IntKind.i64.wrap (IntKind.i64.wrap (IntKind.i64.wrap (x1 - ilen l) + 1) + (i : Int)) = x1 - l.length + 1 + i := by
      rw [ilen_eq, wrap_i64 (x := x1 - (l.length : Int)) (by omega) (by omega), wrap_i64 (x := x1 - (l.length : Int) + 1) (by omega) (by omega), wrap_i64 (by omega) (by omega)]
    rw [ses_Check_l0_eq, Bool.cond_decide, if_pos (by omega), Bool.cond_decide, if_pos (by omega), Int.toNat_natCast, k2, Option.bind_some, w, Bool.cond_decide, Bool.cond_decide, Bool.cond_decide, wrap_succ (by omega), ih (i + 1) k3 (by omega), okO]
    have key : ∀ b : Bool, okE x3 (x1 - l.length + 1 + i) e = b → b = false → (bif okE x3 (x1 - l.length + 1 + i) e && okO x3 (x1 - l.length + 1 + i + 1) r then (0 : Int) else 1) = 1 := fun b h hb => by rw [h, hb]; rfl
    have no : ¬ (0 ≤ e.1 ∧ e.1 < x3 ∧ e.2.1 = x1 - l.length + 1 + i ∧ 1 ≤ x1 - l.length + 1 + i) → okE x3 (x1 - l.length + 1 + i) e = false := fun h => by
      cases hb : okE x3 (x1 - l.length + 1 + i) e with
      | false => rfl
      | true => exact absurd (okE_yes.1 hb) h
    by_cases c1 : e.1 < 0
    · rw [if_pos c1, key _ (no (by omega)) rfl]
    rw [if_neg c1]
    by_cases c2 : e.1 ≥ x3
    · rw [if_pos c2, key _ (no (by omega)) rfl]
    rw [if_neg c2]
    by_cases c3 : e.2.1 = x1 - l.length + 1 + i
    · rw [bne_no c3, cond_false]
      by_cases c4 : e.2.1 < 1
      · rw [if_pos c4, key _ (no (by omega)) rfl]
      · rw [if_neg c4, okE_yes.2 ⟨by omega, by omega, c3, by omega⟩, Bool.true_and, show x1 - (l.length : Int) + 1 + ((i + 1 : Nat) : Int) = x1 - l.length + 1 + i + 1 by omega]
    · rw [bne_yes c3, cond_true, key _ (no (by omega)) rfl]
theorem ref_l0 {l : List E29} {x0 x1 x2 x3 x4 x6 : Int} (hl : l.length ≤ 100) (h1 : 0 ≤ x1 ∧ x1 ≤ 1099511627776) : ∀ (i : Nat), i ≤ l.length →
    ref29_Check_l0 (x1 - l.length + i) ((i : Int) - 1) x0 x1 x2 x3 x4 l x6 = some (bif okO x3 (x1 - l.length + 1) (l.take i) then 0 else 1) := by
  intro i
  induction i with
  | zero => intro _; rw [ref29_Check_l0_eq, Bool.cond_decide, if_neg (by omega)]; rfl
  | succ i ih =>
    intro hi
    have hlt : i < l.length := by omega
    have hg : l[i]? = some l[i] := List.getElem?_eq_getElem hlt
    have ht : l.take (i + 1) = l.take i ++ [l[i]] := by rw [List.take_add_one, hg]; rfl
    have hlen : (l.take i).length = i := by rw [List.length_take]; omega
    rw [ht, okO_app, hlen, okO, okO, Bool.and_true]
    generalize l[i] = e at hg
    have w1 : IntKind.i64.wrap (x1 - (l.length : Int) + ((i + 1 : Nat) : Int) - 1) = x1 - l.length + i := by rw [wrap_i64 (by omega) (by omega)]; omega
    have w2 : IntKind.i64.wrap (((i + 1 : Nat) : Int) - 1 - 1) = (i : Int) - 1 := by rw [wrap_i64 (by omega) (by omega)]; omega
    have e0 : ((i + 1 : Nat) : Int) - 1 = (i : Int) := by omega
    rw [ref29_Check_l0_eq, w1, w2, e0, Bool.cond_decide, if_pos (by omega), Bool.cond_decide, if_pos (by omega), Int.toNat_natCast, hg, Option.bind_some, Bool.cond_decide, Bool.cond_decide, Bool.cond_decide, ih (by omega)]
    have no : ¬ (0 ≤ e.1 ∧ e.1 < x3 ∧ e.2.1 = x1 - l.length + 1 + i ∧ 1 ≤ x1 - l.length + 1 + i) → okE x3 (x1 - l.length + 1 + i) e = false := fun h => by
      cases hb : okE x3 (x1 - l.length + 1 + i) e with
      | false => rfl
      | true => exact absurd (okE_yes.1 hb) h
    by_cases c1 : e.1 < 0
    · rw [if_pos c1, no (by omega), Bool.and_false]; rfl
    rw [if_neg c1]
    by_cases c2 : e.1 ≥ x3
    · rw [if_pos c2, no (by omega), Bool.and_false]; rfl
    rw [if_neg c2]
    by_cases c3 : e.2.1 = x1 - (l.length : Int) + ((i + 1 : Nat) : Int)
    · rw [bne_no c3, cond_false]
      by_cases c4 : x1 - (l.length : Int) + ((i + 1 : Nat) : Int) < 1
      · rw [if_pos c4, no (by omega), Bool.and_false]; rfl
      · rw [if_neg c4, okE_yes.2 ⟨by omega, by omega, by omega, by omega⟩, Bool.and_true]
    · rw [bne_yes c3, cond_true, no (by omega), Bool.and_false]; rfl
theorem check_S {x0 x1 x2 x3 x4 : Int} {x5 : List E29} {x6 : Int} (hl : x5.length ≤ 100) : ses_Check x0 x1 x2 x3 x4 x5 x6 = some (chkS x0 x1 x2 x3 x4 x5 x6) := by
  rw [ses_Check_eq, chkS]
  by_cases hn : newOk x0 x2 x3
  · rw [new_yes hn, Option.bind_some, if_pos hn]
    dsimp only
    rw [bne_no rfl, cond_false, Bool.cond_decide]
    have no : ∀ {p : Prop} {d : Decidable p}, ¬ p → ∀ {a b : Int}, (@ite _ p d a b) = b := fun h => if_neg h
    by_cases c1 : x1 < 0
    · rw [if_pos c1, if_neg (by omega)]
    rw [if_neg c1, Bool.cond_decide]
    by_cases c2 : x1 > 1099511627776
    · rw [if_pos c2, if_neg (by omega)]
    rw [if_neg c2, Bool.cond_decide]
    by_cases c3 : x4 < 1
    · rw [if_pos c3, if_neg (by omega)]
    rw [if_neg c3, Bool.cond_decide]
    by_cases c4 : x4 > x2
    · rw [if_pos c4, if_neg (by omega)]
    rw [if_neg c4, Bool.cond_decide, ilen_eq]
    by_cases c5 : (x5.length : Int) > x3
    · rw [if_pos c5, if_neg (by omega)]
    rw [if_neg c5, Bool.cond_decide]
    by_cases c6 : x6 < 0
    · rw [if_pos c6, if_neg (by omega)]
    rw [if_neg c6, Bool.cond_decide]
    by_cases c7 : x6 > 17
    · rw [if_pos c7, if_neg (by omega)]
    rw [if_neg c7, if_pos (by omega)]
    have := chk_l0 (x0 := x0) (x2 := x2) (x3 := x3) (x4 := x4) (x6 := x6) hl (x1 := x1) (by omega) x5 0 rfl (Nat.zero_le _)
    rw [show x1 - (x5.length : Int) + 1 + ((0 : Nat) : Int) = x1 - x5.length + 1 by omega] at this
    exact this
  · rw [new_no hn, Option.bind_some, if_neg hn]; rfl
theorem check_R {x0 x1 x2 x3 x4 : Int} {x5 : List E29} {x6 : Int} (hl : x5.length ≤ 100) : ref29_Check x0 x1 x2 x3 x4 x5 x6 = some (chkS x0 x1 x2 x3 x4 x5 x6) := by
  rw [ref29_Check_eq, chkS, new_same]
  by_cases hn : newOk x0 x2 x3
  · rw [new_yes hn, Option.bind_some, if_pos hn]
    dsimp only
    rw [bne_no rfl, cond_false, Bool.cond_decide]
    by_cases c1 : x1 < 0
    · rw [if_pos c1, if_neg (by omega)]
    rw [if_neg c1, Bool.cond_decide]
    by_cases c2 : x1 > 1099511627776
    · rw [if_pos c2, if_neg (by omega)]
    rw [if_neg c2, Bool.cond_decide]
    by_cases c3 : x4 < 1
    · rw [if_pos c3, if_neg (by omega)]
    rw [if_neg c3, Bool.cond_decide]
    by_cases c4 : x4 > x2
    · rw [if_pos c4, if_neg (by omega)]
    rw [if_neg c4, Bool.cond_decide, ilen_eq]
    by_cases c5 : (x5.length : Int) > x3
    · rw [if_pos c5, if_neg (by omega)]
    rw [if_neg c5, Bool.cond_decide]
    by_cases c6 : x6 < 0
    · rw [if_pos c6, if_neg (by omega)]
    rw [if_neg c6, Bool.cond_decide]
    by_cases c7 : x6 > 17
    · rw [if_pos c7, if_neg (by omega)]
    rw [if_neg c7, if_pos (by omega), wrap_i64 (by omega) (by omega)]
    have := ref_l0 (x0 := x0) (x2 := x2) (x3 := x3) (x4 := x4) (x6 := x6) hl (x1 := x1) (by omega) x5.length (Nat.le_refl _)
    rw [List.take_length, show x1 - (x5.length : Int) + (x5.length : Int) = x1 by omega] at this
    exact this
  · rw [new_no hn, Option.bind_some, if_neg hn]; rfl
theorem chkS_zero {x0 x1 x2 x3 x4 : Int} {x5 : List E29} {x6 : Int} (h : chkS x0 x1 x2 x3 x4 x5 x6 = 0) : newOk x0 x2 x3 ∧ (0 ≤ x1 ∧ x1 ≤ 1099511627776 ∧ 1 ≤ x4 ∧ x4 ≤ x2 ∧ (x5.length : Int) ≤ x3 ∧ 0 ≤ x6 ∧ x6 ≤ 17) ∧ okO x3 (x1 - x5.length + 1) x5 = true := by
  unfold chkS at h
  by_cases hn : newOk x0 x2 x3
  · rw [if_pos hn] at h
    by_cases hc : 0 ≤ x1 ∧ x1 ≤ 1099511627776 ∧ 1 ≤ x4 ∧ x4 ≤ x2 ∧ (x5.length : Int) ≤ x3 ∧ 0 ≤ x6 ∧ x6 ≤ 17
    · rw [if_pos hc] at h
      cases ho : okO x3 (x1 - x5.length + 1) x5 with
      | true => exact ⟨hn, hc, rfl⟩
      | false => rw [ho] at h; cases h
    · rw [if_neg hc] at h; cases h
  · rw [if_neg hn] at h; cases h
theorem chkS_ok {x0 x1 x2 x3 x4 : Int} {x5 : List E29} {x6 : Int} (hn : newOk x0 x2 x3) (hc : 0 ≤ x1 ∧ x1 ≤ 1099511627776 ∧ 1 ≤ x4 ∧ x4 ≤ x2 ∧ (x5.length : Int) ≤ x3 ∧ 0 ≤ x6 ∧ x6 ≤ 17) (ho : okO x3 (x1 - x5.length + 1) x5 = true) : chkS x0 x1 x2 x3 x4 x5 x6 = 0 := by
  unfold chkS; rw [if_pos hn, if_pos hc, ho]; rfl
theorem same_l0 (x0 x1 x2 x3 x4 x6 : Int) {l : List E29} (hl : l.length ≤ 1000) : ∀ (r : List E29) (i : Nat), l.drop i = r → ref29_Same_l0 (i : Int) x0 x1 x2 x3 x4 l x6 x0 x1 x2 x3 x4 l x6 = some true := by
  intro r
  induction r with
  | nil =>
    intro i hd
    have := at_nil hd
    rw [ref29_Same_l0_eq, ilen_eq, Bool.cond_decide, if_neg (by omega)]
  | cons e r ih =>
    intro i hd
    obtain ⟨h1, h2, h3⟩ := at_drop hd
    have hp : decide ((0 : Int) ≤ (i : Int)) = true := decide_eq_true (by omega)
    rw [ref29_Same_l0_eq, ilen_eq, Bool.cond_decide, if_pos (by omega)]
    simp -implicitDefEqProofs only [hp, cond_true, Int.toNat_natCast, h2, Option.bind_some, bne_self_eq_false, cond_false, beq_self_eq_true, Bool.not_true, wrap_succ (show i < 9223372036854775807 by omega)]
    exact ih (i + 1) h3
theorem same_S (x0 x1 x2 x3 x4 x6 : Int) {l : List E29} (hl : l.length ≤ 1000) : ref29_Same x0 x1 x2 x3 x4 l x6 x0 x1 x2 x3 x4 l x6 = some true := by
  rw [ref29_Same_eq]
  simp -implicitDefEqProofs only [bne_self_eq_false, cond_false]
  exact same_l0 x0 x1 x2 x3 x4 x6 hl _ 0 rfl
end Go.Proofs.YtdbenenonfldkaaDoor.PE
namespace Go.Proofs.YtdbenenonfldkaaDoor.PE
open Go Go.RowKit Go.Proofs.YtdbenenonfldkaaDoor.Pack
attribute [local irreducible] ses_where_l1 ref29_where_l1
def upto : Nat → Nat → List Int
  | _, 0 => []
  | i, d + 1 => (i : Int) :: upto (i + 1) d
theorem upto_len : ∀ (i d : Nat), (upto i d).length = d
  | _, 0 => rfl
  | i, d + 1 => by rw [upto, List.length_cons, upto_len (i + 1) d]
theorem upto_mem : ∀ {i d : Nat} {p : Int}, p ∈ upto i d → (i : Int) ≤ p ∧ p < (i : Int) + d
  | _, 0, p, h => by cases h
  | i, d + 1, p, h => by
    rcases List.mem_cons.mp h with rfl | h
    · omega
    · have := upto_mem h; omega
theorem w1_loop (n : Nat) (hn : n ≤ 64) (y2 y3 y4 : Int) (y5 y6 : ByteArray) (y7 : Int) (y8 : List ByteArray) (y9 : List Int) (y10 y11 y12 y13 : Int) (y14 : List Int) (y15 y16 y17 : Int) (y18 y19 : ByteArray) (y20 y21 y22 y23 y24 : Int) :
    ∀ (d i : Nat) (acc : List Int), i + d = n → acc.length = i → ses_where_l1 (n : Int) (i : Int) y2 y3 y4 y5 y6 y7 y8 y9 y10 y11 y12 y13 y14 y15 y16 y17 y18 y19 y20 y21 y22 y23 y24 acc = some (acc ++ upto i d, y2, y3, y4, y5, y6, y7, y8, y9, y10, y11, y12, y13, y14, 0) := by
  intro d
  induction d with
  | zero =>
    intro i acc hi ha
    rw [ses_where_l1_eq, Bool.cond_decide, if_neg (by omega), upto, List.append_nil]
  | succ d ih =>
    intro i acc hi ha
    rw [ses_where_l1_eq, Bool.cond_decide, if_pos (by omega), Bool.cond_decide, if_pos (show _ ≤ room by simp only [ilen_eq, room_eq, List.length_cons, List.length_nil]; omega), wrap_succ (by omega), ih (i + 1) _ (by omega) (by rw [List.length_append, ha]; rfl), upto, List.append_assoc]
    rfl
theorem r1_loop (n : Nat) (hn : n ≤ 64) (y1 y2 y3 y5 : Int) (y6 : List E29) (y7 y8 y9 y10 : Int) (y11 y12 : ByteArray) (y13 : Int) (y14 : List ByteArray) (y15 : List Int) (y16 y17 y18 y19 : Int) (y20 : List Int) :
    ∀ (d i : Nat) (acc : List Int), i + d = n → acc.length = i → ref29_where_l1 (i : Int) y1 y2 y3 (n : Int) y5 y6 y7 y8 y9 y10 y11 y12 y13 y14 y15 y16 y17 y18 y19 y20 acc = some (acc ++ upto i d, y16, 0) := by
  intro d
  induction d with
  | zero =>
    intro i acc hi ha
    rw [ref29_where_l1_eq, Bool.cond_decide, if_neg (by omega), upto, List.append_nil]
  | succ d ih =>
    intro i acc hi ha
    rw [ref29_where_l1_eq, Bool.cond_decide, if_pos (by omega), Bool.cond_decide, if_pos (show _ ≤ room by simp only [ilen_eq, room_eq, List.length_cons, List.length_nil]; omega), wrap_succ (by omega), ih (i + 1) _ (by omega) (by rw [List.length_append, ha]; rfl), upto, List.append_assoc]
    rfl
theorem route_range (s : ByteArray) {n : Int} (hn : 1 ≤ n ∧ n ≤ 64) : (route s n).2 = 0 ∧ 0 ≤ (route s n).1 ∧ (route s n).1 < n := by
  unfold route prtE
  rw [if_neg (by omega)]
  split
  · exact ⟨rfl, Int.le_refl _, by show (0 : Int) < n; omega⟩
  · rename_i h
    exact ⟨rfl, (prt_range (half_sm _) (half_sm _) hn h).1, (prt_range (half_sm _) (half_sm _) hn h).2⟩
/-- What is said of where a command goes, by the program and by the chapter. -/
def WhereOk (x0 x1 x2 x3 x4 : Int) (x5 : List E29) (x6 x7 x8 x9 : Int) (x10 x11 : ByteArray) (x12 : Int) (x13 : List ByteArray) (x14 : List Int) (x15 x16 x17 x18 : Int) (x19 : List Int) : Prop :=
  ∃ (l : List Int) (id e : Int) (l2 : List Int) (id2 : Int), ses_where x0 x1 x2 x3 x4 x5 x6 x7 x8 x9 x10 x11 x12 x13 x14 x15 x16 x17 x18 x19 = some (l, x7, x8, x9, x10, x11, x12, x13, x14, id, x16, x17, x18, x19, e) ∧
    ref29_where x0 x1 x2 x3 x4 x5 x6 x7 x8 x9 x10 x11 x12 x13 x14 x15 x16 x17 x18 x19 = some (l2, id2, e) ∧ (e = 0 → l2 = l ∧ id2 = id ∧ (∀ p ∈ l, 0 ≤ p ∧ p < x3) ∧ (l.length : Int) ≤ x3)
theorem size_nat (s : ByteArray) : isize s = (s.size : Int) := isize_eq s
/-- The five kinds that name a thing by its number. -/
theorem where_num {x15 x3 : Int} (h15 : x15 ≤ 9223372036854775807) (h3 : 1 ≤ x3) : ∃ p id e, ses_Local x15 = some (p, id, e) ∧ ref29_Local x15 = some (p, id, e) ∧ (e = 0 → 0 ≤ p) := by
  rw [loc_same h15]
  by_cases hx : 0 ≤ x15 ∧ x15 / 64 ≤ 1099511627776
  · exact ⟨_, _, _, loc_yes hx.1 hx.2, loc_yes hx.1 hx.2, fun _ => by omega⟩
  · exact ⟨_, _, _, loc_no h15 hx, loc_no h15 hx, fun h => (by cases h)⟩
theorem where_both {x0 x1 x2 x3 x4 : Int} {x5 : List E29} {x6 x7 x8 x9 : Int} {x10 x11 : ByteArray} {x12 : Int} {x13 : List ByteArray} {x14 : List Int} {x15 x16 x17 x18 : Int} {x19 : List Int}
    (h0 : 1 ≤ x0 ∧ x0 ≤ 1099511627776) (h1 : 0 ≤ x1 ∧ x1 ≤ 1099511627776) (h3 : 1 ≤ x3 ∧ x3 ≤ 64) (h10 : x10.size ≤ 1000) (h12 : -9223372036854775808 ≤ x12 ∧ x12 ≤ 9223372036854775807) (h15 : x15 ≤ 9223372036854775807) :
    WhereOk x0 x1 x2 x3 x4 x5 x6 x7 x8 x9 x10 x11 x12 x13 x14 x15 x16 x17 x18 x19 := by
  unfold WhereOk
  rw [ses_where_eq, ref29_where_eq]
  by_cases c2 : x7 = 2
  · obtain ⟨n, rfl⟩ : ∃ n : Nat, x3 = (n : Int) := ⟨x3.toNat, by omega⟩
    rw [beq_yes c2, cond_true, cond_true]
    refine ⟨upto 0 n, x15, 0, upto 0 n, x15, ?_, ?_, fun _ => ⟨rfl, rfl, fun p hp => by have := upto_mem hp; omega, by rw [upto_len]; exact Int.le_refl _⟩⟩
    · exact w1_loop n (by omega) _ _ _ _ _ _ _ _ _ _ _ _ _ _ _ _ _ _ _ _ _ _ _ n 0 [] (by omega) rfl
    · exact r1_loop n (by omega) _ _ _ _ _ _ _ _ _ _ _ _ _ _ _ _ _ _ _ n 0 [] (by omega) rfl
  rw [beq_no c2, cond_false, cond_false]
  by_cases c3 : x7 = 3
  · have e2 : isize (⟨#[32]⟩ : ByteArray) = 1 := isize_eq _
    have s0 : isize (itoaS x0) = ((Lib.itoa x0).length : Int) := isize_eq _
    have s1 : isize (itoaS x1) = ((Lib.itoa x1).length : Int) := isize_eq _
    have l0 := itoa_len (n := x0) (by omega)
    have l1 := itoa_len (n := x1) (by omega)
    have hz : (x10 ++ (⟨#[32]⟩ : ByteArray) ++ itoaS x0 ++ (⟨#[32]⟩ : ByteArray) ++ itoaS x1).size ≤ 140737488351232 := by
      have := size_nat (x10 ++ (⟨#[32]⟩ : ByteArray) ++ itoaS x0 ++ (⟨#[32]⟩ : ByteArray) ++ itoaS x1)
      rw [app_size, app_size, app_size, app_size, size_nat x10, e2, s0, s1] at this
      omega
    obtain ⟨r1, r2, r3⟩ := route_range (x10 ++ (⟨#[32]⟩ : ByteArray) ++ itoaS x0 ++ (⟨#[32]⟩ : ByteArray) ++ itoaS x1) h3
    rw [beq_yes c3, cond_true, cond_true]
    refine ⟨[(route (x10 ++ (⟨#[32]⟩ : ByteArray) ++ itoaS x0 ++ (⟨#[32]⟩ : ByteArray) ++ itoaS x1) x3).1], x15, (route (x10 ++ (⟨#[32]⟩ : ByteArray) ++ itoaS x0 ++ (⟨#[32]⟩ : ByteArray) ++ itoaS x1) x3).2, _, x15, ?_, ?_, fun _ => ⟨rfl, rfl, fun p hp => ?_, ?_⟩⟩
    · rw [Bool.cond_decide, if_pos (show _ ≤ room by rw [size_nat, e2]; simp only [room_eq]; omega), strconv_Itoa_yes (by omega), Option.bind_some, app_size, Bool.cond_decide, if_pos (show _ ≤ room by rw [size_nat, e2, s0]; simp only [room_eq]; omega), app_size, app_size, Bool.cond_decide, if_pos (show _ ≤ room by rw [size_nat, e2, s0]; simp only [room_eq]; omega),
        strconv_Itoa_yes (by omega), Option.bind_some, app_size, app_size, app_size, Bool.cond_decide, if_pos (show _ ≤ room by rw [size_nat, e2, s0, s1]; simp only [room_eq]; omega), Route_says hz, Option.bind_some]
    · rw [Bool.cond_decide, if_pos (show _ ≤ room by rw [size_nat, e2]; simp only [room_eq]; omega), d29_spec (by omega), Option.bind_some, app_size, Bool.cond_decide, if_pos (show _ ≤ room by rw [size_nat, e2, s0]; simp only [room_eq]; omega), app_size, app_size, Bool.cond_decide, if_pos (show _ ≤ room by rw [size_nat, e2, s0]; simp only [room_eq]; omega),
        d29_spec (by omega), Option.bind_some, app_size, app_size, app_size, Bool.cond_decide, if_pos (show _ ≤ room by rw [size_nat, e2, s0, s1]; simp only [room_eq]; omega), refRoute_says hz, Option.bind_some]
    · rw [List.mem_singleton] at hp; subst hp; exact ⟨r2, r3⟩
    · show (1 : Int) ≤ x3; omega
  rw [beq_no c3, cond_false, cond_false]
  by_cases c4 : x7 = 4
  · obtain ⟨p, e, w1, w2, w3⟩ := where_pub (s := x10) (k := x12) (n := x3) (by omega) h12
    obtain ⟨r1, r2, r3⟩ := route_range (x10 ++ (⟨#[32]⟩ : ByteArray) ++ itoaS x12) h3
    rw [w3] at r1 r2 r3
    rw [beq_yes c4, cond_true, cond_true, w1, w2]
    exact ⟨[p], x15, e, [p], x15, rfl, rfl, fun _ => ⟨rfl, rfl, fun q hq => by rw [List.mem_singleton] at hq; subst hq; exact ⟨r2, r3⟩, by show (1 : Int) ≤ x3; omega⟩⟩
  rw [beq_no c4, cond_false, cond_false]
  by_cases c5 : x7 = 5
  · have m1 := Int.emod_nonneg x1 (show x3 ≠ 0 by omega)
    have m2 := Int.emod_lt_of_pos x1 (show (0 : Int) < x3 by omega)
    have e : x1.tmod x3 = x1 % x3 := Int.tmod_eq_emod_of_nonneg h1.1
    rw [beq_yes c5, cond_true, cond_true, Bool.cond_decide, if_neg (by omega), e]
    exact ⟨[x1 % x3], x15, 0, [x1 % x3], x15, rfl, by rw [Bool.cond_decide, if_neg (by omega)], fun _ => ⟨rfl, rfl, fun q hq => by rw [List.mem_singleton] at hq; subst hq; exact ⟨m1, m2⟩, by show (1 : Int) ≤ x3; omega⟩⟩
  rw [beq_no c5, cond_false, cond_false]
  obtain ⟨p, id, e, n1, n2, n3⟩ := where_num h15 (x3 := x3) h3.1
  have fin : ∀ {A B : Option (List Int × Int × Int × Int × ByteArray × ByteArray × Int × List ByteArray × List Int × Int × Int × Int × Int × List Int × Int)} {C : Option (List Int × Int × Int)},
      A = (bif e == 0 then bif decide (p ≥ x3) then some ([p], x7, x8, x9, x10, x11, x12, x13, x14, id, x16, x17, x18, x19, 9) else some ([p], x7, x8, x9, x10, x11, x12, x13, x14, id, x16, x17, x18, x19, e) else some ([p], x7, x8, x9, x10, x11, x12, x13, x14, id, x16, x17, x18, x19, e)) →
      C = (bif e == 0 then bif decide (p ≥ x3) then some ([], 0, 9) else some ([p], id, e) else some ([p], id, e)) →
      ∃ (l : List Int) (id e : Int) (l2 : List Int) (id2 : Int), A = some (l, x7, x8, x9, x10, x11, x12, x13, x14, id, x16, x17, x18, x19, e) ∧ C = some (l2, id2, e) ∧ (e = 0 → l2 = l ∧ id2 = id ∧ (∀ p ∈ l, 0 ≤ p ∧ p < x3) ∧ (l.length : Int) ≤ x3) := by
    intro A B C hA hC
    rw [hA, hC]
    by_cases he : e = 0
    · rw [beq_yes he, cond_true, cond_true, Bool.cond_decide, Bool.cond_decide]
      by_cases hp : p ≥ x3
      · rw [if_pos hp, if_pos hp]; exact ⟨[p], id, 9, [], 0, rfl, rfl, fun h => (by cases h)⟩
      · rw [if_neg hp, if_neg hp]; exact ⟨[p], id, e, [p], id, rfl, rfl, fun _ => ⟨rfl, rfl, fun q hq => by rw [List.mem_singleton] at hq; subst hq; exact ⟨n3 he, by omega⟩, by show (1 : Int) ≤ x3; omega⟩⟩
    · rw [beq_no he, cond_false, cond_false]; exact ⟨[p], id, e, [p], id, rfl, rfl, fun h => absurd h he⟩
  rw [n1, n2]
  by_cases c6 : x7 = 6
  · rw [beq_yes c6, cond_true, cond_true, cond_true, cond_true, Option.bind_some, Option.bind_some]; exact fin (B := none) rfl rfl
  rw [beq_no c6, cond_false, cond_false]
  by_cases c7 : x7 = 7
  · rw [beq_yes c7, cond_true, cond_true, cond_true, cond_true, Option.bind_some, Option.bind_some]; exact fin (B := none) rfl rfl
  rw [beq_no c7, cond_false, cond_false]
  by_cases c8 : x7 = 8
  · rw [beq_yes c8, cond_true, cond_true, cond_true, cond_true, Option.bind_some, Option.bind_some]; exact fin (B := none) rfl rfl
  rw [beq_no c8, cond_false, cond_false]
  by_cases c9 : x7 = 9
  · rw [beq_yes c9, cond_true, cond_true, cond_true, cond_true, Option.bind_some, Option.bind_some]; exact fin (B := none) rfl rfl
  rw [beq_no c9, cond_false, cond_false]
  by_cases c10 : x7 = 10
  · rw [beq_yes c10, cond_true, cond_true, Option.bind_some, Option.bind_some]; exact fin (B := none) rfl rfl
  rw [beq_no c10, cond_false, cond_false]
  exact ⟨[], x15, 1, [], 0, rfl, rfl, fun h => (by cases h)⟩
end Go.Proofs.YtdbenenonfldkaaDoor.PE
namespace Go.Proofs.YtdbenenonfldkaaDoor.PE
open Go Go.RowKit Go.Proofs.YtdbenenonfldkaaDoor.Pack
attribute [local irreducible] ses_Open_l0 ref29_Open_l0
abbrev Ses : Type := Int × Int × Int × Int × Int × List E29 × Int × Int
def errS (r : Ses) : Int := r.2.2.2.2.2.2.2
structure WfC (x10 x11 : ByteArray) (x12 : Int) (x13 : List ByteArray) (x14 : List Int) (x19 : List Int) : Prop where
  h3 : x10.size ≤ 1000
  h4 : x11.size ≤ 1000
  hl : x13.length ≤ 1000
  hv : x14.length ≤ 1000
  ht : Txt x13
  h5 : -9223372036854775808 ≤ x12 ∧ x12 ≤ 9223372036854775807
  h7 : I64 x14
  h12 : Bytes x19
theorem rest_len {a n w k v i o c t d : Bool} {x1 x2 : Int} {x3 x4 : ByteArray} {x5 : Int} {x6 : List ByteArray} {x7 : List Int} {x8 x9 x10 x11 : Int} {x12 : List Int} (ok : Ok24 a n w k v i o c t d x1 x2 x3 x4 x5 x6 x7 x8 x9 x10 x11 x12) : (rest24 a n w k v i o c t d x1 x2 x3 x4 x5 x6 x7 x8 x9 x10 x11 x12).length ≤ 100000 := by
  have n3 := name_small ok.c3
  have n4 := name_small ok.c4
  have g0 := eU_len a x1
  have g1 := eU_len i x8
  have g2 := eU_len o x9
  have g3 := eU_len c x10
  have g4 := eU_len t x11
  have g5 := eB_len n (bytesList x3)
  have g6 := eB_len w (bytesList x4)
  have g7 := eI_len k x5
  have g8 := eV_len ok.c6
  have g9 := eB_len d x12
  have g10 := ok.c13
  have g11 := eU_len a x2
  unfold rest24
  simp only [List.length_append]; omega
theorem put_both {x10 x11 : ByteArray} {x12 : Int} {x13 : List ByteArray} {x14 : List Int} {x19 : List Int} (wf : WfC x10 x11 x12 x13 x14 x19) (k c s id tk n now : Int) :
    ∃ b f, cmd_Put k c s x10 x11 x12 x13 x14 id tk n now x19 = some (b, f) ∧ ref24_Put k c s x10 x11 x12 x13 x14 id tk n now x19 = some (b, f) ∧ b.length ≤ 100001 := by
  obtain ⟨h3, h4, hl, hv, ht, h5, h7, h12⟩ := wf
  by_cases hc : chkC k c s x10 x11 x12 x13 x14 id tk n now x19 = 0
  · exact ⟨_, _, cmd_put_yes (by omega) (by omega) (by omega) (by omega) ht h5 h7 hc, refPut_yes (by omega) (by omega) (by omega) (by omega) ht h5 h7 h12 hc, Nat.succ_le_succ (rest_len (ok_all (kind_in hc) hc))⟩
  · exact ⟨_, _, cmd_put_no (by omega) (by omega) (by omega) (by omega) ht hc, refPut_no (by omega) (by omega) (by omega) (by omega) ht hc, Nat.zero_le _⟩
theorem open_loop {x0 x1 x2 x3 x4 x6 x7 x8 x9 : Int} {x5 : List E29} {x10 x11 : ByteArray} {x12 : Int} {x13 : List ByteArray} {x14 : List Int} {id x15 x16 x17 x18 : Int} {x19 : List Int} {l : List Int} (wf : WfC x10 x11 x12 x13 x14 x19)
    (h1 : 0 ≤ x1 ∧ x1 ≤ 1099511627776) (hl : l.length ≤ 64) (hp : ∀ p ∈ l, 0 ≤ p ∧ p < x3) : ∀ (r : List Int) (i : Nat) (acc : List E29) (cl se : Int), l.drop i = r → acc.length = i → i ≤ l.length → acc.map (·.1) = l.take i → okO x3 (x1 + 1) acc = true → (∀ e ∈ acc, e.2.2.length ≤ 100001) →
    ∃ res : Ses, ses_Open_l0 l (l.length : Int) (i : Int) x0 x1 x2 x3 x4 x5 x6 x7 cl se x10 x11 x12 x13 x14 id x16 x17 x18 x19 0 0 0 0 0 0 x0 (x1 + i) x2 x3 x4 0 acc = some res ∧
      ref29_Open_l0 l id (i : Int) x0 x1 x2 x3 x4 x5 x6 x7 x8 x9 x10 x11 x12 x13 x14 x15 x16 x17 x18 x19 0 0 0 0 0 0 x0 (x1 + l.length) x2 x3 x4 0 acc = some res ∧
      (errS res = 0 → ∃ a : List E29, res = (x0, x1 + l.length, x2, x3, x4, a, 0, 0) ∧ a.map (·.1) = l ∧ okO x3 (x1 + 1) a = true ∧ ∀ e ∈ a, e.2.2.length ≤ 100001) ∧ (errS res ≠ 0 → res.2.2.2.2.2.1 = []) := by
  intro r
  induction r with
  | nil =>
    intro i acc cl se hd ha hi hm ho hb
    have := at_nil hd
    have hil : i = l.length := by omega
    rw [ses_Open_l0_eq, ref29_Open_l0_eq, ilen_eq l, Bool.cond_decide, if_neg (by omega), Bool.cond_decide, if_neg (by omega)]
    exact ⟨_, by rw [hil], rfl, fun _ => ⟨acc, rfl, by rw [hm, hil, List.take_length], ho, hb⟩, fun h => absurd rfl h⟩
  | cons p r ih =>
    intro i acc cl se hd ha hi hm ho hb
    obtain ⟨k1, k2, k3⟩ := at_drop hd
    have hpp := hp p (List.mem_of_getElem? k2)
    have w1 : IntKind.i64.wrap (x1 + (i : Int) + 1) = x1 + ((i + 1 : Nat) : Int) := by rw [wrap_i64 (by omega) (by omega)]; omega
    have w2 : IntKind.i64.wrap (IntKind.i64.wrap (x1 + 1) + (i : Int)) = x1 + ((i + 1 : Nat) : Int) := by rw [wrap_i64 (x := x1 + 1) (by omega) (by omega), wrap_i64 (by omega) (by omega)]; omega
    obtain ⟨b, f, p1, p2, p3⟩ := put_both wf x7 x0 (x1 + ((i + 1 : Nat) : Int)) id x16 x17 x18
    rw [ses_Open_l0_eq, ref29_Open_l0_eq, ilen_eq l, Bool.cond_decide, if_pos (by omega), Bool.cond_decide, if_pos (by omega), Bool.cond_decide, if_pos (by omega), Int.toNat_natCast, k2, Option.bind_some, w1, w2, p1, p2, Option.bind_some, Option.bind_some]
    dsimp only
    by_cases hf : f = 0
    · have e1 : okE x3 (x1 + 1 + (acc.length : Int)) (p, x1 + ((i + 1 : Nat) : Int), b) = true := okE_yes.2 ⟨hpp.1, hpp.2, by rw [ha]; show x1 + ((i + 1 : Nat) : Int) = _; omega, by omega⟩
      obtain ⟨res, q1, q2, q3⟩ := ih (i + 1) (acc ++ [(p, x1 + ((i + 1 : Nat) : Int), b)]) x0 (x1 + ((i + 1 : Nat) : Int)) k3 (by rw [List.length_append, ha]; rfl) (by omega)
        (by rw [List.map_append, hm, List.take_add_one, k2]; rfl) (by rw [okO_app, ho, okO, okO, e1]; rfl) (fun e he => by
          rcases List.mem_append.mp he with he | he
          · exact hb e he
          · rw [List.mem_singleton] at he; subst he; exact p3)
      refine ⟨res, ?_, ?_, q3⟩
      · rw [bne_no hf, cond_false, Bool.cond_decide, if_pos (show _ ≤ room by simp only [ilen_eq, room_eq, List.length_cons, List.length_nil]; omega), wrap_succ (by omega)]
        exact q1
      · rw [bne_no hf, cond_false, Bool.cond_decide, if_pos (by omega), Option.bind_some, Bool.cond_decide, if_pos (show _ ≤ room by simp only [ilen_eq, room_eq, List.length_cons, List.length_nil]; omega), wrap_succ (by omega)]
        exact q2
    · rw [bne_yes hf, cond_true, cond_true]
      exact ⟨_, rfl, rfl, fun h => absurd h hf, fun _ => rfl⟩
theorem open_both {x0 x1 x2 x3 x4 : Int} {x5 : List E29} {x6 x7 x8 x9 : Int} {x10 x11 : ByteArray} {x12 : Int} {x13 : List ByteArray} {x14 : List Int} {x15 x16 x17 x18 : Int} {x19 : List Int} (wf : WfC x10 x11 x12 x13 x14 x19)
    (h0 : 1 ≤ x0 ∧ x0 ≤ 1099511627776) (h1 : 0 ≤ x1 ∧ x1 ≤ 1099511627776) (h3 : 1 ≤ x3 ∧ x3 ≤ 64) (h15 : x15 ≤ 9223372036854775807) :
    ∃ res : Ses, ses_Open x0 x1 x2 x3 x4 x5 x6 x7 x8 x9 x10 x11 x12 x13 x14 x15 x16 x17 x18 x19 = some res ∧ ref29_Open x0 x1 x2 x3 x4 x5 x6 x7 x8 x9 x10 x11 x12 x13 x14 x15 x16 x17 x18 x19 = some res ∧
      res.2.2.2.2.2.1.length ≤ 64 ∧ (errS res = 0 → ∃ (a : List E29) (l : List Int) (id : Int), res = (x0, x1 + a.length, x2, x3, x4, a, 0, 0) ∧ a.map (·.1) = l ∧ okO x3 (x1 + 1) a = true ∧ (∀ e ∈ a, e.2.2.length ≤ 100001) ∧ (a.length : Int) ≤ x3 ∧ x1 + a.length ≤ 1099511627776 ∧
        ses_where x0 x1 x2 x3 x4 x5 x6 x7 x8 x9 x10 x11 x12 x13 x14 x15 x16 x17 x18 x19 = some (l, x7, x8, x9, x10, x11, x12, x13, x14, id, x16, x17, x18, x19, 0)) := by
  obtain ⟨l, id, e, l2, id2, w1, w2, w3⟩ := where_both (x2 := x2) (x4 := x4) (x5 := x5) (x6 := x6) (x7 := x7) (x8 := x8) (x9 := x9) (x11 := x11) (x13 := x13) (x14 := x14) (x16 := x16) (x17 := x17) (x18 := x18) (x19 := x19) h0 h1 h3 wf.h3 wf.h5 h15
  rw [ses_Open_eq, ref29_Open_eq, w1, w2, Bool.cond_decide, Bool.cond_decide]
  by_cases c5 : ilen x5 > 0
  · rw [if_pos c5, if_pos c5]; exact ⟨_, rfl, rfl, by decide, fun h => (by cases h)⟩
  rw [if_neg c5, if_neg c5]
  by_cases c8 : x8 = 0
  · rw [bne_no c8, cond_false, cond_false]
    by_cases c9 : x9 = 0
    · rw [bne_no c9, cond_false, cond_false, Option.bind_some, Option.bind_some]
      dsimp only
      by_cases he : e = 0
      · obtain ⟨rfl, rfl, hp, hlen⟩ := w3 he
        rw [bne_no he, cond_false, cond_false, ilen_eq, wrap_i64 (x := 1099511627776 - (l2.length : Int)) (by omega) (by omega), wrap_i64 (x := x1 + (l2.length : Int)) (by omega) (by omega), Bool.cond_decide, Bool.cond_decide]
        by_cases cf : x1 > 1099511627776 - (l2.length : Int)
        · rw [if_pos cf, if_pos (by omega)]; exact ⟨_, rfl, rfl, by decide, fun h => (by cases h)⟩
        · rw [if_neg cf, if_neg (by omega)]
          obtain ⟨res, q1, q2, q3, q5⟩ := open_loop (x0 := x0) (x2 := x2) (x4 := x4) (x5 := x5) (x6 := x6) (x7 := x7) (x8 := x8) (x9 := x9) (id := id2) (x15 := x15) (x16 := x16) (x17 := x17) (x18 := x18) wf h1 (l := l2) (by omega) hp l2 0 [] x8 x9 rfl rfl (Nat.zero_le _) rfl rfl (fun e he => (by cases he))
          have z : x1 + ((0 : Nat) : Int) = x1 := by omega
          rw [z] at q1
          have q4 : res.2.2.2.2.2.1.length ≤ 64 := by
            by_cases hr : errS res = 0
            · obtain ⟨a, rfl, a2, a3, a4⟩ := q3 hr
              have := congrArg List.length a2
              rw [List.length_map] at this
              show a.length ≤ 64
              omega
            · rw [q5 hr]; decide
          refine ⟨res, q1, q2, q4, fun hr => ?_⟩
          obtain ⟨a, rfl, a2, a3, a4⟩ := q3 hr
          have hal := congrArg List.length a2
          rw [List.length_map] at hal
          exact ⟨a, l2, id2, by rw [hal], a2, a3, a4, by omega, by omega, by rw [he]⟩
      · rw [bne_yes he, cond_true, cond_true]; exact ⟨_, rfl, rfl, by show (0 : Nat) ≤ 64; decide, fun h => absurd h he⟩
    · rw [bne_yes c9, cond_true, cond_true]; exact ⟨_, rfl, rfl, by decide, fun h => (by cases h)⟩
  · rw [bne_yes c8, cond_true, cond_true]; exact ⟨_, rfl, rfl, by decide, fun h => (by cases h)⟩
end Go.Proofs.YtdbenenonfldkaaDoor.PE
namespace Go.Proofs.YtdbenenonfldkaaDoor.PE
open Go Go.RowKit Go.Proofs.YtdbenenonfldkaaDoor.Pack
attribute [local irreducible] ses_Heard_r6 ses_Heard_l0 law29_light_l0
abbrev Jb : Type := Int × Int × Int × ByteArray × Int × ByteArray × Int
theorem glob_tot (p i : Int) : ∃ v, ses_Global p i = some v := by
  by_cases h : (0 ≤ p ∧ p < 64) ∧ 0 ≤ i ∧ i ≤ 1099511627776
  · exact ⟨_, glob_yes h.1 h.2⟩
  · exact ⟨_, glob_no h⟩
theorem heard_l0 (n : Nat) (hn : n ≤ 1000) (y2 y3 y4 y5 y6 y7 y8 y9 y10 y11 y12 : Int) (y13 : List Jb) (y14 y15 y16 y17 y18 y19 y20 y21 y22 y23 y24 y25 y26 y27 : Int) (y28 : List E29) : ∀ (d i : Nat) (js : List Jb), i + d = n → js.length = n →
    ∃ J : List Jb, ses_Heard_l0 (n : Int) (i : Int) y2 y3 y4 y5 y6 y7 y8 y9 y10 y11 y12 y13 y14 y15 y16 y17 y18 y19 y20 y21 y22 y23 y24 y25 y26 y27 y28 js = some (y2, y3, y4, y5, y6, y28, 0, y24, y25, y26, y27, J, true) := by
  intro d
  induction d with
  | zero =>
    intro i js hi hj
    rw [ses_Heard_l0_eq, Bool.cond_decide, if_neg (by omega)]
    exact ⟨js, rfl⟩
  | succ d ih =>
    intro i js hi hj
    have hlt : i < js.length := by omega
    obtain ⟨v1, hv1⟩ := glob_tot y8 js[i].1
    have g1 : ∀ a : Jb, (js.set i a)[i]? = some a := fun a => List.getElem?_set_self hlt
    obtain ⟨v2, hv2⟩ := glob_tot y8 js[i].2.1
    obtain ⟨J, hJ⟩ := ih (i + 1) ((js.set i (v1.1, js[i].2)).set i (v1.1, v2.1, js[i].2.2)) (by omega) (by rw [List.length_set, List.length_set]; exact hj)
    refine ⟨J, ?_⟩
    rw [ses_Heard_l0_eq, Bool.cond_decide, if_pos (by omega), Bool.cond_decide, if_pos (by omega), ilen_eq, Bool.cond_decide, if_pos (by omega), Int.toNat_natCast, List.getElem?_eq_getElem hlt, Option.bind_some, hv1, Option.bind_some, Option.bind_some]
    rw [g1, Option.bind_some]
    dsimp only
    rw [hv2, Option.bind_some, Option.bind_some, wrap_succ (by omega)]
    exact hJ
theorem rest_eq {l : List E29} {z : E29} {m : Nat} (h : l.length = m + 1) : List.take (List.replicate m z).length (List.drop 1 (List.take l.length l)) ++ List.drop (List.drop 1 (List.take l.length l)).length (List.replicate m z) = l.drop 1 := by
  have e1 : List.take l.length l = l := List.take_length
  have h2 : (List.replicate m z).length = m := List.length_replicate
  have h3 : (l.drop 1).length = m := by rw [List.length_drop]; omega
  have e2 : List.take m (l.drop 1) = l.drop 1 := List.take_of_length_le (by omega)
  have e3 : List.drop m (List.replicate m z) = [] := List.drop_of_length_le (by omega)
  rw [e1, h2, h3, e2, e3, List.append_nil]
theorem okO_tail {x3 s : Int} {l : List E29} (h : okO x3 s l = true) (hne : l ≠ []) : okO x3 (s + 1) (l.drop 1) = true := by
  cases l with
  | nil => exact absurd rfl hne
  | cons e r => rw [okO, Bool.and_eq_true] at h; exact h.2
theorem heard_ok {x0 x1 x2 x3 x4 x6 x7 x8 x9 x10 x11 : Int} {x5 : List E29} {x12 : List Jb} (hc : chkS x0 x1 x2 x3 x4 x5 x6 = 0) (h10 : 0 ≤ x10 ∧ x10 ≤ 17) (hj : x12.length ≤ 100) :
    ∃ (o : List E29) (e : Int) (t : Int × Int × Int × Int × List Jb × Bool), ses_Heard x0 x1 x2 x3 x4 x5 x6 x7 x8 x9 x10 x11 x12 = some (x0, x1, x2, x3, x4, o, e, t) ∧ o.length ≤ 100 ∧ chkS x0 x1 x2 x3 x4 o e = 0 := by
  obtain ⟨hn, ⟨c1, c2, c3, c4, c5, c6, c7⟩, ho⟩ := chkS_zero hc
  have hx3 : x3 ≤ 64 := hn.2.2.2.2.2
  have r6 : ∀ (y6 : Int) (y13 y14 y15 y16 y17 y18 y19 y20 y21 y22 y23 y24 y25 y26 : Int), x5 ≠ [] → 0 ≤ y6 ∧ y6 ≤ 17 →
      ∃ (o : List E29) (e : Int) (t : Int × Int × Int × Int × List Jb × Bool), ses_Heard_r6 x0 x1 x2 x3 x4 x5 y6 x7 x8 x9 x10 x11 x12 y13 y14 y15 y16 y17 y18 y19 y20 y21 y22 y23 y24 y25 y26 x12 = some (x0, x1, x2, x3, x4, o, e, t) ∧ o.length ≤ 100 ∧ chkS x0 x1 x2 x3 x4 o e = 0 := by
    intro y6 y13 y14 y15 y16 y17 y18 y19 y20 y21 y22 y23 y24 y25 y26 hne hy6
    obtain ⟨m, hm⟩ : ∃ m : Nat, x5.length = m + 1 := by
      cases x5 with
      | nil => exact absurd rfl hne
      | cons a r => exact ⟨r.length, rfl⟩
    have w : IntKind.i64.wrap (ilen x5 - 1) = (m : Int) := by rw [ilen_eq, wrap_i64 (by omega) (by omega)]; omega
    have hok : ∀ e : Int, 0 ≤ e ∧ e ≤ 17 → chkS x0 x1 x2 x3 x4 (x5.drop 1) e = 0 := fun e he =>
      chkS_ok hn ⟨c1, c2, c3, c4, by rw [List.length_drop]; omega, he.1, he.2⟩ (by
        have := okO_tail ho hne
        rw [List.length_drop, show x1 - ((x5.length - 1 : Nat) : Int) + 1 = x1 - (x5.length : Int) + 1 + 1 by omega]
        exact this)
    have hlen : (x5.drop 1).length ≤ 100 := by rw [List.length_drop]; omega
    rw [ses_Heard_r6_eq, w, ilen_eq x5, Bool.cond_decide, if_pos rfl, Bool.cond_decide, if_pos (by omega), Bool.cond_decide, if_pos (show _ ∧ _ by simp only [room_eq]; omega), Bool.cond_decide, if_pos (by omega), Bool.cond_decide, if_pos (by omega), Int.toNat_natCast, Int.toNat_natCast, show Int.toNat 1 = 1 from rfl, rest_eq hm, Bool.cond_decide]
    by_cases hr : ilen (x5.drop 1) > 0
    · rw [if_pos hr]; exact ⟨_, _, _, rfl, hlen, hok y6 hy6⟩
    · rw [if_neg hr]
      by_cases h6 : y6 = 0
      · have hcl : ses_CloneJ x12 = some x12 := by
          rw [ses_CloneJ_eq, Bool.cond_decide, if_pos (show _ ≤ room by simp only [ilen_eq, room_eq]; omega)]; rfl
        rw [beq_yes h6, cond_true, hcl, Option.bind_some, ilen_eq x12]
        obtain ⟨J, hJ⟩ := heard_l0 x12.length (by omega) x0 x1 x2 x3 x4 y6 x7 x8 x9 x10 x11 x12 y13 y14 y15 y16 y17 y18 y19 y20 y21 y22 y23 y24 y6 y26 (x5.drop 1) x12.length 0 x12 (by omega) rfl
        exact ⟨_, _, _, hJ, hlen, hok 0 (by decide)⟩
      · rw [beq_no h6, cond_false]; exact ⟨_, _, _, rfl, hlen, hok 0 (by decide)⟩
  have same : ∃ (o : List E29) (e : Int) (t : Int × Int × Int × Int × List Jb × Bool), (some (x0, x1, x2, x3, x4, x5, x6, 0, 0, 0, 0, [], false) : Option (Int × Int × Int × Int × Int × List E29 × Int × Int × Int × Int × Int × List Jb × Bool)) = some (x0, x1, x2, x3, x4, o, e, t) ∧ o.length ≤ 100 ∧ chkS x0 x1 x2 x3 x4 o e = 0 := ⟨x5, x6, _, rfl, by omega, hc⟩
  rw [ses_Heard_eq, ilen_eq]
  by_cases h0 : x5 = []
  · subst h0; exact same
  have hpos : 0 < x5.length := List.length_pos_iff.mpr h0
  rw [beq_no (show ¬ (x5.length : Int) = 0 by omega), cond_false, show Int.toNat 0 = 0 from rfl, List.getElem?_eq_getElem hpos, Option.bind_some]
  by_cases a1 : x5[0].1 = x7
  · rw [bne_no a1, cond_false]
    by_cases a2 : x8 = x0
    · rw [bne_no a2, cond_false, Option.bind_some]
      by_cases a3 : x9 = x5[0].2.1
      · rw [bne_no a3, cond_false]
        by_cases a4 : x6 = 0
        · rw [beq_yes a4, cond_true]; exact r6 _ _ _ _ _ _ _ _ _ _ _ _ _ _ _ h0 h10
        · rw [beq_no a4, cond_false]; exact r6 _ _ _ _ _ _ _ _ _ _ _ _ _ _ _ h0 ⟨c6, c7⟩
      · rw [bne_yes a3, cond_true]; exact same
    · rw [bne_yes a2, cond_true]; exact same
  · rw [bne_yes a1, cond_true]; exact same
theorem turn_ok {x0 x1 x2 x3 x4 x6 x7 : Int} {x5 : List E29} (hc : chkS x0 x1 x2 x3 x4 x5 x6 = 0) : ∃ n, ses_Turn x0 x1 x2 x3 x4 x5 x6 x7 = some (x0, x1, x2, x3, n, x5, x6) ∧ chkS x0 x1 x2 x3 n x5 x6 = 0 := by
  obtain ⟨hn, ⟨c1, c2, c3, c4, c5, c6, c7⟩, ho⟩ := chkS_zero hc
  have h2 := hn.2.2
  have ok : ∀ n : Int, 1 ≤ n → n ≤ x2 → chkS x0 x1 x2 x3 n x5 x6 = 0 := fun n h1 h2 => chkS_ok hn ⟨c1, c2, h1, h2, c5, c6, c7⟩ ho
  have m1 := Int.emod_nonneg x4 (show x2 ≠ 0 by omega)
  have m2 := Int.emod_lt_of_pos x4 (show (0 : Int) < x2 by omega)
  have hm : IntKind.i64.wrap (x4.tmod x2 + 1) = x4 % x2 + 1 := by rw [Int.tmod_eq_emod_of_nonneg (by omega), wrap_i64 (by omega) (by omega)]
  rw [ses_Turn_eq, hm, Bool.cond_decide]
  by_cases h7 : x7 ≥ 1
  · rw [if_pos h7, Bool.cond_decide]
    by_cases h8 : x7 ≤ x2
    · rw [if_pos h8]; exact ⟨_, rfl, ok _ h7 h8⟩
    · rw [if_neg h8, Bool.cond_decide, if_neg (by omega)]; exact ⟨_, rfl, ok _ (by omega) (by omega)⟩
  · rw [if_neg h7, Bool.cond_decide, if_neg (by omega)]; exact ⟨_, rfl, ok _ (by omega) (by omega)⟩
structure Lit29 (x5 : List E29) (x10 x11 : ByteArray) (x13 : List ByteArray) (x14 x19 : List Int) : Prop where
  h5 : x5.length ≤ 70
  h13 : x13.length ≤ 100
  h14 : x14.length ≤ 100
  h19 : x19.length ≤ 500
  h10 : x10.size ≤ 100
  h11 : x11.size ≤ 100
theorem light_end (x5 : List E29) (x10 x11 : ByteArray) (x13 : List ByteArray) (x14 x19 : List Int) :
    ∃ b, (bif decide (ilen x5 ≤ 70) then bif decide (ilen x13 ≤ 100) then bif decide (ilen x14 ≤ 100) then bif decide (ilen x19 ≤ 500) then bif decide (isize x10 ≤ 100) then some (decide (isize x11 ≤ 100)) else some false else some false else some false else some false else some false) = some b ∧ (b = true → Lit29 x5 x10 x11 x13 x14 x19) := by
  rw [ilen_eq, ilen_eq, ilen_eq, ilen_eq, size_nat, size_nat, Bool.cond_decide]
  by_cases h1 : (x5.length : Int) ≤ 70
  · rw [if_pos h1, Bool.cond_decide]
    by_cases h2 : (x13.length : Int) ≤ 100
    · rw [if_pos h2, Bool.cond_decide]
      by_cases h3 : (x14.length : Int) ≤ 100
      · rw [if_pos h3, Bool.cond_decide]
        by_cases h4 : (x19.length : Int) ≤ 500
        · rw [if_pos h4, Bool.cond_decide]
          by_cases h5 : (x10.size : Int) ≤ 100
          · rw [if_pos h5]
            exact ⟨_, rfl, fun h => by have h6 := of_decide_eq_true h; exact ⟨by omega, by omega, by omega, by omega, by omega, by omega⟩⟩
          · rw [if_neg h5]; exact ⟨_, rfl, fun h => (by cases h)⟩
        · rw [if_neg h4]; exact ⟨_, rfl, fun h => (by cases h)⟩
      · rw [if_neg h3]; exact ⟨_, rfl, fun h => (by cases h)⟩
    · rw [if_neg h2]; exact ⟨_, rfl, fun h => (by cases h)⟩
  · rw [if_neg h1]; exact ⟨_, rfl, fun h => (by cases h)⟩
theorem light29_l0 {x5 : List E29} (x0 x1 x2 x3 x4 x6 x7 x8 x9 : Int) (x10 x11 : ByteArray) (x12 : Int) (x13 : List ByteArray) (x14 : List Int) (x15 x16 x17 x18 : Int) (x19 : List Int) (hr : ∀ e ∈ x5, e.2.2.length ≤ 140737488355328) :
    ∀ (r : List E29) (i n : Nat), x5.drop i = r → n ≤ 5000 → i ≤ 70 → ∃ b, law29_light_l0 (n : Int) (i : Int) x0 x1 x2 x3 x4 x5 x6 x7 x8 x9 x10 x11 x12 x13 x14 x15 x16 x17 x18 x19 = some b ∧ (b = true → Lit29 x5 x10 x11 x13 x14 x19) := by
  intro r
  induction r with
  | nil =>
    intro i n hd _ _
    have := at_nil hd
    rw [law29_light_l0_eq, Bool.cond_decide, if_neg (show ¬ (i : Int) < ilen x5 by rw [ilen_eq]; omega)]
    exact light_end _ _ _ _ _ _
  | cons e r ih =>
    intro i n hd hn hi
    obtain ⟨k1, k2, k3⟩ := at_drop hd
    have he := hr e (List.mem_of_getElem? k2)
    rw [law29_light_l0_eq, Bool.cond_decide, if_pos (show (i : Int) < ilen x5 by rw [ilen_eq]; omega), Bool.cond_decide]
    by_cases h70 : (i : Int) < 70
    · rw [if_pos h70, Bool.cond_decide, if_pos (by omega), Int.toNat_natCast, k2, Option.bind_some, ilen_eq e.2.2, show IntKind.i64.wrap ((n : Int) + (e.2.2.length : Int)) = ((n + e.2.2.length : Nat) : Int) by rw [wrap_i64 (by omega) (by omega)]; omega, Bool.cond_decide]
      by_cases h5 : ((n + e.2.2.length : Nat) : Int) > 5000
      · rw [if_pos h5]; exact ⟨_, rfl, fun h => (by cases h)⟩
      · rw [if_neg h5, wrap_succ (by omega)]
        exact ih (i + 1) _ k3 (by omega) (by omega)
    · rw [if_neg h70]; exact light_end _ _ _ _ _ _
theorem light29 {x5 : List E29} (x0 x1 x2 x3 x4 x6 x7 x8 x9 : Int) (x10 x11 : ByteArray) (x12 : Int) (x13 : List ByteArray) (x14 : List Int) (x15 x16 x17 x18 : Int) (x19 : List Int) (hr : ∀ e ∈ x5, e.2.2.length ≤ 140737488355328) :
    ∃ b, law29_light x0 x1 x2 x3 x4 x5 x6 x7 x8 x9 x10 x11 x12 x13 x14 x15 x16 x17 x18 x19 = some b ∧ (b = true → Lit29 x5 x10 x11 x13 x14 x19) := by
  rw [law29_light_eq]
  exact light29_l0 x0 x1 x2 x3 x4 x6 x7 x8 x9 x10 x11 x12 x13 x14 x15 x16 x17 x18 x19 hr _ 0 0 rfl (by decide) (by decide)
end Go.Proofs.YtdbenenonfldkaaDoor.PE
namespace Go.Proofs.YtdbenenonfldkaaDoor.PE
open Go Go.RowKit Go.Proofs.YtdbenenonfldkaaDoor.Pack
theorem opens_law (x0 x1 x2 x3 x4 x5 x6 x7 : Int) (x8 : List E29) (x9 x10 x11 x12 : Int) (x13 x14 : ByteArray) (x15 : Int) (x16 : List ByteArray) (x17 : List Int) (x18 x19 x20 x21 : Int) (x22 : List Int)
    (hr : ∀ e ∈ x8, e.2.2.length ≤ 140737488355328) (ht : Txt x16) (h5 : -9223372036854775808 ≤ x15 ∧ x15 ≤ 9223372036854775807) (h7 : I64 x17) (h12 : Bytes x22) (h15 : x18 ≤ 9223372036854775807) :
    law29_SessionOpens x0 x1 x2 x3 x4 x5 x6 x7 x8 x9 x10 x11 x12 x13 x14 x15 x16 x17 x18 x19 x20 x21 x22 = some true := by
  obtain ⟨b, hb, hl⟩ := light29 x3 x4 x5 x6 x7 x9 x10 x11 x12 x13 x14 x15 x16 x17 x18 x19 x20 x21 x22 hr
  rw [law29_SessionOpens_eq, hb, Option.bind_some, works29]
  cases b with
  | false => rfl
  | true =>
    obtain ⟨l1, l2, l3, l4, l5, l6⟩ := hl rfl
    obtain ⟨v, hv, hv2⟩ := new_tot x0 x1 x2
    rw [Bool.not_true, cond_false, new_same, hv, Option.bind_some, Option.bind_some, bne_self_eq_false, cond_false, same_S _ _ _ _ _ _ (by rw [hv2]; decide), Option.bind_some, Bool.not_true, cond_false, check_S (by omega), Option.bind_some, check_R (by omega), Option.bind_some, bne_self_eq_false, cond_false, Option.bind_some]
    by_cases hc : chkS x3 x4 x5 x6 x7 x8 x9 = 0
    · obtain ⟨hn, ⟨c1, c2, c3, c4, c5, c6, c7⟩, ho⟩ := chkS_zero hc
      have wf : WfC x13 x14 x15 x16 x17 x22 := ⟨by omega, by omega, by omega, by omega, ht, h5, h7, h12⟩
      obtain ⟨res, q1, q2, q3, q4⟩ := open_both (x0 := x3) (x1 := x4) (x2 := x5) (x3 := x6) (x4 := x7) (x5 := x8) (x6 := x9) (x7 := x10) (x8 := x11) (x9 := x12) (x15 := x18) (x16 := x19) (x17 := x20) (x18 := x21) wf ⟨hn.1, hn.2.1⟩ ⟨c1, c2⟩ ⟨hn.2.2.2.2.1, hn.2.2.2.2.2⟩ h15
      rw [bne_no hc, cond_false, q1, Option.bind_some, q2, Option.bind_some, beq_self_eq_true, cond_true, same_S _ _ _ _ _ _ (by omega), Option.bind_some, cond_true]; rfl
    · rw [bne_yes hc, cond_true]; rfl
theorem messages_law (x0 x1 x2 x3 x4 : Int) (x5 : List E29) (x6 : Int) (x7 : ByteArray) (x8 x9 : Int) (hr : ∀ e ∈ x5, e.2.2.length ≤ 140737488355328) (h5 : -9223372036854775808 ≤ x8 ∧ x8 ≤ 9223372036854775807) :
    law29_SessionMessages x0 x1 x2 x3 x4 x5 x6 x7 x8 x9 = some true := by
  obtain ⟨b, hb, hl⟩ := light29 x0 x1 x2 x3 x4 x6 0 0 0 x7 (⟨#[]⟩ : ByteArray) 0 [] [] 0 0 0 0 [] hr
  rw [law29_SessionMessages_eq, hb, Option.bind_some, works29]
  cases b with
  | false => rfl
  | true =>
    obtain ⟨l1, l2, l3, l4, l5, l6⟩ := hl rfl
    rw [Bool.not_true, cond_false, check_R (by omega), Option.bind_some]
    by_cases hc : chkS x0 x1 x2 x3 x4 x5 x6 = 0
    · obtain ⟨hn, ⟨c1, c2, c3, c4, c5, c6, c7⟩, ho⟩ := chkS_zero hc
      obtain ⟨res, q1, q2, q3, q4⟩ := open_both (x0 := x0) (x1 := x1) (x2 := x2) (x3 := x3) (x4 := x4) (x5 := x5) (x6 := x6) (x7 := 4) (x8 := 0) (x9 := 0) (x10 := x7) (x11 := (⟨#[]⟩ : ByteArray)) (x12 := x8) (x13 := []) (x14 := []) (x15 := 0) (x16 := 0) (x17 := x9) (x18 := 0) (x19 := [])
        ⟨by omega, by decide, by decide, by decide, fun s h => (by cases h), h5, fun s h => (by cases h), fun s h => (by cases h)⟩ ⟨hn.1, hn.2.1⟩ ⟨c1, c2⟩ ⟨hn.2.2.2.2.1, hn.2.2.2.2.2⟩ (by decide)
      rw [bne_no hc, cond_false, q1, Option.bind_some]
      by_cases he : errS res = 0
      · obtain ⟨a, l, id, rfl, a2, a3, a4, a5, a6, a7⟩ := q4 he
        obtain ⟨p, e, w1, w2, w3⟩ := where_pub (s := x7) (k := x8) (n := x3) (by omega) h5
        have hw := ses_where_eq x0 x1 x2 x3 x4 x5 x6 4 0 0 x7 (⟨#[]⟩ : ByteArray) x8 [] [] 0 0 x9 0 []
        rw [beq_no (by decide), cond_false, beq_no (by decide), cond_false, beq_yes rfl, cond_true, w1, Option.bind_some, a7] at hw
        have hw := Option.some.inj hw
        have hl2 : l = [p] := congrArg Prod.fst hw
        have he2 : (0 : Int) = e := congrArg (fun z => z.2.2.2.2.2.2.2.2.2.2.2.2.2.2) hw
        rw [hl2] at a2
        obtain ⟨q, rfl⟩ : ∃ q : E29, a = [q] := by
          cases a with
          | nil => cases a2
          | cons q r =>
            cases r with
            | nil => exact ⟨q, rfl⟩
            | cons z r => simp at a2
        have hq : q.1 = p := by simpa using a2
        have hd := a4 q (List.mem_singleton.2 rfl)
        dsimp only
        have ask : ses_Ask x0 (x1 + ([q].length : Nat)) x2 x3 x4 [q] 0 = some (x4, q.1, q.2.2, true) := by
          rw [ses_Ask_eq, show (ilen [q] == 0) = false from rfl, cond_false, show [q][Int.toNat 0]? = some q from rfl, Option.bind_some, ses_CloneB_eq, Bool.cond_decide, if_pos (show _ ≤ room by simp only [ilen_eq, room_eq]; omega)]
          rfl
        rw [bne_no rfl, cond_false, ask, Option.bind_some, w2, Option.bind_some]
        dsimp only
        rw [cond_true, beq_yes he2.symm, cond_true, beq_yes hq, cond_true]; rfl
      · rw [show (res.2.2.2.2.2.2.2 != 0) = true from bne_yes he, cond_true]; rfl
    · rw [bne_yes hc, cond_true]; rfl
theorem stays_law (x0 x1 x2 x3 x4 : Int) (x5 : List E29) (x6 x7 x8 x9 : Int) (x10 x11 : ByteArray) (x12 : Int) (x13 : List ByteArray) (x14 : List Int) (x15 x16 x17 x18 : Int) (x19 : List Int) (x20 x21 x22 x23 x24 x25 : Int) (x26 : List Jb)
    (hr : ∀ e ∈ x5, e.2.2.length ≤ 140737488355328) (ht : Txt x13) (h5 : -9223372036854775808 ≤ x12 ∧ x12 ≤ 9223372036854775807) (h7 : I64 x14) (h12 : Bytes x19) (h15 : x15 ≤ 9223372036854775807) :
    law29_SessionStays x0 x1 x2 x3 x4 x5 x6 x7 x8 x9 x10 x11 x12 x13 x14 x15 x16 x17 x18 x19 x20 x21 x22 x23 x24 x25 x26 = some true := by
  obtain ⟨b, hb, hl⟩ := light29 x0 x1 x2 x3 x4 x6 x7 x8 x9 x10 x11 x12 x13 x14 x15 x16 x17 x18 x19 hr
  rw [law29_SessionStays_eq, hb, Option.bind_some, works29]
  cases b with
  | false => rfl
  | true =>
    obtain ⟨l1, l2, l3, l4, l5, l6⟩ := hl rfl
    rw [Bool.not_true, cond_false, check_R (by omega), Option.bind_some]
    by_cases hc : chkS x0 x1 x2 x3 x4 x5 x6 = 0
    · obtain ⟨hn, ⟨c1, c2, c3, c4, c5, c6, c7⟩, ho⟩ := chkS_zero hc
      rw [bne_no hc, cond_false, ilen_eq, Bool.cond_decide]
      by_cases g1 : (x26.length : Int) > 100
      · rw [if_pos g1]; rfl
      rw [if_neg g1, Bool.cond_decide]
      by_cases g2 : x24 < 0
      · rw [if_pos g2]; rfl
      rw [if_neg g2, Bool.cond_decide]
      by_cases g3 : x24 > 17
      · rw [if_pos g3]; rfl
      rw [if_neg g3]
      obtain ⟨m, t1, t2⟩ := turn_ok (x7 := x20) hc
      obtain ⟨o, e, t, s1, s2, s3⟩ := heard_ok (x7 := x21) (x8 := x22) (x9 := x23) (x10 := x24) (x11 := x25) (x12 := x26) hc (by omega) (by omega)
      have wf : WfC x10 x11 x12 x13 x14 x19 := ⟨by omega, by omega, by omega, by omega, ht, h5, h7, h12⟩
      obtain ⟨res, q1, q2, q3, q4⟩ := open_both (x0 := x0) (x1 := x1) (x2 := x2) (x3 := x3) (x4 := x4) (x5 := x5) (x6 := x6) (x7 := x7) (x8 := x8) (x9 := x9) (x15 := x15) (x16 := x16) (x17 := x17) (x18 := x18) wf ⟨hn.1, hn.2.1⟩ ⟨c1, c2⟩ ⟨hn.2.2.2.2.1, hn.2.2.2.2.2⟩ h15
      have fin : ((ses_Heard x0 x1 x2 x3 x4 x5 x6 x21 x22 x23 x24 x25 x26).bind fun val => (ses_Check val.1 val.2.1 val.2.2.1 val.2.2.2.1 val.2.2.2.2.1 val.2.2.2.2.2.1 val.2.2.2.2.2.2.1).bind fun val2 => bif val2 == 0 then (some true).bind fun v => some v else some false) = some true := by
        rw [s1, Option.bind_some]
        dsimp only
        rw [check_S s2, Option.bind_some, s3, beq_yes rfl, cond_true]; rfl
      rw [t1, Option.bind_some]
      dsimp only
      rw [check_S (by omega), Option.bind_some, bne_no t2, cond_false, q1, Option.bind_some]
      by_cases he : errS res = 0
      · obtain ⟨a, l, id, rfl, a2, a3, a4, a5, a6, a7⟩ := q4 he
        have ha : chkS x0 (x1 + a.length) x2 x3 x4 a 0 = 0 := chkS_ok hn ⟨by omega, by omega, c3, c4, a5, by decide, by decide⟩ (by rw [show x1 + (a.length : Int) - a.length + 1 = x1 + 1 by omega]; exact a3)
        have h64 := hn.2.2.2.2.2
        dsimp only
        rw [beq_yes rfl, cond_true, check_S (by omega), Option.bind_some, bne_no ha, cond_false]
        exact fin
      · rw [show (res.2.2.2.2.2.2.2 == 0) = false from beq_no he, cond_false]
        exact fin
    · rw [bne_yes hc, cond_true]; rfl
end Go.Proofs.YtdbenenonfldkaaDoor.PE
namespace Go.Proofs.YtdbenenonfldkaaDoor.PE
open Go Go.RowKit Go.Proofs
theorem known_row {W : World} (h : laidMetH Tryd.prog Rows.sessionNumbersRow.laid W) : Known W (Low W) := by
  rw [MakeChecks.laidMetH_plain _ _ _ (by kernel_rfl)] at h
  have h2 := h.tail.tail
  have e : (Rows.laid_internal_strconv_uint64pow10 : DataW Unit) = Lib.tabData .u64 Lib.pow10Tab := by kernel_rfl
  have h3 : laidMet Tryd.prog [("internal/strconv.uint64pow10", Lib.tabData .u64 Lib.pow10Tab)] W := e ▸ h2
  have ht := Lib.tabIs_of_head (P := Tryd.prog) gPow (t := 140) (n := 20) (e := 92) (by kernel_rfl) Tryd.underlying140 Tryd.underlying92 (by kernel_rfl) (by kernel_rfl) h3
  refine known_of ?_ ht
  unfold Lib.TabIs World.var? at ht
  rw [gPow] at ht
  show 0 < W.heap.size
  cases hh : W.heap[0]? with
  | none => simp [hh] at ht
  | some ob => exact (Array.getElem?_eq_some_iff.1 hh).1
theorem errands_of {l : List E29} (w : Wf (.slice (.pair (.int .i64) (.pair (.int .i64) (.slice (.int .u8))))) l) : ∀ e ∈ l, e.2.2.length ≤ 140737488355328 := fun e h =>
  Nat.le_trans (w.2 e h).2.2.1 (show reachBytes ≤ 140737488355328 by decide)
theorem txt_of {l : List ByteArray} (w : Wf (.slice .str) l) : Txt l := fun s h => Nat.le_trans (w.2 s h) (show reachBytes ≤ 140737488351232 by decide)
theorem i64s_of {l : List Int} (w : Wf (.slice (.int .i64)) l) : I64 l := fun s h => i64_range (w.2 s h)
theorem bytes29 {l : List Int} (w : Wf (.slice (.int .u8)) l) : Go.Proofs.YtdbenenonfldkaaDoor.Pack.Bytes l := Go.Proofs.YtdbenenonfldkaaDoor.Pack.bytes_of w.2
end Go.Proofs.YtdbenenonfldkaaDoor.PE
