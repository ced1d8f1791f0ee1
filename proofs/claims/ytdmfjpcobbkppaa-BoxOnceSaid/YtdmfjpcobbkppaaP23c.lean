/- Whether a box may be: the program's look is the document's. -/
import Derived.Test.YtdmfjpcobbkppaaP23b
namespace Go.Proofs.Ytdmfjpcobbkppaa.PE
set_option linter.unusedVariables false
open Classical
theorem index_l0 {l : List Int} (hl : l.length ≤ 140737488351232) : ∀ (r : List Int) (i : Nat), l.drop i = r → ((∀ x ∈ r, okN x) ∧ box_IndexFuncI_l0 l l.length i = some (-1)) ∨ (¬ (∀ x ∈ r, okN x) ∧ ∃ k : Nat, box_IndexFuncI_l0 l l.length i = some (k : Int)) := by
  intro r
  induction r with
  | nil =>
    intro i h
    have h0 := at_nil h
    refine .inl ⟨fun _ h => (by cases h), ?_⟩
    rw [box_IndexFuncI_l0_eq, decide_eq_false (by omega)]; rfl
  | cons x r ih =>
    intro i h
    obtain ⟨k1, k2, k3⟩ := at_drop h
    rw [box_IndexFuncI_l0_eq, decide_eq_true (show (i : Int) < (l.length : Int) by omega), decide_eq_true (show (0 : Int) ≤ i by omega)]
    simp only [cond_true, Int.toNat_natCast, k2, Option.bind_some]
    by_cases a1 : x < 0
    · rw [decide_eq_true a1]
      exact .inr ⟨fun h => by have := (h x (by simp)).1; omega, i, rfl⟩
    by_cases a2 : x > 1099511627776
    · rw [decide_eq_false a1, decide_eq_true a2]
      exact .inr ⟨fun h => by have := (h x (by simp)).2; omega, i, rfl⟩
    rw [decide_eq_false a1, decide_eq_false a2, wrap_succ (by omega)]
    simp only [cond_false]
    rcases ih (i + 1) k3 with ⟨q1, q2⟩ | ⟨q1, q2⟩
    · refine .inl ⟨fun z hz => ?_, q2⟩
      rcases List.mem_cons.1 hz with rfl | hz
      · exact ⟨by omega, by omega⟩
      · exact q1 z hz
    · exact .inr ⟨fun h => q1 fun z hz => h z (by simp [hz]), q2⟩
theorem right_spec {l : List Int} (hl : l.length ≤ 140737488351232) : box_right l = some (decide (∀ x ∈ l, okN x)) := by
  rw [box_right_eq, box_ContainsFunc_eq, box_IndexFuncI_eq, ilen_eq]
  rcases index_l0 hl l 0 rfl with ⟨q1, q2⟩ | ⟨q1, k, q2⟩
  · rw [Int.natCast_zero] at q2
    rw [q2, decide_eq_true q1]; rfl
  · rw [Int.natCast_zero] at q2
    rw [q2, decide_eq_false q1]
    simp only [Option.bind_some]
    rw [decide_eq_true (by omega)]; rfl
def settled (S nx : List Int) (j : Nat) : Prop := nx.getD j 0 = 0 ∨ nx.getD j 0 = W64 (S.getD j 0 + 1)
theorem getD_get {l : List Int} {j : Nat} (h : j < l.length) : l[j]? = some (l.getD j 0) := by
  rw [List.getD_eq_getElem?_getD, List.getElem?_eq_getElem h]; rfl
theorem check_l2 {S N nx : List Int} {O : List TO} (hl : S.length ≤ 64) (hn : nx.length = S.length) : ∀ (m i : Nat), m + i = nx.length → box_Check_l2 nx.length i S O N nx = res (∀ j, i ≤ j → j < nx.length → settled S nx j) := by
  intro m
  induction m with
  | zero =>
    intro i h
    rw [box_Check_l2_eq, decide_eq_false (by omega)]
    exact (res_yes fun j h1 h2 => by omega).symm
  | succ m ih =>
    intro i h
    rw [box_Check_l2_eq, ilen_eq, decide_eq_true (show (i : Int) < (nx.length : Int) by omega), decide_eq_true (show (0 : Int) ≤ i by omega)]
    simp only [cond_true, Int.toNat_natCast, getD_get (show i < nx.length by omega), getD_get (show i < S.length by omega), Option.bind_some]
    rw [wrap_succ (by omega), ih (i + 1) (by omega)]
    have key : settled S nx i → (∀ j, i + 1 ≤ j → j < nx.length → settled S nx j) → ∀ j, i ≤ j → j < nx.length → settled S nx j := by
      intro h1 h2 j h3 h4
      by_cases e : j = i
      · subst e; exact h1
      · exact h2 j (by omega) h4
    by_cases e : nx.getD i 0 = 0
    · rw [bne_no e]
      exact res_congr ⟨key (.inl e), fun h j h1 h2 => h j (by omega) h2⟩
    · rw [bne_yes e]
      simp only [cond_true]
      by_cases e2 : nx.getD i 0 = W64 (S.getD i 0 + 1)
      · rw [bne_no e2]
        exact res_congr ⟨key (.inr e2), fun h j h1 h2 => h j (by omega) h2⟩
      · rw [bne_yes e2]
        exact (res_no fun h => (h i (Nat.le_refl _) (by omega)).elim e e2).symm
def okB (S : List Int) : Int → List Int → List TO → Prop
  | _, nx, [] => ∀ j, j < nx.length → settled S nx j
  | to, nx, o :: r => to ≤ o.1 ∧ bnd S.length o ∧ (nx.getD o.1.toNat 0 = 0 ∨ nx.getD o.1.toNat 0 = o.2.1) ∧ okB S o.1 (nx.set o.1.toNat (W64 (o.2.1 + 1))) r
theorem check_l0 {S N : List Int} {O : List TO} (hl : S.length ≤ 64) (hO : O.length ≤ 256) : ∀ (r : List TO) (i : Nat) (to : Int) (nx : List Int), O.drop i = r → nx.length = S.length → 0 ≤ to → box_Check_l0 S.length to O O.length i S O N nx = res (okB S to nx r) := by
  intro r
  induction r with
  | nil =>
    intro i to nx h hn _
    have h0 := at_nil h
    rw [box_Check_l0_eq, decide_eq_false (by omega), ilen_eq]
    simp only [cond_false]
    have := check_l2 (S := S) (N := N) (O := O) hl hn nx.length 0 (by omega)
    rw [Int.natCast_zero] at this
    rw [this]
    exact res_congr ⟨fun h j hj => h j (Nat.zero_le _) hj, fun h j _ hj => h j hj⟩
  | cons o r ih =>
    intro i to nx h hn hto
    obtain ⟨k1, k2, k3⟩ := at_drop h
    rw [box_Check_l0_eq]
    simp only [ilen_eq]
    rw [decide_eq_true (show (i : Int) < (O.length : Int) by omega), decide_eq_true (show (0 : Int) ≤ i by omega)]
    simp only [cond_true, Int.toNat_natCast, k2, Option.bind_some]
    by_cases b1 : o.1 < to
    · rw [decide_eq_true b1]
      exact (res_no fun h => by have := h.1; omega).symm
    by_cases b2 : o.1 ≥ (S.length : Int)
    · rw [decide_eq_false b1, decide_eq_true b2]
      exact (res_no fun h => by have := h.2.1.2.1; omega).symm
    by_cases b3 : o.2.1 < 1
    · rw [decide_eq_false b1, decide_eq_false b2, decide_eq_true b3]
      exact (res_no fun h => by have := h.2.1.2.2.1; omega).symm
    by_cases b4 : (o.2.2.length : Int) > 65536
    · rw [decide_eq_false b1, decide_eq_false b2, decide_eq_false b3, decide_eq_true b4]
      exact (res_no fun h => by have := h.2.1.2.2.2; omega).symm
    rw [decide_eq_false b1, decide_eq_false b2, decide_eq_false b3, decide_eq_false b4]
    have hb : bnd S.length o := ⟨by omega, by omega, by omega, by omega⟩
    have hj : o.1.toNat < nx.length := by omega
    rw [decide_eq_true (show (0 : Int) ≤ o.1 by omega), decide_eq_true (show o.1 < (nx.length : Int) by omega)]
    simp only [cond_false, cond_true, getD_get hj, Option.bind_some]
    rw [wrap_succ (show i < 9223372036854775807 by omega), ih (i + 1) o.1 (nx.set o.1.toNat (W64 (o.2.1 + 1))) k3 (by rw [List.length_set]; exact hn) (by omega)]
    by_cases e : nx.getD o.1.toNat 0 = 0
    · rw [bne_no e]
      exact res_congr ⟨fun h => ⟨by omega, hb, .inl e, h⟩, fun h => h.2.2.2⟩
    · rw [bne_yes e]
      simp only [cond_true]
      by_cases e2 : nx.getD o.1.toNat 0 = o.2.1
      · rw [bne_no e2]
        exact res_congr ⟨fun h => ⟨by omega, hb, .inr e2, h⟩, fun h => h.2.2.2⟩
      · rw [bne_yes e2]
        exact (res_no fun h => h.2.2.1.elim e e2).symm
def R64 (q : Int) : Prop := -9223372036854775808 ≤ q ∧ q ≤ 9223372036854775807
theorem W_val {q : Int} (h : 1 ≤ q ∧ q ≤ 9223372036854775807) : W64 (q + 1) = if q = 9223372036854775807 then -9223372036854775808 else q + 1 := by
  split
  · rename_i e; subst e; decide
  · exact wrap_i64 (by omega) (by omega)
theorem W_sent {q s : Int} (h : 1 ≤ q ∧ q ≤ 9223372036854775807) (hs : okN s) : W64 (q + 1) ≠ 0 ∧ (W64 (q + 1) = W64 (s + 1) ↔ q = s) := by
  obtain ⟨s1, s2⟩ := hs
  have e : W64 (s + 1) = s + 1 := wrap_i64 (by omega) (by omega)
  rw [e, W_val h]
  split <;> constructor <;> omega
theorem getD_set_self {l : List Int} {j : Nat} {v : Int} (h : j < l.length) : (l.set j v).getD j 0 = v := by
  rw [List.getD_eq_getElem?_getD, List.getElem?_set_self h]; rfl
theorem getD_set_ne {l : List Int} {j k : Nat} {v : Int} (h : j ≠ k) : (l.set j v).getD k 0 = l.getD k 0 := by
  rw [List.getD_eq_getElem?_getD, List.getElem?_set_ne h, List.getD_eq_getElem?_getD]
theorem okB_some {S : List Int} (hS : ∀ x ∈ S, okN x) : ∀ (r : List TO) (t q : Int) (nx : List Int), (∀ o ∈ r, R64 o.2.1) → nx.length = S.length → 0 ≤ t → t < S.length → 1 ≤ q ∧ q ≤ 9223372036854775807 → nx.getD t.toNat 0 = W64 (q + 1) → (∀ j, t.toNat < j → nx.getD j 0 = 0) →
    (okB S t nx r ↔ (∀ j, j < t.toNat → settled S nx j) ∧ chk S (some (t, q)) r) := by
  have hat : ∀ t : Int, 0 ≤ t → t < S.length → okN (sAt S t) := fun t h0 h1 => hS _ (List.mem_of_getElem? (sAt_get h0 h1))
  intro r
  induction r with
  | nil =>
    intro t q nx _ hn ht0 ht1 hq hnx hz
    obtain ⟨w1, w2⟩ := W_sent hq (hat t ht0 ht1)
    constructor
    · intro h
      refine ⟨fun j hj => h j (by omega), ?_⟩
      rcases h t.toNat (by omega) with e | e
      · rw [hnx] at e; exact absurd e w1
      · rw [hnx] at e; exact w2.1 e
    · rintro ⟨h1, h2⟩ j hj
      rcases Nat.lt_trichotomy j t.toNat with h | h | h
      · exact h1 j h
      · subst h; exact .inr (by rw [hnx]; exact w2.2 h2)
      · exact .inl (hz j h)
  | cons o r ih =>
    intro t q nx hr hn ht0 ht1 hq hnx hz
    obtain ⟨w1, w2⟩ := W_sent hq (hat t ht0 ht1)
    have hro := hr o (by simp)
    have hr' : ∀ x ∈ r, R64 x.2.1 := fun x hx => hr x (by simp [hx])
    have step : bnd S.length o → t ≤ o.1 → (okB S o.1 (nx.set o.1.toNat (W64 (o.2.1 + 1))) r ↔ (∀ j, j < o.1.toNat → settled S (nx.set o.1.toNat (W64 (o.2.1 + 1))) j) ∧ chk S (some (o.1, o.2.1)) r) := by
      intro hb hto
      refine ih o.1 o.2.1 _ hr' (by rw [List.length_set]; exact hn) hb.1 hb.2.1 ⟨hb.2.2.1, hro.2⟩ (getD_set_self (by have := hb.2.1; have := hb.1; omega)) fun j hj => ?_
      rw [getD_set_ne (by omega)]
      exact hz j (by omega)
    constructor
    · rintro ⟨h1, h2, h3, h4⟩
      obtain ⟨k1, k2⟩ := (step h2 h1).1 h4
      have hb := h2.1
      by_cases e : o.1 = t
      · rw [e, hnx] at h3
        refine ⟨fun j hj => ?_, h2, .inl ⟨e, h3.resolve_left w1⟩, k2⟩
        have := k1 j (by rw [e]; exact hj)
        unfold settled at this ⊢
        rwa [getD_set_ne (by omega)] at this
      · have hlt : t < o.1 := by omega
        refine ⟨fun j hj => ?_, h2, .inr ⟨hlt, ?_⟩, k2⟩
        · have := k1 j (by omega)
          unfold settled at this ⊢
          rwa [getD_set_ne (by omega)] at this
        · have := k1 t.toNat (by omega)
          unfold settled at this
          rw [getD_set_ne (by omega), hnx] at this
          exact w2.1 (this.resolve_left w1)
    · rintro ⟨h1, h2, h3, h4⟩
      have hb := h2.1
      rcases h3 with ⟨e, h3⟩ | ⟨hlt, h3⟩
      · simp only at e h3
        refine ⟨by omega, h2, .inr (by rw [e, hnx]; exact h3), (step h2 (by omega)).2 ⟨fun j hj => ?_, h4⟩⟩
        have := h1 j (by omega)
        unfold settled at this ⊢
        rwa [getD_set_ne (by omega)]
      · simp only at hlt h3
        refine ⟨by omega, h2, .inl (hz _ (by omega)), (step h2 (by omega)).2 ⟨fun j hj => ?_, h4⟩⟩
        unfold settled
        rw [getD_set_ne (by omega)]
        rcases Nat.lt_trichotomy j t.toNat with h | h | h
        · exact h1 j h
        · subst h; exact .inr (by rw [hnx]; exact w2.2 h3)
        · exact .inl (hz j h)
theorem okB_none {S : List Int} (hS : ∀ x ∈ S, okN x) (r : List TO) (hr : ∀ o ∈ r, R64 o.2.1) : okB S 0 (List.replicate S.length 0) r ↔ chk S none r := by
  have hz : ∀ j, (List.replicate S.length (0 : Int)).getD j 0 = 0 := by
    intro j
    rw [List.getD_eq_getElem?_getD, List.getElem?_replicate]
    split <;> rfl
  cases r with
  | nil => exact ⟨fun _ => trivial, fun _ j _ => .inl (hz j)⟩
  | cons o r =>
    have hro := hr o (by simp)
    have hr' : ∀ x ∈ r, R64 x.2.1 := fun x hx => hr x (by simp [hx])
    have step : bnd S.length o → (okB S o.1 ((List.replicate S.length 0).set o.1.toNat (W64 (o.2.1 + 1))) r ↔ (∀ j, j < o.1.toNat → settled S ((List.replicate S.length 0).set o.1.toNat (W64 (o.2.1 + 1))) j) ∧ chk S (some (o.1, o.2.1)) r) := by
      intro hb
      refine okB_some hS r o.1 o.2.1 _ hr' (by rw [List.length_set, List.length_replicate]) hb.1 hb.2.1 ⟨hb.2.2.1, hro.2⟩ (getD_set_self (by have := hb.2.1; have := hb.1; rw [List.length_replicate]; omega)) fun j hj => ?_
      rw [getD_set_ne (by omega)]
      exact hz j
    constructor
    · rintro ⟨_, h2, _, h4⟩
      exact ⟨h2, trivial, ((step h2).1 h4).2⟩
    · rintro ⟨h2, _, h4⟩
      refine ⟨h2.1, h2, .inl (hz _), (step h2).2 ⟨fun j hj => ?_, h4⟩⟩
      unfold settled
      rw [getD_set_ne (by omega)]
      exact .inl (hz j)
theorem check_spec {S N : List Int} {O : List TO} (hb : Big S O N) (hr : ∀ o ∈ O, R64 o.2.1) : box_Check S O N = checkS S O N := by
  obtain ⟨g1, g2, g3, g4⟩ := hb
  rw [box_Check_eq]
  simp only [ilen_eq]
  rw [right_spec g1, right_spec g2]
  simp only [Option.bind_some]
  unfold checkS
  by_cases h1 : S.length < 1
  · rw [decide_eq_true (show (S.length : Int) < 1 by omega), if_pos (.inl h1)]; rfl
  by_cases h2 : S.length > 64
  · rw [decide_eq_false (show ¬ (S.length : Int) < 1 by omega), decide_eq_true (show (S.length : Int) > 64 by omega), if_pos (.inr (.inl h2))]; rfl
  by_cases h3 : N.length = S.length
  · rw [decide_eq_false (show ¬ (S.length : Int) < 1 by omega), decide_eq_false (show ¬ (S.length : Int) > 64 by omega), bne_no (by omega)]
    simp only [cond_false]
    by_cases h4 : ∀ x ∈ S, okN x
    · by_cases h5 : ∀ x ∈ N, okN x
      · have hn : ¬ (S.length < 1 ∨ S.length > 64 ∨ N.length ≠ S.length ∨ ¬ ((∀ x ∈ S, okN x) ∧ ∀ x ∈ N, okN x)) := fun h => h.elim h1 fun h => h.elim h2 fun h => h.elim (fun h => h h3) fun h => h ⟨h4, h5⟩
        rw [decide_eq_true h4, decide_eq_true h5, if_neg hn]
        simp only [Bool.not_true, cond_false]
        by_cases h6 : O.length > 256
        · rw [decide_eq_true (show (O.length : Int) > 256 by omega), if_pos h6]; rfl
        · rw [decide_eq_false (show ¬ (O.length : Int) > 256 by omega), if_neg h6, decide_eq_true (show (0 : Int) ≤ (S.length : Int) by omega), decide_eq_true (show (S.length : Int) * 8 ≤ room ∧ (S.length : Int) ≤ room from ⟨by rw [room_eq]; omega, by rw [room_eq]; omega⟩)]
          simp only [cond_false, cond_true, decide_true, Int.toNat_natCast]
          have := check_l0 (S := S) (N := N) (O := O) (by omega) (by omega) O 0 0 (List.replicate S.length 0) rfl List.length_replicate (Int.le_refl _)
          rw [Int.natCast_zero] at this
          exact this.trans (res_congr (okB_none h4 O hr))
      · rw [decide_eq_true h4, decide_eq_false h5, if_pos (.inr (.inr (.inr fun h => h5 h.2)))]; rfl
    · rw [decide_eq_false h4, if_pos (.inr (.inr (.inr fun h => h4 h.1)))]; rfl
  · rw [decide_eq_false (show ¬ (S.length : Int) < 1 by omega), decide_eq_false (show ¬ (S.length : Int) > 64 by omega), bne_yes (by omega), if_pos (.inr (.inr (.inl h3)))]; rfl
/-- New. -/
def newS (n : Int) : List Int × List TO × List Int × Int := if n < 1 ∨ n > 64 then ([], [], [], 2) else (List.replicate n.toNat 0, [], List.replicate n.toNat 0, 0)
theorem new_spec (n : Int) : box_New n = some (newS n) := by
  rw [box_New_eq]
  unfold newS
  by_cases h1 : n < 1
  · rw [decide_eq_true h1, if_pos (.inl h1)]; rfl
  by_cases h2 : n > 64
  · rw [decide_eq_false h1, decide_eq_true h2, if_pos (.inr h2)]; rfl
  rw [decide_eq_false h1, decide_eq_false h2, if_neg (by omega), decide_eq_true rfl, decide_eq_true (show (0 : Int) ≤ n by omega), decide_eq_true (show n * 8 ≤ room ∧ n ≤ room from ⟨by rw [room_eq]; omega, by rw [room_eq]; omega⟩)]
  rfl
theorem refNew_l0 {n : Int} (hn : n ≤ 64) : ∀ (m : Nat) (i : Nat), (m : Int) + i = n → ref23_New_l0 n i (List.replicate i 0) (List.replicate i 0) = some (List.replicate n.toNat 0, [], List.replicate n.toNat 0, 0) := by
  intro m
  induction m with
  | zero =>
    intro i h
    rw [ref23_New_l0_eq, decide_eq_false (by omega), show n.toNat = i by omega]; rfl
  | succ m ih =>
    intro i h
    rw [ref23_New_l0_eq]
    simp only [ilen_eq, List.length_replicate, List.length_cons, List.length_nil]
    rw [decide_eq_true (show (i : Int) < n by omega), decide_eq_true (show ((i : Int) + ((0 + 1 : Nat) : Int)) * 8 ≤ room by rw [room_eq]; omega), wrap_succ (by omega)]
    simp only [cond_true]
    have e : List.replicate i (0 : Int) ++ [0] = List.replicate (i + 1) 0 := by rw [List.replicate_succ']
    rw [e]
    exact ih (i + 1) (by omega)
theorem refNew_spec (n : Int) : ref23_New n = some (newS n) := by
  rw [ref23_New_eq]
  unfold newS
  by_cases h1 : n < 1
  · rw [decide_eq_true h1, if_pos (.inl h1)]; rfl
  by_cases h2 : n > 64
  · rw [decide_eq_false h1, decide_eq_true h2, if_pos (.inr h2)]; rfl
  rw [decide_eq_false h1, decide_eq_false h2, if_neg (by omega)]
  exact refNew_l0 (by omega) n.toNat 0 (by omega)
end Go.Proofs.Ytdmfjpcobbkppaa.PE
