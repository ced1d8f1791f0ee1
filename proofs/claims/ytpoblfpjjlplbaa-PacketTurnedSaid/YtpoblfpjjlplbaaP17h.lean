/- Messages put together. -/
import Derived.Test.YtpoblfpjjlplbaaP17g
namespace Go.Proofs.Ytpoblfpjjlplbaa.PE
set_option linter.unusedVariables false
open Go Go.RowKit Go.Proofs.Ytpoblfpjjlplbaa.Pack
abbrev Pk : Type := Int × Int × List Mg
/-- The messages from one to another. -/
def sel (a k : Int) : List Mg → List Mg
  | [] => []
  | m :: r => if m.2.2.2.1 = k ∧ m.2.2.1 = a ∧ k ≠ a then m :: sel a k r else sel a k r
def one (a k : Int) (s : List Mg) : List Pk := if s.length = 0 then [] else [(a, k, s)]
def tg (a : Int) (l : List Mg) : Nat → Int → List Pk
  | 0, _ => []
  | d + 1, k => one a k (sel a k l) ++ tg a l d (k + 1)
def tog (a : Int) (l : List Mg) : List Pk := tg a l 7 1
theorem sel_len (a k : Int) (l : List Mg) : (sel a k l).length ≤ l.length := by
  induction l with
  | nil => simp [sel]
  | cons m l ih => rw [sel]; split <;> simp only [List.length_cons] <;> omega
theorem sel_self (a : Int) (l : List Mg) : sel a a l = [] := by
  induction l with
  | nil => rfl
  | cons m l ih => rw [sel, if_neg (fun h => h.2.2 rfl), ih]
theorem one_len (a k : Int) (s : List Mg) : (one a k s).length ≤ 1 := by unfold one; split <;> simp
theorem tog_l2 (a k : Int) (l : List Mg) (hl : l.length ≤ 1000000000) (acc : List Pk) (hacc : acc.length ≤ 1000) : ∀ (r : List Mg) (i : Nat) (s : List Mg), l.drop i = r → s.length ≤ i → i ≤ l.length →
    packet_Together_l2 a l k l (l.length : Int) (i : Int) a k s acc = packet_Together_l0 a l (IntKind.i64.wrap (k + 1)) (acc ++ one a k (s ++ sel a k r)) := by
  intro r
  induction r with
  | nil =>
    intro i s hd hs hi
    have := at_nil hd
    rw [packet_Together_l2_eq, Bool.cond_decide, if_neg (by omega), sel, List.append_nil, one, ilen_eq, Bool.cond_decide]
    by_cases h : s.length = 0
    · rw [if_neg (by omega), if_pos h, List.append_nil]
    · rw [if_pos (by omega), if_neg h, Bool.cond_decide, if_pos (show _ ≤ room by simp only [ilen_eq, List.length_cons, List.length_nil, room_eq]; omega)]
  | cons m r ih =>
    intro i s hd hs hi
    obtain ⟨h1, h2, h3⟩ := at_drop hd
    have ih1 := ih (i + 1) (s ++ [m]) h3 (by simp; omega) (by omega)
    have ih2 := ih (i + 1) s h3 (by omega) (by omega)
    rw [packet_Together_l2_eq, Bool.cond_decide, if_pos (by omega), Bool.cond_decide, if_pos (by omega), Int.toNat_natCast, h2, Option.bind_some, wrap_succ (by omega), ih1, ih2, sel,
      Bool.cond_decide (_ ≤ room), if_pos (show _ ≤ room by simp only [ilen_eq, List.length_cons, List.length_nil, room_eq]; omega)]
    by_cases e1 : m.2.2.2.1 = k
    · rw [beq_yes e1, cond_true]
      by_cases e2 : m.2.2.1 = a
      · rw [beq_yes e2, cond_true]
        by_cases e3 : k = a
        · rw [bne_no e3, cond_false, if_neg (fun h => h.2.2 e3)]
        · rw [bne_yes e3, cond_true, if_pos ⟨e1, e2, e3⟩, List.append_assoc]; rfl
      · rw [beq_no e2, cond_false, if_neg (fun h => e2 h.2.1)]
    · rw [beq_no e1, cond_false, if_neg (fun h => e1 h.1)]
theorem tog_l0 (a : Int) (l : List Mg) (hl : l.length ≤ 1000000000) : ∀ (d : Nat) (k : Nat) (acc : List Pk), k + d = 8 → acc.length ≤ k → packet_Together_l0 a l (k : Int) acc = some (acc ++ tg a l d (k : Int)) := by
  intro d
  induction d with
  | zero => intro k acc hk ha; rw [packet_Together_l0_eq, Bool.cond_decide, if_neg (by omega), tg, List.append_nil]
  | succ d ih =>
    intro k acc hk ha
    have q := tog_l2 a k l hl acc (by omega) l 0 [] rfl (by simp) (by omega)
    have := one_len a (k : Int) (sel a k l)
    rw [show ((0 : Nat) : Int) = 0 from rfl, List.nil_append] at q
    rw [packet_Together_l0_eq, Bool.cond_decide, if_pos (by omega), ilen_eq, q, wrap_succ (by omega), ih (k + 1) _ (by omega) (by rw [List.length_append]; omega), tg, List.append_assoc]
    rfl
theorem tog_spec (a : Int) {l : List Mg} (hl : l.length ≤ 1000000000) : packet_Together a l = some (tog a l) := by
  rw [packet_Together_eq]; exact tog_l0 a l hl 7 1 [] rfl (by simp)
theorem rtog_l2 (a k : Int) (hka : k ≠ a) (l : List Mg) (hl : l.length ≤ 1000000000) (acc : List Pk) (hacc : acc.length ≤ 1000) : ∀ (r : List Mg) (i : Nat) (s : List Mg), l.drop i = r → s.length ≤ i → i ≤ l.length →
    ref17_Together_l2 a l k (i : Int) s acc = ref17_Together_l0 a l (IntKind.i64.wrap (k + 1)) (acc ++ one a k (s ++ sel a k r)) := by
  intro r
  induction r with
  | nil =>
    intro i s hd hs hi
    have := at_nil hd
    rw [ref17_Together_l2_eq, ilen_eq, Bool.cond_decide, if_neg (by omega), sel, List.append_nil, one, ilen_eq, Bool.cond_decide]
    by_cases h : s.length = 0
    · rw [if_neg (by omega), if_pos h, List.append_nil]
    · rw [if_pos (by omega), if_neg h, Bool.cond_decide, if_pos (show _ ≤ room by simp only [ilen_eq, List.length_cons, List.length_nil, room_eq]; omega)]
  | cons m r ih =>
    intro i s hd hs hi
    obtain ⟨h1, h2, h3⟩ := at_drop hd
    have ih1 := ih (i + 1) (s ++ [m]) h3 (by simp; omega) (by omega)
    have ih2 := ih (i + 1) s h3 (by omega) (by omega)
    rw [ref17_Together_l2_eq, ilen_eq, Bool.cond_decide, if_pos (by omega), Bool.cond_decide, if_pos (by omega), Int.toNat_natCast, h2, Option.bind_some, Option.bind_some, Option.bind_some, wrap_succ (by omega), ih1, ih2, sel,
      Bool.cond_decide (_ ≤ room), if_pos (show _ ≤ room by simp only [ilen_eq, List.length_cons, List.length_nil, room_eq]; omega), Bool.cond_decide (0 ≤ _), if_pos (show (0 : Int) ≤ (i : Int) by omega)]
    by_cases e2 : m.2.2.1 = a
    · rw [beq_yes e2, cond_true]
      by_cases e1 : m.2.2.2.1 = k
      · rw [beq_yes e1, cond_true, if_pos ⟨e1, e2, hka⟩, List.append_assoc]; rfl
      · rw [beq_no e1, cond_false, if_neg (fun h => e1 h.1)]
    · rw [beq_no e2, cond_false, if_neg (fun h => e2 h.2.1)]
theorem rtog_l0 (a : Int) (l : List Mg) (hl : l.length ≤ 1000000000) : ∀ (d : Nat) (k : Nat) (acc : List Pk), k + d = 8 → acc.length ≤ k → ref17_Together_l0 a l (k : Int) acc = some (acc ++ tg a l d (k : Int)) := by
  intro d
  induction d with
  | zero => intro k acc hk ha; rw [ref17_Together_l0_eq, Bool.cond_decide, if_neg (by omega), tg, List.append_nil]
  | succ d ih =>
    intro k acc hk ha
    rw [ref17_Together_l0_eq, Bool.cond_decide, if_pos (by omega)]
    by_cases hka : (k : Int) = a
    · rw [beq_yes hka, cond_true, wrap_succ (by omega), ih (k + 1) _ (by omega) (by omega), tg, hka, sel_self]
      rw [← hka]; rfl
    · have q := rtog_l2 a k hka l hl acc (by omega) l 0 [] rfl (by simp) (by omega)
      have := one_len a (k : Int) (sel a k l)
      rw [show ((0 : Nat) : Int) = 0 from rfl, List.nil_append] at q
      rw [beq_no hka, cond_false, q, wrap_succ (by omega), ih (k + 1) _ (by omega) (by rw [List.length_append]; omega), tg, List.append_assoc]
      rfl
theorem rtog_spec (a : Int) {l : List Mg} (hl : l.length ≤ 1000000000) : ref17_Together a l = some (tog a l) := by
  rw [ref17_Together_eq]; exact rtog_l0 a l hl 7 1 [] rfl (by simp)
/-! what is put together: from one, to others, in order, each once -/
def hi (k : Int) : List Mg → Nat
  | [] => 0
  | m :: r => (if k ≤ m.2.2.2.1 then 1 else 0) + hi k r
theorem hi_len (k : Int) (l : List Mg) : hi k l ≤ l.length := by
  induction l with
  | nil => simp [hi]
  | cons m l ih => rw [hi, List.length_cons]; split <;> omega
theorem sel_hi (a k : Int) (l : List Mg) : (sel a k l).length + hi (k + 1) l ≤ hi k l := by
  induction l with
  | nil => simp [sel, hi]
  | cons m l ih =>
    rw [sel, hi, hi]
    by_cases h : m.2.2.2.1 = k ∧ m.2.2.1 = a ∧ k ≠ a
    · rw [if_pos h, if_neg (by omega), if_pos (by omega), List.length_cons]; omega
    · rw [if_neg h]
      by_cases h2 : k + 1 ≤ m.2.2.2.1
      · rw [if_pos h2, if_pos (by omega)]; omega
      · rw [if_neg h2]; split <;> omega
def tot : List Pk → Nat
  | [] => 0
  | p :: r => p.2.2.length + tot r
theorem tot_append (a b : List Pk) : tot (a ++ b) = tot a + tot b := by
  induction a with
  | nil => simp [tot]
  | cons p a ih => rw [List.cons_append, tot, tot, ih]; omega
theorem tg_tot (a : Int) (l : List Mg) (d : Nat) (k : Int) : tot (tg a l d k) ≤ hi k l := by
  induction d generalizing k with
  | zero => simp [tg, tot]
  | succ d ih =>
    have h1 := ih (k + 1)
    have h2 := sel_hi a k l
    rw [tg, tot_append, one]
    split
    · simp only [tot]; omega
    · simp only [tot]; omega
theorem sel_ne {a k : Int} {l : List Mg} (h : (sel a k l).length ≠ 0) : k ≠ a := fun e => h (by rw [e, sel_self]; rfl)
theorem tg_mem (a : Int) (l : List Mg) (d : Nat) (k : Int) : ∀ p ∈ tg a l d k, p.1 = a ∧ p.2.1 ≠ a ∧ k ≤ p.2.1 ∧ p.2.2.length ≤ l.length ∧ ∀ m ∈ p.2.2, m ∈ l := by
  induction d generalizing k with
  | zero => intro p hp; cases hp
  | succ d ih =>
    intro p hp
    rw [tg] at hp
    rcases List.mem_append.mp hp with hp | hp
    · unfold one at hp
      split at hp
      · cases hp
      · rename_i h
        rw [List.mem_singleton] at hp
        subst hp
        refine ⟨rfl, sel_ne h, Int.le_refl _, sel_len a k l, ?_⟩
        have : ∀ (l' : List Mg) m, m ∈ sel a k l' → m ∈ l' := by
          intro l'
          induction l' with
          | nil => intro m hm; cases hm
          | cons x l' ih2 =>
            intro m hm
            rw [sel] at hm
            split at hm
            · rcases List.mem_cons.mp hm with rfl | hm
              · simp
              · exact List.mem_cons_of_mem _ (ih2 m hm)
            · exact List.mem_cons_of_mem _ (ih2 m hm)
        exact this l
    · obtain ⟨h1, h2, h3, h4, h5⟩ := ih (k + 1) p hp
      exact ⟨h1, h2, by omega, h4, h5⟩
theorem tg_inc (a : Int) (l : List Mg) (d : Nat) (k : Int) : (tg a l d k).Pairwise (fun p q => p.2.1 < q.2.1) := by
  induction d generalizing k with
  | zero => exact List.Pairwise.nil
  | succ d ih =>
    rw [tg, one]
    split
    · exact ih (k + 1)
    · refine List.Pairwise.cons (fun q hq => ?_) (ih (k + 1))
      have := (tg_mem a l d (k + 1) q hq).2.2.1
      show k < q.2.1
      omega
theorem tg_len (a : Int) (l : List Mg) (d : Nat) (k : Int) : (tg a l d k).length ≤ d := by
  induction d generalizing k with
  | zero => simp [tg]
  | succ d ih =>
    have h1 := ih (k + 1)
    have h2 := one_len a k (sel a k l)
    rw [tg, List.length_append]; omega
theorem all_self_l0 (l : List Pk) (hl : l.length ≤ 9223372036854775806) (hs : ∀ p ∈ l, p.2.2.length ≤ 9223372036854775806 ∧ Short p.2.2) : ∀ (r : List Pk) (i : Nat), l.drop i = r → ref17_SameAll_l0 l l (i : Int) = some true := by
  intro r
  induction r with
  | nil =>
    intro i hd
    have := at_nil hd
    rw [ref17_SameAll_l0_eq, ilen_eq, Bool.cond_decide, if_neg (by omega)]
  | cons x r ih =>
    intro i hd
    obtain ⟨h1, h2, h3⟩ := at_drop hd
    have hx := hs x (List.mem_of_getElem? h2)
    rw [ref17_SameAll_l0_eq, ilen_eq, Bool.cond_decide, if_pos (by omega), Bool.cond_decide, if_pos (by omega), Int.toNat_natCast, h2, Option.bind_some, Option.bind_some, pk_self _ _ _ hx.1 hx.2, Option.bind_some, Bool.not_true, cond_false, wrap_succ (by omega), ih (i + 1) h3]
    rfl
theorem all_self (l : List Pk) (hl : l.length ≤ 9223372036854775806) (hs : ∀ p ∈ l, p.2.2.length ≤ 9223372036854775806 ∧ Short p.2.2) : ref17_SameAll l l = some true := by
  rw [ref17_SameAll_eq, bne_no rfl, cond_false]
  exact all_self_l0 l hl hs l 0 rfl
/-! the example -/
def m17 : Mg := (5, 3, 1, 2, 5, 9, 0, 0, true, [(5, [7])], [])
theorem works17 : law17_works = some true := by
  have hb : ∀ m ∈ [m17], BM m := by
    intro m hm
    rw [List.mem_singleton] at hm; subst hm
    refine ⟨fun x hx => (by cases hx), fun e he => ?_⟩
    have : e = (5, [7]) := List.mem_singleton.mp he
    subst this
    intro x hx
    rw [List.mem_singleton] at hx
    omega
  have hs : Short [m17] := by
    intro m hm
    rw [List.mem_singleton] at hm; subst hm
    exact (by decide : (1 : Nat) ≤ 9223372036854775806)
  have hk : chk 1 2 [m17] = 0 := by decide
  have p1 := put_spec (a := 1) (b := 2) hs hb
  rw [putS, if_pos hk] at p1
  have p2 := read_back hk hb
  have p3 := read_bad (c := [1]) (t := [2, 3, 4, 5]) (by intro x hx; simp at hx; omega) (by intro x hx; simp at hx; omega) rfl (by simp) (by decide +kernel)
  have p4 := tog_spec 1 (l := [m17, (0, 0, 1, 3, 0, 0, 0, 0, false, [], []), m17]) (by simp)
  have p5 := pk_self 1 2 [m17] (by simp) hs
  have p6 := check_spec 0 0 [] (fun m hm => by cases hm)
  rw [law17_works_eq]
  refine (congrArg (fun o => Option.bind o _) p1).trans ?_
  rw [Option.bind_some]
  dsimp only
  rw [p2, Option.bind_some]
  refine (congrArg (fun o => Option.bind o _) p3).trans ?_
  rw [Option.bind_some]
  refine (congrArg (fun o => Option.bind o _) p4).trans ?_
  rw [Option.bind_some, show tog 1 [m17, (0, 0, 1, 3, 0, 0, 0, 0, false, [], []), m17] = [(1, 2, [m17, m17]), (1, 3, [(0, 0, 1, 3, 0, 0, 0, 0, false, [], [])])] by kernel_rfl]
  dsimp only
  rw [beq_yes rfl, cond_true, beq_yes rfl, cond_true]
  refine (congrArg (fun o => Option.bind o _) p5).trans ?_
  rw [Option.bind_some, cond_true, p6]
  rfl
/-! the laws -/
def WfM (m : Mg) : Prop := BM m ∧ Reach m ∧ m.2.2.2.2.2.2.2.2.2.1.length ≤ 140737488355328
theorem short_of {l : List Mg} (h : ∀ m ∈ l, WfM m) : Short l := fun m hm => by have := (h m hm).2.2; omega
theorem light_of17 {l : List Mg} (hl : l.length ≤ 140737488355328) (h : ∀ m ∈ l, WfM m) : ∃ t, law17_light l = some t ∧ (t = true → l.length ≤ 300) :=
  light17 l (by omega) (fun m hm => (h m hm).2.1) (short_of h)
theorem puts_law (a b : Int) (l : List Mg) (hl : l.length ≤ 140737488355328) (h : ∀ m ∈ l, WfM m) : law17_PacketPuts a b l = some true := by
  obtain ⟨t, h1, _⟩ := light_of17 hl h
  rw [law17_PacketPuts_eq, h1, Option.bind_some, works17, Option.bind_some, put_spec (short_of h) (fun m hm => (h m hm).1), Option.bind_some, refput_spec (short_of h) (fun m hm => (h m hm).1), Option.bind_some, check_spec a b l (short_of h), Option.bind_some, refCheck_spec a b l (short_of h), Option.bind_some,
    ref02_Same_eq, Option.bind_some, beq_yes rfl, beq_yes rfl, beq_yes rfl]
  cases t <;> rfl
theorem back_law (a b : Int) (l : List Mg) (hl : l.length ≤ 140737488355328) (h : ∀ m ∈ l, WfM m) : law17_PacketBack a b l = some true := by
  obtain ⟨t, h1, _⟩ := light_of17 hl h
  rw [law17_PacketBack_eq, h1, Option.bind_some, works17, Option.bind_some, put_spec (short_of h) (fun m hm => (h m hm).1), Option.bind_some, putS]
  cases t with
  | false => rfl
  | true =>
    rw [Bool.not_true, cond_false]
    by_cases hk : chk a b l = 0
    · rw [if_pos hk]
      dsimp only
      rw [bne_no rfl, cond_false, read_back hk (fun m hm => (h m hm).1), Option.bind_some]
      dsimp only
      rw [pk_self a b l (by omega) (short_of h), Option.bind_some]
      rfl
    · rw [if_neg hk]
      dsimp only
      rw [bne_yes hk, cond_true]
      rfl
theorem once_law (x : List Int) (hb : Bytes x) (hl : x.length ≤ 140737488355328) : law17_PacketOnce x = some true := by
  rw [law17_PacketOnce_eq, works17, Option.bind_some, ilen_eq, Bool.cond_decide]
  by_cases h15 : (x.length : Int) > 1500
  · rw [if_pos h15]
  · rw [if_neg h15, seal_spec hb (by omega), Option.bind_some]
    obtain ⟨a, b, l, e, h1, h2, h3⟩ := read_tot (x := sealed x) (hb.app (le4_bytes _)) (by rw [seal_len]; omega)
    rw [h1, Option.bind_some]
    dsimp only
    by_cases he : e = 0
    · subst he
      obtain ⟨k1, k2, k3⟩ := h3 rfl
      have hsh : Short l := fun m hm => by have := (msgOk_iff m).mp ((chk_ok k1).2.2.2.2 m hm).2.2; omega
      rw [bne_no rfl, cond_false, put_spec hsh k2, putS, if_pos k1, Option.bind_some]
      dsimp only
      rw [beq_yes rfl, cond_true, Option.bind_some, ← k3, ref02_Same_eq, Option.bind_some, beq_yes rfl, cond_true, refCheck_spec a b l hsh, k1, Option.bind_some]
      rfl
    · obtain ⟨rfl, rfl, rfl⟩ := h2 he
      rw [bne_yes he, cond_true, pk_self 0 0 [] (by simp) (fun m hm => by cases hm), Option.bind_some]
      rfl
theorem together_l0 (a : Int) (l : List Mg) (p : List Pk) (hp : p.length ≤ 7) (hl : l.length ≤ 300) (h1 : ∀ q ∈ p, q.1 = a ∧ q.2.1 ≠ a) (h2 : p.Pairwise (fun p q => p.2.1 < q.2.1)) :
    ∀ (r : List Pk) (i n : Nat), p.drop i = r → n + tot r ≤ l.length → law17_PacketTogether_l0 a l p (n : Int) (i : Int) = some true := by
  intro r
  induction r with
  | nil =>
    intro i n hd hn
    have := at_nil hd
    rw [tot] at hn
    rw [law17_PacketTogether_l0_eq, ilen_eq, ilen_eq, Bool.cond_decide, if_neg (by omega), works17, Bool.cond_decide, if_pos (by omega)]
    rfl
  | cons x r ih =>
    intro i n hd hn
    obtain ⟨g1, g2, g3⟩ := at_drop hd
    have hx := h1 x (List.mem_of_getElem? g2)
    rw [tot] at hn
    have q := ih (i + 1) (n + x.2.2.length) g3 (by omega)
    rw [law17_PacketTogether_l0_eq, ilen_eq, Bool.cond_decide, if_pos (by omega), Bool.cond_decide, if_pos (by omega), Int.toNat_natCast, g2, Option.bind_some, ilen_eq, wrap_succ (by omega), wrap_i64 (x := (n : Int) + (x.2.2.length : Int)) (by omega) (by omega), show (n : Int) + (x.2.2.length : Int) = ((n + x.2.2.length : Nat) : Int) by omega, q,
      Option.bind_some, bne_no hx.1, cond_false, Bool.cond_decide (0 ≤ (i : Int)), if_pos (by omega), Option.bind_some, beq_no hx.2, cond_false, Bool.cond_decide (0 ≤ (i : Int)), if_pos (by omega), Bool.cond_decide]
    by_cases hi : (i : Int) > 0
    · rw [if_pos hi, wrap_i64 (x := (i : Int) - 1) (by omega) (by omega), show (i : Int) - 1 = ((i - 1 : Nat) : Int) by omega, Bool.cond_decide, if_pos (by omega), Int.toNat_natCast]
      have hlt : i - 1 < p.length := by omega
      have gi : p[i] = x := by
        have := List.getElem?_eq_getElem g1
        rw [g2] at this
        exact (Option.some.inj this).symm
      have pw := List.pairwise_iff_getElem.mp h2 (i - 1) i hlt g1 (by omega)
      rw [gi] at pw
      rw [List.getElem?_eq_getElem hlt, Option.bind_some, Bool.cond_decide (0 ≤ (i : Int)), if_pos (by omega), Option.bind_some, Bool.cond_decide, if_neg (by omega)]
    · rw [if_neg hi]
theorem together_law (a : Int) (l : List Mg) (hl : l.length ≤ 140737488355328) (h : ∀ m ∈ l, WfM m) : law17_PacketTogether a l = some true := by
  obtain ⟨t, h1, h2⟩ := light_of17 hl h
  rw [law17_PacketTogether_eq, h1, Option.bind_some]
  cases t with
  | false => rw [Bool.not_false, cond_true, works17]; rfl
  | true =>
    have hl3 := h2 rfl
    have hm := tg_mem a l 7 1
    have ht := tg_len a l 7 1
    rw [Bool.not_true, cond_false, tog_spec a (by omega), Option.bind_some, rtog_spec a (by omega), Option.bind_some, all_self (tog a l) (by show (tg a l 7 1).length ≤ _; omega) (fun p hp => ⟨by have := (hm p hp).2.2.2.1; omega, fun m hm2 => short_of h m ((hm p hp).2.2.2.2 m hm2)⟩), Option.bind_some, Bool.not_true, cond_false]
    refine together_l0 a l (tog a l) ht hl3 (fun q hq => ⟨(hm q hq).1, (hm q hq).2.1⟩) (tg_inc a l 7 1) (tog a l) 0 0 rfl ?_
    have q1 := tg_tot a l 7 1
    have q2 := hi_len 1 l
    rw [Nat.zero_add]
    exact Nat.le_trans q1 q2
end Go.Proofs.Ytpoblfpjjlplbaa.PE
