/- Packets as bytes: what is written. -/
import Derived.Test.YtpoblfpjjlplbaaP17c
namespace Go.Proofs.Ytpoblfpjjlplbaa.PE
set_option linter.unusedVariables false
open Go Go.RowKit Go.Proofs.Ytpoblfpjjlplbaa.Pack
def b2i (b : Bool) : Int := bif b then 1 else 0
def encEnts : List Ent → List Int
  | [] => []
  | e :: r => (enc e.1.toNat ++ encB e.2) ++ encEnts r
/-- The numbers that a message begins with. -/
def headM (m : Mg) : List Int := [m.1, m.2.1, m.2.2.2.2.1, m.2.2.2.2.2.1, m.2.2.2.2.2.2.1, m.2.2.2.2.2.2.2.1, b2i m.2.2.2.2.2.2.2.2.1, (m.2.2.2.2.2.2.2.2.2.1.length : Int)]
def encM (m : Mg) : List Int := encs (headM m) ++ (encEnts m.2.2.2.2.2.2.2.2.2.1 ++ encB m.2.2.2.2.2.2.2.2.2.2)
def encMs : List Mg → List Int
  | [] => []
  | m :: r => encM m ++ encMs r
def body (a b : Int) (l : List Mg) : List Int := encs [a, b, (l.length : Int)] ++ encMs l
/-- A number as four bytes, the lowest first. -/
def le4 (v : Nat) : List Int := [((v % 256 : Nat) : Int), ((v / 256 % 256 : Nat) : Int), ((v / 65536 % 256 : Nat) : Int), ((v / 16777216 % 256 : Nat) : Int)]
def sealed (b : List Int) : List Int := b ++ le4 (sumv b)
def BM (m : Mg) : Prop := Bytes m.2.2.2.2.2.2.2.2.2.2 ∧ ∀ e ∈ m.2.2.2.2.2.2.2.2.2.1, Bytes e.2
theorem encs_bytes {l : List Int} (h : Small l) : Bytes (encs l) := by
  induction l with
  | nil => exact Bytes.nil
  | cons n l ih =>
    have hn := h n (by simp)
    exact (enc_bytes (by omega)).app (ih fun x hx => h x (by simp [hx]))
theorem encB_bytes {s : List Int} (h : Bytes s) (hs : s.length ≤ 100000) : Bytes (encB s) := (enc_bytes (by omega)).app h
theorem entOk_iff (e : Ent) : entOk e = true ↔ 1 ≤ e.1 ∧ e.1 ≤ 1099511627776 ∧ e.2.length ≤ 65536 := by
  simp only [entOk, inR, Bool.and_eq_true, decide_eq_true_eq, and_assoc]
theorem encEnts_bytes {l : List Ent} (h : l.all entOk = true) (hb : ∀ e ∈ l, Bytes e.2) : Bytes (encEnts l) := by
  induction l with
  | nil => exact Bytes.nil
  | cons e l ih =>
    rw [List.all_cons, Bool.and_eq_true, entOk_iff] at h
    exact ((enc_bytes (by omega)).app (encB_bytes (hb e (by simp)) (by omega))).app (ih h.2 fun x hx => hb x (by simp [hx]))
theorem encEnts_len {l : List Ent} (h : l.all entOk = true) : (encEnts l).length ≤ 65556 * l.length := by
  induction l with
  | nil => simp [encEnts]
  | cons e l ih =>
    rw [List.all_cons, Bool.and_eq_true, entOk_iff] at h
    have := ih h.2
    have h1 := enc_length e.1.toNat
    have h2 := enc_length e.2.length
    simp only [encEnts, encB, List.length_append, List.length_cons]; omega
theorem b2i_small (b : Bool) : 0 ≤ b2i b ∧ b2i b ≤ 1 := by cases b <;> decide
theorem headM_small {m : Mg} (h : msgOk m = true) : Small (headM m) := by
  obtain ⟨h1, h2, h3, h4, h5, h6, h7, h8, _⟩ := (msgOk_iff m).mp h
  have := b2i_small m.2.2.2.2.2.2.2.2.1
  intro n hn
  simp only [headM, List.mem_cons, List.not_mem_nil, or_false] at hn
  rcases hn with rfl | rfl | rfl | rfl | rfl | rfl | rfl | rfl <;> omega
theorem encM_bytes {m : Mg} (h : msgOk m = true) (hb : BM m) : Bytes (encM m) := by
  obtain ⟨h1, h2, h3, h4, h5, h6, h7, h8, h9⟩ := (msgOk_iff m).mp h
  exact (encs_bytes (headM_small h)).app ((encEnts_bytes h9 hb.2).app (encB_bytes hb.1 (by omega)))
theorem encM_len {m : Mg} (h : msgOk m = true) : (encM m).length ≤ 600000 := by
  obtain ⟨h1, h2, h3, h4, h5, h6, h7, h8, h9⟩ := (msgOk_iff m).mp h
  have a := encs_len (headM m)
  have b := encEnts_len h9
  have c := encB_len m.2.2.2.2.2.2.2.2.2.2
  rw [show (headM m).length = 8 from rfl] at a
  simp only [encM, List.length_append]; omega
theorem encMs_bytes {l : List Mg} (h : ∀ m ∈ l, msgOk m = true) (hb : ∀ m ∈ l, BM m) : Bytes (encMs l) := by
  induction l with
  | nil => exact Bytes.nil
  | cons m l ih => exact (encM_bytes (h m (by simp)) (hb m (by simp))).app (ih (fun x hx => h x (by simp [hx])) fun x hx => hb x (by simp [hx]))
theorem encMs_len {l : List Mg} (h : ∀ m ∈ l, msgOk m = true) : (encMs l).length ≤ 600000 * l.length := by
  induction l with
  | nil => simp [encMs]
  | cons m l ih =>
    have h1 := encM_len (h m (by simp))
    have h2 := ih fun x hx => h x (by simp [hx])
    simp only [encMs, List.length_append, List.length_cons]; omega
theorem seal_len (b : List Int) : (sealed b).length = b.length + 4 := by simp [sealed, le4]
theorem le4_bytes (v : Nat) : Bytes (le4 v) := by
  intro x hx
  simp only [le4, List.mem_cons, List.not_mem_nil, or_false] at hx
  rcases hx with rfl | rfl | rfl | rfl <;> omega
theorem le4_go {v : Nat} (h : v < 4294967296) : [IntKind.u8.wrap (v : Int), IntKind.u8.wrap ((v : Int).fdiv (2 ^ min (Int.toNat 8) IntKind.u32.bits)), IntKind.u8.wrap ((v : Int).fdiv (2 ^ min (Int.toNat 16) IntKind.u32.bits)), IntKind.u8.wrap ((v : Int).fdiv (2 ^ min (Int.toNat 24) IntKind.u32.bits))] = le4 v := by
  rw [show ((2 : Int) ^ min (Int.toNat 8) IntKind.u32.bits) = 256 from rfl, show ((2 : Int) ^ min (Int.toNat 16) IntKind.u32.bits) = 65536 from rfl, show ((2 : Int) ^ min (Int.toNat 24) IntKind.u32.bits) = 16777216 from rfl]
  rw [Int.fdiv_eq_ediv_of_nonneg _ (by omega), Int.fdiv_eq_ediv_of_nonneg _ (by omega), Int.fdiv_eq_ediv_of_nonneg _ (by omega), wrap_u8, wrap_u8, wrap_u8, wrap_u8, le4]
  have e1 : (v : Int) % 256 = ((v % 256 : Nat) : Int) := by omega
  have e2 : (v : Int) / 256 % 256 = ((v / 256 % 256 : Nat) : Int) := by omega
  have e3 : (v : Int) / 65536 % 256 = ((v / 65536 % 256 : Nat) : Int) := by omega
  have e4 : (v : Int) / 16777216 % 256 = ((v / 16777216 % 256 : Nat) : Int) := by omega
  rw [e1, e2, e3, e4]
theorem le4_ref {v : Nat} (h : v < 4294967296) : [IntKind.u8.wrap ((v : Int).tmod 256), IntKind.u8.wrap ((IntKind.u32.wrap ((v : Int).tdiv 256)).tmod 256), IntKind.u8.wrap ((IntKind.u32.wrap ((v : Int).tdiv 65536)).tmod 256), IntKind.u8.wrap (IntKind.u32.wrap ((v : Int).tdiv 16777216))] = le4 v := by
  rw [Int.tdiv_eq_ediv_of_nonneg (by omega), Int.tdiv_eq_ediv_of_nonneg (by omega), Int.tdiv_eq_ediv_of_nonneg (by omega), wrap_u32, wrap_u32, wrap_u32, Int.tmod_eq_emod_of_nonneg (by omega), Int.tmod_eq_emod_of_nonneg (by omega), Int.tmod_eq_emod_of_nonneg (by omega), wrap_u8, wrap_u8, wrap_u8, wrap_u8, le4]
  have e1 : (v : Int) % 256 % 256 = ((v % 256 : Nat) : Int) := by omega
  have e2 : (v : Int) / 256 % 4294967296 % 256 % 256 = ((v / 256 % 256 : Nat) : Int) := by omega
  have e3 : (v : Int) / 65536 % 4294967296 % 256 % 256 = ((v / 65536 % 256 : Nat) : Int) := by omega
  have e4 : (v : Int) / 16777216 % 4294967296 % 256 = ((v / 16777216 % 256 : Nat) : Int) := by omega
  rw [e1, e2, e3, e4]
theorem seal_spec {b : List Int} (hb : Bytes b) (hl : b.length ≤ 1000000000000) : ref17_Seal b = some (sealed b) := by
  rw [ref17_Seal_eq, refsum_spec hb hl, Option.bind_some, le4_ref (sumv_lt hb), List.nil_append, ilen_eq, ilen_eq]
  rw [Bool.cond_decide, if_pos (show _ ≤ room by simp only [room_eq]; omega), Bool.cond_decide, if_pos (show _ ≤ room by simp only [le4, List.length_cons, List.length_nil, room_eq]; omega)]
  rfl
theorem put_l2 (l : List Mg) (n j : Int) (t : List Int) (ht : t.length ≤ 65536) (es : List Ent) (hes : es.length ≤ 8) (hok : es.all entOk = true) :
    ∀ (r : List Ent) (i : Nat) (acc : List Int) (a b c d e f g h : Int) (o : Bool) (es' : List Ent), es.drop i = r → acc.length + 65556 * r.length ≤ 90000000000 →
      packet_Put_l2 l n j es (es.length : Int) (i : Int) a b c d e f g h o es' t acc = packet_Put_l0 l n (IntKind.i64.wrap (j + 1)) (acc ++ (encEnts r ++ encB t)) := by
  intro r
  induction r with
  | nil =>
    intro i acc a b c d e f g h o es' hr hl
    have := at_nil hr
    rw [packet_Put_l2_eq, Bool.cond_decide, if_neg (by omega), bytes17 (by omega) (by omega), Option.bind_some, encEnts, List.nil_append]
  | cons x r ih =>
    intro i acc a b c d e f g h o es' hr hl
    obtain ⟨h1, h2, h3⟩ := at_drop hr
    have hx := (entOk_iff x).mp (List.all_eq_true.mp hok x (List.mem_of_getElem? h2))
    have l1 := enc_length x.1.toNat
    have l2 := encB_len x.2
    rw [List.length_cons] at hl
    rw [packet_Put_l2_eq, Bool.cond_decide, if_pos (by omega), Bool.cond_decide, if_pos (by omega), Int.toNat_natCast, h2, Option.bind_some, nums_spec (fun y hy => by rw [List.mem_singleton] at hy; omega) (by simp) (by omega), Option.bind_some, bytes17 (by simp only [encs, List.length_append, List.length_nil]; omega) (by omega), Option.bind_some, wrap_succ (by omega)]
    rw [ih (i + 1) _ a b c d e f g h o es' h3 (by simp only [encs, List.length_append, List.length_nil]; omega)]
    simp only [encs, encEnts, List.append_assoc, List.append_nil]
theorem put_l0 (l : List Mg) (hl : l.length ≤ 256) (hok : ∀ m ∈ l, msgOk m = true) : ∀ (r : List Mg) (i : Nat) (acc : List Int), l.drop i = r → acc.length + 600000 * r.length ≤ 800000000 → Bytes (acc ++ encMs r) →
    packet_Put_l0 l (l.length : Int) (i : Int) acc = some (sealed (acc ++ encMs r), 0) := by
  intro r
  induction r with
  | nil =>
    intro i acc hr hs hb
    have := at_nil hr
    rw [encMs, List.append_nil] at hb ⊢
    rw [packet_Put_l0_eq, Bool.cond_decide, if_neg (by omega), sum_spec hb (by omega), Option.bind_some, le4_go (sumv_lt hb), ilen_eq, ilen_eq, Bool.cond_decide, if_pos (show _ ≤ room by simp only [le4, List.length_cons, List.length_nil, room_eq]; omega)]
    rfl
  | cons m r ih =>
    intro i acc hr hs hb
    obtain ⟨h1, h2, h3⟩ := at_drop hr
    have hm := hok m (List.mem_of_getElem? h2)
    obtain ⟨k1, k2, k3, k4, k5, k6, k7, k8, k9⟩ := (msgOk_iff m).mp hm
    have l1 := encM_len hm
    have l2 := encs_len (headM m)
    rw [show (headM m).length = 8 from rfl] at l2
    rw [List.length_cons] at hs
    have hyes : packet_yes m.2.2.2.2.2.2.2.2.1 = some (b2i m.2.2.2.2.2.2.2.2.1) := by
      rw [packet_yes_eq, b2i]; cases m.2.2.2.2.2.2.2.2.1 <;> rfl
    rw [packet_Put_l0_eq, Bool.cond_decide, if_pos (by omega), Bool.cond_decide, if_pos (by omega), Int.toNat_natCast, h2, Option.bind_some, hyes, Option.bind_some, ilen_eq,
      nums_spec (l := [m.1, m.2.1, m.2.2.2.2.1, m.2.2.2.2.2.1, m.2.2.2.2.2.2.1, m.2.2.2.2.2.2.2.1, b2i m.2.2.2.2.2.2.2.2.1, (m.2.2.2.2.2.2.2.2.2.1.length : Int)]) (headM_small hm) (by simp) (by omega), Option.bind_some]
    have q := put_l2 l (l.length : Int) (i : Int) m.2.2.2.2.2.2.2.2.2.2 (by omega) m.2.2.2.2.2.2.2.2.2.1 (by omega) k9 m.2.2.2.2.2.2.2.2.2.1 0 (acc ++ encs (headM m)) m.1 m.2.1 m.2.2.1 m.2.2.2.1 m.2.2.2.2.1 m.2.2.2.2.2.1 m.2.2.2.2.2.2.1 m.2.2.2.2.2.2.2.1 m.2.2.2.2.2.2.2.2.1 m.2.2.2.2.2.2.2.2.2.1 rfl (by rw [List.length_append]; omega)
    refine q.trans ?_
    have e : acc ++ encs (headM m) ++ (encEnts m.2.2.2.2.2.2.2.2.2.1 ++ encB m.2.2.2.2.2.2.2.2.2.2) = acc ++ encM m := by rw [encM, List.append_assoc]
    rw [e, wrap_succ (by omega)]
    rw [encMs, ← List.append_assoc] at hb ⊢
    exact ih (i + 1) _ h3 (by rw [List.length_append]; omega) hb
theorem msgs1_ok {a b : Int} {l : List Mg} (h : msgs1 a b l = 0) : ∀ m ∈ l, m.2.2.1 = a ∧ m.2.2.2.1 = b ∧ msgOk m = true := by
  induction l with
  | nil => intro m hm; cases hm
  | cons m l ih =>
    rw [msgs1] at h
    split at h
    · cases h
    · rename_i h1
      split at h
      · cases h
      · rename_i h2
        split at h
        · rename_i h3
          intro x hx
          rcases List.mem_cons.mp hx with rfl | hx
          · exact ⟨by omega, by omega, h3⟩
          · exact ih h x hx
        · cases h
theorem msgs1_codes (a b : Int) (l : List Mg) : msgs1 a b l = 0 ∨ msgs1 a b l = 1 := by
  induction l with
  | nil => exact .inl rfl
  | cons m l ih =>
    rw [msgs1]
    split
    · exact .inr rfl
    split
    · exact .inr rfl
    split
    · exact ih
    · exact .inr rfl
theorem chk_ok {a b : Int} {l : List Mg} (h : chk a b l = 0) : (1 ≤ a ∧ a ≤ 7) ∧ (1 ≤ b ∧ b ≤ 7) ∧ a ≠ b ∧ l.length ≤ 256 ∧ ∀ m ∈ l, m.2.2.1 = a ∧ m.2.2.2.1 = b ∧ msgOk m = true := by
  unfold chk at h
  split at h
  · split at h
    · split at h
      · cases h
      · split at h
        · cases h
        · rename_i h1 h2 h3 h4
          simp only [inR, Bool.and_eq_true, decide_eq_true_eq] at h1 h2
          exact ⟨h1, h2, h3, by omega, msgs1_ok h⟩
    · cases h
  · cases h
theorem head_small {a b : Int} {l : List Mg} (ha : 1 ≤ a ∧ a ≤ 7) (hb : 1 ≤ b ∧ b ≤ 7) (hl : l.length ≤ 256) : Small [a, b, (l.length : Int)] := by
  intro n hn
  simp only [List.mem_cons, List.not_mem_nil, or_false] at hn
  rcases hn with rfl | rfl | rfl <;> omega
theorem body_bytes {a b : Int} {l : List Mg} (h : chk a b l = 0) (hb : ∀ m ∈ l, BM m) : Bytes (body a b l) := by
  obtain ⟨h1, h2, h3, h4, h5⟩ := chk_ok h
  exact (encs_bytes (head_small h1 h2 h4)).app (encMs_bytes (fun m hm => (h5 m hm).2.2) hb)
theorem body_len {a b : Int} {l : List Mg} (h : chk a b l = 0) : (body a b l).length ≤ 200000000 := by
  obtain ⟨h1, h2, h3, h4, h5⟩ := chk_ok h
  have a1 := encs_len [a, b, (l.length : Int)]
  have a2 := encMs_len (l := l) (fun m hm => (h5 m hm).2.2)
  simp only [body, List.length_append]
  simp only [List.length_cons, List.length_nil] at a1
  omega
/-- A packet as bytes, and what is wrong with it. -/
def putS (a b : Int) (l : List Mg) : List Int × Int := if chk a b l = 0 then (sealed (body a b l), 0) else ([], chk a b l)
def Short (l : List Mg) : Prop := ∀ m ∈ l, m.2.2.2.2.2.2.2.2.2.1.length ≤ 9223372036854775806
theorem put_spec {a b : Int} {l : List Mg} (hs : Short l) (hb : ∀ m ∈ l, BM m) : packet_Put a b l = some (putS a b l) := by
  rw [packet_Put_eq, check_spec a b l hs, Option.bind_some, putS]
  by_cases h : chk a b l = 0
  · obtain ⟨h1, h2, h3, h4, h5⟩ := chk_ok h
    have a1 := encs_len [a, b, (l.length : Int)]
    simp only [List.length_cons, List.length_nil] at a1
    rw [bne_no h, cond_false, if_pos h, ilen_eq, nums_spec (head_small h1 h2 h4) (by simp) (by simp), Option.bind_some, List.nil_append]
    exact put_l0 l h4 (fun m hm => (h5 m hm).2.2) l 0 (encs [a, b, (l.length : Int)]) rfl (by omega) (body_bytes h hb)
  · rw [bne_yes h, cond_true, if_neg h]
end Go.Proofs.Ytpoblfpjjlplbaa.PE
