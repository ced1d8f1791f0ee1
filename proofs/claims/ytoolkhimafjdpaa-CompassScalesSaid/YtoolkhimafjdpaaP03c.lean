/- Keys of texts, and where a name belongs. -/
import Derived.Test.YtoolkhimafjdpaaP03b
namespace Go.Proofs.Ytoolkhimafjdpaa.PE
set_option linter.unusedVariables false
open Go
def kstep (k c : Int) : Int := ((k.toNat ^^^ c.toNat : Nat) : Int) * 16777619 % 4294967296
def keyS (l : List Int) : Int := l.foldl kstep 2166136261
def Byt (c : Int) : Prop := 0 ≤ c ∧ c < 256
def U32 (k : Int) : Prop := 0 ≤ k ∧ k < 4294967296
theorem kstep_u32 (k c : Int) : U32 (kstep k c) := by unfold kstep U32; omega
theorem keyF_u32 : ∀ (l : List Int) (k : Int), U32 k → U32 (l.foldl kstep k)
  | [], _, h => h
  | c :: r, k, _ => keyF_u32 r (kstep k c) (kstep_u32 k c)
theorem xor32 {k c : Int} (hk : U32 k) (hc : Byt c) : ((BitVec.ofInt IntKind.u32.bits k ^^^ BitVec.ofInt IntKind.u32.bits (IntKind.u32.wrap c)).toNat : Int) = ((k.toNat ^^^ c.toNat : Nat) : Int) := by
  obtain ⟨k1, k2⟩ := hk
  obtain ⟨c1, c2⟩ := hc
  rw [BitVec.toNat_xor, BitVec.toNat_ofInt, BitVec.toNat_ofInt, wrap_u32]
  have e1 : ((2 ^ IntKind.u32.bits : Nat) : Int) = 4294967296 := by decide
  rw [e1, show k % 4294967296 = k by omega, show c % 4294967296 % 4294967296 = c by omega]
theorem xor64 {k c : Int} (hk : 0 ≤ k ∧ k < 256) (hc : Byt c) : ((BitVec.ofInt IntKind.u64.bits k ^^^ BitVec.ofInt IntKind.u64.bits (IntKind.u64.wrap c)).toNat : Int) = ((k.toNat ^^^ c.toNat : Nat) : Int) := by
  obtain ⟨k1, k2⟩ := hk
  obtain ⟨c1, c2⟩ := hc
  rw [BitVec.toNat_xor, BitVec.toNat_ofInt, BitVec.toNat_ofInt, wrap_u64']
  have e1 : ((2 ^ IntKind.u64.bits : Nat) : Int) = 18446744073709551616 := by decide
  rw [e1, show k % 18446744073709551616 = k by omega, show c % 18446744073709551616 % 18446744073709551616 = c by omega]
theorem xor_lt32 {k c : Int} (hk : U32 k) (hc : Byt c) : ((k.toNat ^^^ c.toNat : Nat) : Int) < 4294967296 := by
  obtain ⟨k1, k2⟩ := hk
  obtain ⟨c1, c2⟩ := hc
  have : k.toNat ^^^ c.toNat < 2 ^ 32 := Nat.xor_lt_two_pow (by omega) (by omega)
  omega
theorem xor_low {k c : Int} (hk : U32 k) (hc : Byt c) : ((k.toNat ^^^ c.toNat : Nat) : Int) = k - k % 256 + (((k % 256).toNat ^^^ c.toNat : Nat) : Int) := by
  obtain ⟨k1, k2⟩ := hk
  obtain ⟨c1, c2⟩ := hc
  have e : (k % 256).toNat = k.toNat % 2 ^ 8 := by omega
  rw [e]
  have h1 : (k.toNat ^^^ c.toNat) / 2 ^ 8 = k.toNat / 2 ^ 8 ^^^ c.toNat / 2 ^ 8 := Nat.xor_div_two_pow
  have h2 : (k.toNat ^^^ c.toNat) % 2 ^ 8 = k.toNat % 2 ^ 8 ^^^ c.toNat % 2 ^ 8 := Nat.xor_mod_two_pow
  have h3 : c.toNat / 2 ^ 8 = 0 := by omega
  have h4 : c.toNat % 2 ^ 8 = c.toNat := by omega
  rw [h3, Nat.xor_zero] at h1
  rw [h4] at h2
  generalize k.toNat ^^^ c.toNat = x at *
  generalize k.toNat % 2 ^ 8 ^^^ c.toNat = y at *
  omega
theorem low_lt {k c : Int} (hk : 0 ≤ k ∧ k < 256) (hc : Byt c) : ((k.toNat ^^^ c.toNat : Nat) : Int) < 256 := by
  obtain ⟨k1, k2⟩ := hk
  obtain ⟨c1, c2⟩ := hc
  have : k.toNat ^^^ c.toNat < 2 ^ 8 := Nat.xor_lt_two_pow (by omega) (by omega)
  omega
theorem Key_loop (l : List Int) (hl : l.length ≤ 140737488351232) (hb : ∀ c ∈ l, Byt c) : ∀ (r : List Int) (i : Nat) (k : Int), l.drop i = r → U32 k → compass_Key_l0 k l.length i l = some (r.foldl kstep k) := by
  intro r
  induction r with
  | nil =>
    intro i k h _
    have hi := at_nil h
    rw [compass_Key_l0_eq, decide_eq_false (by omega)]; rfl
  | cons c r ih =>
    intro i k h hk
    obtain ⟨h1, h2, h3⟩ := at_drop h
    have hc : Byt c := hb c (List.mem_of_getElem? h2)
    rw [compass_Key_l0_eq, ilen_eq, decide_eq_true (by omega), decide_eq_true (by omega)]
    simp only [cond_true, Int.toNat_natCast, h2, Option.bind_some]
    have hx := xor_lt32 hk hc
    rw [xor32 hk hc, wrap_u32, wrap_u32, wrap_succ (by omega)]
    rw [show ((k.toNat ^^^ c.toNat : Nat) : Int) % 4294967296 = ((k.toNat ^^^ c.toNat : Nat) : Int) by omega]
    exact ih (i + 1) (kstep k c) h3 (kstep_u32 k c)
theorem bytes_byt (s : ByteArray) : ∀ c ∈ bytesList s, Byt c := by
  intro c hc
  obtain ⟨b, _, rfl⟩ := List.mem_map.1 hc
  have := b.toNat_lt
  exact ⟨by omega, by omega⟩
theorem Key_says {s : ByteArray} (hs : s.size ≤ 140737488351232) : compass_Key s = some (keyS (bytesList s)) := by
  rw [compass_Key_eq, ilen_eq]
  exact Key_loop (bytesList s) (by rw [bytesList_length]; exact hs) (bytes_byt s) _ 0 _ rfl ⟨by decide, by decide⟩
theorem refKey_loop (s : ByteArray) (hs : s.size ≤ 140737488351232) : ∀ (r : List Int) (i : Nat) (k : Int), (bytesList s).drop i = r → U32 k → ref03_Key_l0 s k i = some (r.foldl kstep k) := by
  intro r
  induction r with
  | nil =>
    intro i k h hk
    have hi := at_nil h
    rw [bytesList_length] at hi
    obtain ⟨k1, k2⟩ := hk
    rw [ref03_Key_l0_eq, isize_eq, decide_eq_false (by omega)]
    simp only [cond_false, List.foldl_nil]
    rw [wrap_u32, show k % 4294967296 = k by omega]
  | cons c r ih =>
    intro i k h hk
    obtain ⟨h1, h2, h3⟩ := at_drop h
    rw [bytesList_length] at h1
    have hc : Byt c := bytes_byt s c (List.mem_of_getElem? h2)
    obtain ⟨b, hb, hcb⟩ := bytesList_get h2
    rw [Array.getElem?_toList] at hb
    have hk' := hk
    obtain ⟨k1, k2⟩ := hk'
    rw [ref03_Key_l0_eq, isize_eq, decide_eq_true (by omega), decide_eq_true (by omega)]
    simp only [cond_true, Int.toNat_natCast, hb, Option.bind_some]
    rw [← hcb, tmod_pos k1, xor64 ⟨by omega, by omega⟩ hc]
    have hlow := low_lt (k := k % 256) ⟨by omega, by omega⟩ hc
    have hx := xor_low hk hc
    have hx2 := xor_lt32 hk hc
    have hnn : 0 ≤ (((k % 256).toNat ^^^ c.toNat : Nat) : Int) := by omega
    rw [wrap_u64 (x := (((k % 256).toNat ^^^ c.toNat : Nat) : Int)) (by omega) (by omega), wrap_u64 (x := k - k % 256) (by omega) (by omega), ← hx, wrap_u64 (x := ((k.toNat ^^^ c.toNat : Nat) : Int)) (by omega) (by omega),
      wrap_u64 (x := ((k.toNat ^^^ c.toNat : Nat) : Int) * 16777619) (by omega) (by omega), tmod_pos (by omega), wrap_succ (by omega)]
    exact ih (i + 1) (kstep k c) h3 (kstep_u32 k c)
theorem refKey_says {s : ByteArray} (hs : s.size ≤ 140737488351232) : ref03_Key s = some (keyS (bytesList s)) := by
  rw [ref03_Key_eq]
  exact refKey_loop s hs _ 0 _ rfl ⟨by decide, by decide⟩
theorem keyS_u32 (l : List Int) : U32 (keyS l) := keyF_u32 l _ ⟨by decide, by decide⟩
/-- A key's two parts. -/
def half (k : Int) : Int := if k % 65536 ≥ 32768 then k % 65536 - 65536 else k % 65536
def point (k : Int) : Int × Int := (half k, half (k / 65536))
theorem half_sm (k : Int) : Sm (half k) := by unfold half Sm; split <;> omega
theorem Point_says (k : Int) : compass_Point k = some (point k) := by
  have e : k.fdiv (2 ^ min (Int.toNat 16) IntKind.u32.bits) = k / 65536 := by
    have : (2 : Int) ^ min (Int.toNat 16) IntKind.u32.bits = 65536 := by decide
    rw [this]
    exact Int.fdiv_eq_ediv_of_nonneg k (by decide)
  have h1 : IntKind.i16.wrap k = half k := wrap_i16
  have h2 : IntKind.i16.wrap (k / 65536) = half (k / 65536) := wrap_i16
  obtain ⟨a1, a2⟩ := half_sm k
  obtain ⟨b1, b2⟩ := half_sm (k / 65536)
  rw [compass_Point_eq, e, h1, h2, whole_of (n := half k) (by omega) (by omega), whole_of (n := half (k / 65536)) (by omega) (by omega)]
  rfl
theorem refParts_says {k : Int} (hk : U32 k) : ref03_Parts k = some (point k) := by
  obtain ⟨k1, k2⟩ := hk
  rw [ref03_Parts_eq, tmod_pos k1, Int.tdiv_eq_ediv_of_nonneg k1, wrap_u32]
  rw [wrap_i64 (x := k % 65536) (by omega) (by omega), wrap_i64 (x := k % 65536 - 65536) (by omega) (by omega), wrap_i64 (x := k / 65536 % 4294967296) (by omega) (by omega), wrap_i64 (x := k / 65536 % 4294967296 - 65536) (by omega) (by omega)]
  unfold point half
  have e : k / 65536 % 4294967296 = k / 65536 % 65536 := by omega
  rw [e]
  simp -implicitDefEqProofs only [Bool.cond_decide]
  split <;> split <;> rfl
def route (s : ByteArray) (n : Int) : Int × Int := prtE (point (keyS (bytesList s))).1 (point (keyS (bytesList s))).2 n
theorem Route_says {s : ByteArray} {n : Int} (hs : s.size ≤ 140737488351232) : compass_Route s n = some (route s n) := by
  rw [compass_Route_eq, Key_says hs]
  simp only [Option.bind_some, Point_says]
  rw [Part_says (half_sm _) (half_sm _)]
  rfl
theorem refRoute_says {s : ByteArray} {n : Int} (hs : s.size ≤ 140737488351232) : ref03_Route s n = some (route s n) := by
  rw [ref03_Route_eq, refKey_says hs]
  simp only [Option.bind_some]
  rw [refParts_says (keyS_u32 _)]
  simp only [Option.bind_some]
  rw [show (point (keyS (bytesList s))).1 = half (keyS (bytesList s)) from rfl, show (point (keyS (bytesList s))).2 = half (keyS (bytesList s) / 65536) from rfl, refPart_says (half_sm _) (half_sm _)]
  rfl
theorem works03 : law03_works = some true := by
  have s1 : Sm 1 := ⟨by decide, by decide⟩
  have s0 : Sm 0 := ⟨by decide, by decide⟩
  have s2 : Sm 2 := ⟨by decide, by decide⟩
  have s3 : Sm 3 := ⟨by decide, by decide⟩
  have s4 : Sm 4 := ⟨by decide, by decide⟩
  have sm1 : Sm (-1) := ⟨by decide, by decide⟩
  have hk : (⟨#[97]⟩ : ByteArray).size ≤ 140737488351232 := by decide
  have e1 : prtE 1 1 8 = (1, 0) := by decide +kernel
  have e2 : prtE 1 0 0 = (0, 2) := by decide +kernel
  have e3 : route (⟨#[97]⟩ : ByteArray) 64 = (57, 0) := by decide +kernel
  have e4 : keyS (bytesList (⟨#[97]⟩ : ByteArray)) = 3826002220 := by decide +kernel
  have e5 : qt 2 1 1 = (-1, 2) := by decide +kernel
  have e6 : quad (-1) 0 = 2 := by decide +kernel
  rw [law03_works_eq, Part_says (z := (1, 1)) s1 s1]
  simp only [Option.bind_some]
  rw [Part_says (z := (1, 0)) s1 s0]
  simp only [Option.bind_some]
  rw [Route_says hk]
  simp only [Option.bind_some]
  rw [Turn_says (z := (2, 1)) s2 s1]
  simp only [Option.bind_some]
  rw [Quarter_says (z := (-1, 0)) sm1 s0]
  simp only [Option.bind_some]
  rw [Norm_says (z := (3, 4)) s3 s4, Key_says hk]
  simp only [Option.bind_some]
  rw [e1, e2, e3, e4, e5, e6]
  rfl
end Go.Proofs.Ytoolkhimafjdpaa.PE
