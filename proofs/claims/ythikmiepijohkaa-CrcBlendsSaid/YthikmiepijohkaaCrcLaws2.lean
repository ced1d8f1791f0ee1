import Derived.Test.YthikmiepijohkaaCrcLaws1
namespace Go.Proofs.Ythikmiepijohkaa.Pure
open Go Go.RowKit Go.Proofs.Ythikmiepijohkaa.PA Go.Proofs.YthikmiepijohkaaW.PrintWords Go.Proofs.YthikmiepijohkaaW.PrintLast Go.Proofs.YthikmiepijohkaaW.PrintMore Go.Proofs.Ythikmiepijohkaa.Crc Go.Proofs.Ythikmiepijohkaa.CrcOf

theorem blend_at {a b : List Int} {i : Nat} (ha : i < a.length) (hb : i < b.length) : (blend a b).take (i + 1) = (blend a b).take i ++ [((a[i].toNat ^^^ b[i].toNat : Nat) : Int)] := by
  induction a generalizing b i with
  | nil => simp at ha
  | cons x a ih => cases b with
    | nil => simp at hb
    | cons y b => cases i with
      | zero => simp [blend]
      | succ i => simp only [blend, List.take_succ_cons, List.cons_append, List.getElem_cons_succ]; rw [ih (by simpa using ha) (by simpa using hb)]
theorem blend_bytes {a b : List Int} (ha : Bytes a) (hb : Bytes b) : Bytes (blend a b) := by
  induction a generalizing b with
  | nil => simp [blend, Bytes]
  | cons x a ih => cases b with
    | nil => simp [blend, Bytes]
    | cons y b =>
      have hx := ha x (by simp)
      have hy := hb y (by simp)
      intro z hz
      rw [blend, List.mem_cons] at hz
      rcases hz with rfl | hz
      · have := Nat.xor_lt_two_pow (n := 8) (x := x.toNat) (y := y.toNat) (by omega) (by omega); omega
      · exact ih (fun w h => ha w (by simp [h])) (fun w h => hb w (by simp [h])) z hz
theorem blends_l0 (d : Nat) : ∀ (k : Nat) (a b c : List Int) (i : Nat), Bytes a → Bytes b → Bytes c → a.length = b.length → b.length = c.length → a.length = i + d → a.length ≤ 5000 →
    funicularlaw01_CrcBlends.l0 (k + d) a b c ((blend (blend a b) c).take i) (i : Int) = funicularlaw01_CrcBlends.l0 k a b c (blend (blend a b) c) (a.length : Int) := by
  induction d with
  | zero =>
    intro k a b c i _ _ _ hl hl2 hn _
    have hbl := blend_length a b hl
    have hb2 := blend_length (blend a b) c (by omega)
    rw [List.take_of_length_le (by omega), show (i : Int) = (a.length : Int) by omega]; rfl
  | succ d ih =>
    intro k a b c i ha hb hc hl hl2 hn hm
    have hbl := blend_length a b hl
    have h1 : i < a.length := by omega
    have h2 : i < b.length := by omega
    have h3 : i < c.length := by omega
    have h4 : i < (blend a b).length := by omega
    have r1 := ha _ (List.getElem_mem h1)
    have r2 := hb _ (List.getElem_mem h2)
    have r3 := hc _ (List.getElem_mem h3)
    have e1 : (blend a b)[i] = ((a[i].toNat ^^^ b[i].toNat : Nat) : Int) := by
      have := blend_at h1 h2
      rw [List.take_succ_eq_append_getElem h4] at this
      exact List.singleton_inj.mp (List.append_cancel_left this)
    have q1 : a[i].toNat ^^^ b[i].toNat < 256 := Nat.xor_lt_two_pow (n := 8) (by omega) (by omega)
    have e2 : Go.bits .xor .u8 (Go.bits .xor .u8 (rd a (i : Int)) (rd b (i : Int))) (rd c (i : Int)) = (((blend a b)[i].toNat ^^^ c[i].toNat : Nat) : Int) := by
      rw [rd_at h1, rd_at h2, rd_at h3, e1, Int.toNat_natCast]
      have f1 : a[i] = ((a[i].toNat : Nat) : Int) := by omega
      have f2 : b[i] = ((b[i].toNat : Nat) : Int) := by omega
      have f3 : c[i] = ((c[i].toNat : Nat) : Int) := by omega
      conv => lhs; rw [f1, f2, f3]
      rw [bx8 (by omega) (by omega), bx8 q1 (by omega)]
    rw [show k + (d + 1) = (k + d) + 1 by omega, funicularlaw01_CrcBlends.l0, if_pos (by omega), if_pos (by omega), if_pos (by omega), if_pos (by omega), if_pos (by simp only [List.length_take]; omega), e2,
      ← blend_at h4 h3, w64 (by omega) (by omega), show ((i : Int) + 1) = ((i + 1 : Nat) : Int) by omega, ih k a b c (i + 1) ha hb hc hl hl2 (by omega) hm]

theorem CrcBlends_pf : funicularlaw01_CrcBlends.Pure := by
  intro a b c _ _ ha _ _ hb _ _ hc
  replace ha := bytes_of ha
  replace hb := bytes_of hb
  replace hc := bytes_of hc
  refine ⟨20 * a.length + 300, ?_⟩
  have hw : ∀ d, d = true → funicularlaw01_CrcBlends.j0 (20 * a.length + 299 + 1) a b c d = some true := by
    intro d hd
    rw [funicularlaw01_CrcBlends.j0, if_pos hd, works' (by omega)]; rfl
  rw [funicularlaw01_CrcBlends.f]
  by_cases h1 : (a.length : Int) = (b.length : Int)
  case neg => rw [if_neg h1]; exact hw _ rfl
  rw [if_pos h1]
  by_cases h2 : (b.length : Int) = (c.length : Int)
  case neg => rw [if_neg h2]; exact hw _ rfl
  rw [if_pos h2]
  by_cases h3 : (a.length : Int) > 5000
  · exact hw _ (by simpa using h3)
  rw [funicularlaw01_CrcBlends.j0, if_neg (by simpa using h3)]
  have hbl := blend_length a b (by omega)
  have hbl2 := blend_length (blend a b) c (by omega)
  have e := blends_l0 a.length (19 * a.length + 298 + 1) a b c 0 ha hb hc (by omega) (by omega) (by omega) (by omega)
  rw [List.take_zero, show 19 * a.length + 298 + 1 + a.length = 20 * a.length + 299 by omega, show ((0 : Nat) : Int) = 0 from rfl] at e
  rw [e, funicularlaw01_CrcBlends.l0, if_neg (by omega), sum' ha (by omega) (by omega)]
  simp only [Option.bind_some]
  rw [sum' hb (by omega) (by omega)]
  simp only [Option.bind_some]
  rw [sum' hc (by omega) (by omega)]
  simp only [Option.bind_some]
  rw [sum' (blend_bytes (blend_bytes ha hb) hc) (by omega) (by omega)]
  simp only [Option.bind_some]
  have ra : run M a < 4294967296 := run_lt (by decide) ha
  have rb : run M b < 4294967296 := run_lt (by decide) hb
  have rc : run M c < 4294967296 := run_lt (by decide) hc
  have x1 : run M (blend (blend a b) c) = run M a ^^^ run M b ^^^ run M c := by
    have e1 := run_blend (M ^^^ M) M (blend a b) c (by omega)
    rw [run_blend M M a b (by omega), Nat.xor_self, Nat.zero_xor] at e1
    exact e1
  rw [bx32 (xor_lt (by decide) ra) (xor_lt (by decide) rb), bx32 (xor_lt (xor_lt (by decide) ra) (xor_lt (by decide) rb)) (xor_lt (by decide) rc), x1]
  have e3 : (M ^^^ run M a) ^^^ (M ^^^ run M b) ^^^ (M ^^^ run M c) = M ^^^ (run M a ^^^ run M b ^^^ run M c) := by
    rw [Nat.xor_assoc M (run M a), xor_lc (run M a), xor_self_l]
    rw [xor_lc (run M a ^^^ run M b) M]
  rw [e3, if_pos rfl, works' (by omega)]; rfl
end Go.Proofs.Ythikmiepijohkaa.Pure
