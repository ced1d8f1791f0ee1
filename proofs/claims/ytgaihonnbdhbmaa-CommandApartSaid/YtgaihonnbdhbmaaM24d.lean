/- What a reader of commands reads next, and keeps. What a reader of commands reads of what was written. Read, by the kind of a command. Printed by mk24z.py. Readers that are asked, or not. What was put is read. Printed by mk24B.py. A command as bytes: what the chapter says. Printed by mk24C.py. works: that commands, notes and replies are written and read. The laws of commands. Printed by mk24E.py. What a row gives: texts, numbers, bytes of a size that may be. Bytes of a command with more behind, or cut short, are none. Printed by mk24G.py. -/
import Derived.Test.YtgaihonnbdhbmaaERow
import Derived.Test.YtgaihonnbdhbmaaM24c
namespace Go.Proofs.Ytgaihonnbdhbmaa.PE
set_option linter.unusedVariables false
open Go Go.RowKit Go.Proofs.Ytgaihonnbdhbmaa.Pack
theorem number_eq {b : List Int} (hb : Bytes b) (hl : b.length ≤ 140737488351232) : command_number b = some (IntKind.i64.wrap ((rdu 0 b).1 : Int), (rdu 0 b).2.1, if (rdu 0 b).2.2 = 0 then (if (rdu 0 b).1 > 1099511627776 then 6 else 0) else (rdu 0 b).2.2) := by
  rw [command_number_eq, readUint_spec hb (by omega), Option.bind_some]
  show (bif (rdu 0 b).2.2 == 0 then bif decide (((rdu 0 b).1 : Int) > 1099511627776) then some (IntKind.i64.wrap ((rdu 0 b).1 : Int), (rdu 0 b).2.1, (6 : Int)) else some (IntKind.i64.wrap ((rdu 0 b).1 : Int), (rdu 0 b).2.1, (rdu 0 b).2.2) else some (IntKind.i64.wrap ((rdu 0 b).1 : Int), (rdu 0 b).2.1, (rdu 0 b).2.2)) = _
  by_cases hc : (rdu 0 b).2.2 = 0
  · rw [hc, beq_yes rfl, cond_true, Bool.cond_decide, if_pos rfl]
    by_cases hv : (rdu 0 b).1 > 1099511627776
    · rw [if_pos (by omega), if_pos hv]
    · rw [if_neg (by omega), if_neg hv]
  · rw [beq_no hc, cond_false, if_neg hc]
theorem crn_tot {b : List Int} {e : Int} (hb : Bytes b) (hl : b.length ≤ 140737488351232) :
    ∃ r e' v, cr_number b e = some (r, e', v) ∧ Bytes r ∧ r.length ≤ b.length ∧ (e' = 0 → e = 0 ∧ 0 ≤ v ∧ v ≤ 1099511627776 ∧ b = enc v.toNat ++ r) := by
  rw [cr_number_eq]
  by_cases he : e = 0
  · subst he
    rw [bne_no rfl, cond_false, number_eq hb hl, Option.bind_some]
    dsimp only
    by_cases hc : (rdu 0 b).2.2 = 0
    · rw [if_pos hc]
      by_cases hv : (rdu 0 b).1 > 1099511627776
      · rw [if_pos hv]
        exact ⟨b, 6, 0, rfl, hb, by omega, fun h => by cases h⟩
      · rw [if_neg hv, bne_no rfl, cond_false, wrap_i64 (by omega) (by omega)]
        refine ⟨_, _, _, rfl, rdu_rest hb 0, rdu_len 0 b, fun _ => ⟨rfl, by omega, by omega, ?_⟩⟩
        rw [Int.toNat_natCast, rdu_enc_once hb hc]
    · rw [if_neg hc, bne_yes hc, cond_true]
      exact ⟨b, _, 0, rfl, hb, by omega, fun h => absurd h hc⟩
  · rw [bne_yes he, cond_true]
    exact ⟨b, e, 0, rfl, hb, by omega, fun h => absurd h he⟩
theorem crw_tot {b : List Int} {e : Int} (hb : Bytes b) (hl : b.length ≤ 140737488351232) :
    ∃ r e' v, cr_word b e = some (r, e', v) ∧ Bytes r ∧ r.length ≤ b.length ∧ v.size ≤ b.length ∧ (e' = 0 → e = 0 ∧ b = encB (bytesList v) ++ r) := by
  rw [cr_word_eq]
  by_cases he : e = 0
  · subst he
    obtain ⟨t, r, c, h1, h2, h3, h4, h5, h6⟩ := readB_tot hb hl
    rw [bne_no rfl, cond_false, command_word_eq, h1, Option.bind_some, Option.bind_some]
    dsimp only
    by_cases hc : c = 0
    · rw [bne_no hc, cond_false]
      exact ⟨_, _, _, rfl, h2, h3, by rw [strOf_size]; exact h5, fun _ => ⟨rfl, by rw [list_strOf h4]; exact h6 hc⟩⟩
    · rw [bne_yes hc, cond_true]
      exact ⟨b, c, _, rfl, hb, by omega, Nat.zero_le _, fun h => absurd h hc⟩
  · rw [bne_yes he, cond_true]
    exact ⟨b, e, _, rfl, hb, by omega, Nat.zero_le _, fun h => absurd h he⟩
theorem cri_tot {b : List Int} {e : Int} (hb : Bytes b) (hl : b.length ≤ 140737488351232) :
    ∃ r e' v, cr_int b e = some (r, e', v) ∧ Bytes r ∧ r.length ≤ b.length ∧ (-9223372036854775808 ≤ v ∧ v ≤ 9223372036854775807) ∧ (e' = 0 → e = 0 ∧ b = enc (zig v) ++ r) := by
  rw [cr_int_eq]
  by_cases he : e = 0
  · subst he
    obtain ⟨v, r, c, h1, h2, h3, h4, h5⟩ := readI_tot hb hl
    rw [bne_no rfl, cond_false, h1, Option.bind_some]
    dsimp only
    by_cases hc : c = 0
    · rw [bne_no hc, cond_false]
      exact ⟨_, _, _, rfl, h2, h3, h4, fun _ => ⟨rfl, h5 hc⟩⟩
    · rw [bne_yes hc, cond_true]
      exact ⟨b, c, 0, rfl, hb, by omega, by omega, fun h => absurd h hc⟩
  · rw [bne_yes he, cond_true]
    exact ⟨b, e, 0, rfl, hb, by omega, by omega, fun h => absurd h he⟩
theorem crv_tot {b : List Int} {e : Int} (hb : Bytes b) (hl : b.length ≤ 140737488351232) :
    ∃ r e' ns vs, cr_vars b e = some (r, e', ns, vs) ∧ Bytes r ∧ r.length ≤ b.length ∧ Txt ns ∧ I64 vs ∧ (e' = 0 → e = 0 ∧ chkV ns vs = 0 ∧ b = encV ns vs ++ r) := by
  rw [cr_vars_eq]
  by_cases he : e = 0
  · subst he
    obtain ⟨ns, vs, r, c, h1, h2, h3, h4, h5, h6⟩ := vread_tot hb hl
    rw [bne_no rfl, cond_false, h1, Option.bind_some]
    dsimp only
    by_cases hc : c = 0
    · rw [bne_no hc, cond_false]
      exact ⟨_, _, _, _, rfl, h2, h3, h4, h5, fun _ => ⟨rfl, h6 hc⟩⟩
    · rw [bne_yes hc, cond_true]
      exact ⟨b, c, [], [], rfl, hb, by omega, fun x hx => (by cases hx), fun x hx => (by cases hx), fun h => absurd h hc⟩
  · rw [bne_yes he, cond_true]
    exact ⟨b, e, [], [], rfl, hb, by omega, fun x hx => (by cases hx), fun x hx => (by cases hx), fun h => absurd h he⟩
end Go.Proofs.Ytgaihonnbdhbmaa.PE
namespace Go.Proofs.Ytgaihonnbdhbmaa.PE
open Go Go.RowKit Go.Proofs.Ytgaihonnbdhbmaa.Pack
theorem crb_tot {b : List Int} {e : Int} (hb : Bytes b) (hl : b.length ≤ 140737488351232) :
    ∃ r e' t, cr_bytes b e = some (r, e', t) ∧ Bytes r ∧ r.length ≤ b.length ∧ Bytes t ∧ t.length ≤ b.length ∧ (e' = 0 → e = 0 ∧ b = encB t ++ r) := by
  rw [cr_bytes_eq]
  by_cases he : e = 0
  · subst he
    obtain ⟨t, r, c, h1, h2, h3, h4, h5, h6⟩ := readB_tot hb hl
    rw [bne_no rfl, cond_false, h1, Option.bind_some]
    dsimp only
    by_cases hc : c = 0
    · rw [bne_no hc, cond_false]
      exact ⟨_, _, _, rfl, h2, h3, h4, h5, fun _ => ⟨rfl, h6 hc⟩⟩
    · rw [bne_yes hc, cond_true]
      exact ⟨b, c, [], rfl, hb, by omega, Bytes.nil, Nat.zero_le _, fun h => absurd h hc⟩
  · rw [bne_yes he, cond_true]
    exact ⟨b, e, [], rfl, hb, by omega, Bytes.nil, Nat.zero_le _, fun h => absurd h he⟩
theorem crn_back {r : List Int} {v : Int} (hr : Bytes r) (hl : r.length ≤ 140737488300000) (hv : 0 ≤ v ∧ v ≤ 1099511627776) : cr_number (enc v.toNat ++ r) 0 = some (r, 0, v) := by
  have e1 := enc_length v.toNat
  rw [cr_number_eq, bne_no rfl, cond_false, number_eq ((enc_bytes (by omega)).app hr) (by rw [List.length_append]; omega), Option.bind_some, rdu_enc (by omega)]
  dsimp only
  rw [if_pos rfl, if_neg (by omega), bne_no rfl, cond_false, wrap_i64 (by omega) (by omega), show ((v.toNat : Nat) : Int) = v by omega]
theorem crw_back {r : List Int} {s : ByteArray} (hr : Bytes r) (hl : r.length ≤ 140737488200000) (hs : nameS s = true) : cr_word (encB (bytesList s) ++ r) 0 = some (r, 0, s) := by
  have := nameS_len hs
  rw [cr_word_eq, bne_no rfl, cond_false, command_word_eq, readB_back hr hl (bytesList_bytes s) (by omega), Option.bind_some, Option.bind_some]
  dsimp only
  rw [bne_no rfl, cond_false, strOf_list]
theorem cri_back {r : List Int} {v : Int} (hr : Bytes r) (hl : r.length ≤ 140737488351000) (hv : -9223372036854775808 ≤ v ∧ v ≤ 9223372036854775807) : cr_int (enc (zig v) ++ r) 0 = some (r, 0, v) := by
  rw [cr_int_eq, bne_no rfl, cond_false, readI_back hr hl hv, Option.bind_some]
  dsimp only
  rw [bne_no rfl, cond_false]
theorem crv_back {r : List Int} {ns : List ByteArray} {vs : List Int} (hk : chkV ns vs = 0) (hv : I64 vs) (hr : Bytes r) (hl : r.length ≤ 140737300000000) : cr_vars (encV ns vs ++ r) 0 = some (r, 0, ns, vs) := by
  rw [cr_vars_eq, bne_no rfl, cond_false, vread_back hk hv hr hl, Option.bind_some]
  dsimp only
  rw [bne_no rfl, cond_false]
theorem crb_back {r t : List Int} (hr : Bytes r) (hl : r.length ≤ 140737488200000) (ht : Bytes t) (htl : t.length ≤ 100000) : cr_bytes (encB t ++ r) 0 = some (r, 0, t) := by
  rw [cr_bytes_eq, bne_no rfl, cond_false, readB_back hr hl ht htl, Option.bind_some]
  dsimp only
  rw [bne_no rfl, cond_false]
theorem cro_back {r : List Int} {k : Int} (hl : r.length ≤ 140737488200000) (hk : 0 ≤ k ∧ k ≤ 255) : cr_one (k :: r) 0 = some (r, 0, k) := by
  rw [cr_one_eq, bne_no rfl, cond_false, command_one_eq, ilen_eq, List.length_cons, beq_no (by omega), cond_false, show (k :: r)[Int.toNat 0]? = some k from rfl, Option.bind_some, Bool.cond_decide, if_pos (by omega), Bool.cond_decide, if_pos (by omega), Int.toNat_natCast, ← List.length_cons (a := k), List.take_length]
  show ((some (IntKind.i64.wrap k, r, (0 : Int))).bind _) = _
  rw [Option.bind_some]
  dsimp only
  rw [bne_no rfl, cond_false, wrap_i64 (by omega) (by omega)]
end Go.Proofs.Ytgaihonnbdhbmaa.PE
namespace Go.Proofs.Ytgaihonnbdhbmaa.PE
open Go Go.RowKit Go.Proofs.Ytgaihonnbdhbmaa.Pack
abbrev C24 : Type := Int × Int × Int × ByteArray × ByteArray × Int × List ByteArray × List Int × Int × Int × Int × Int × List Int × Int
def Z24 (e : Int) : C24 := (0, 0, 0, ⟨#[]⟩, ⟨#[]⟩, 0, [], [], 0, 0, 0, 0, [], e)
noncomputable def rdN (f : Bool) (b : List Int) (e : Int) : Option (List Int × Int × Int) := bif f then cr_number b e else some (b, e, 0)
noncomputable def rdW (f : Bool) (b : List Int) (e : Int) : Option (List Int × Int × ByteArray) := bif f then cr_word b e else some (b, e, ⟨#[]⟩)
noncomputable def rdI (f : Bool) (b : List Int) (e : Int) : Option (List Int × Int × Int) := bif f then cr_int b e else some (b, e, 0)
noncomputable def rdV (f : Bool) (b : List Int) (e : Int) : Option (List Int × Int × List ByteArray × List Int) := bif f then cr_vars b e else some (b, e, [], [])
noncomputable def tail24 (r : List Int) (e x0 x1 x2 : Int) (x3 x4 : ByteArray) (x5 : Int) (x6 : List ByteArray) (x7 : List Int) (x8 x9 x10 x11 : Int) (x12 : List Int) : Option C24 :=
  bif e == 0 then bif decide (ilen r > 0) then some (Z24 3) else bif e == 0 then (cmd_Check x0 x1 x2 x3 x4 x5 x6 x7 x8 x9 x10 x11 x12).bind fun c => bif c != 0 then some (Z24 c) else some (x0, x1, x2, x3, x4, x5, x6, x7, x8, x9, x10, x11, x12, 0) else bif e != 0 then some (Z24 e) else some (x0, x1, x2, x3, x4, x5, x6, x7, x8, x9, x10, x11, x12, 0)
  else bif e == 0 then (cmd_Check x0 x1 x2 x3 x4 x5 x6 x7 x8 x9 x10 x11 x12).bind fun c => bif c != 0 then some (Z24 c) else some (x0, x1, x2, x3, x4, x5, x6, x7, x8, x9, x10, x11, x12, 0) else bif e != 0 then some (Z24 e) else some (x0, x1, x2, x3, x4, x5, x6, x7, x8, x9, x10, x11, x12, 0)

noncomputable def readGen (a n w k v i o c t d : Bool) (b : List Int) (e x0 : Int) : Option C24 :=
  (rdN a b e).bind fun v0 => (rdN a v0.1 v0.2.1).bind fun v1 => (rdN i v1.1 v1.2.1).bind fun v2 => (rdN o v2.1 v2.2.1).bind fun v3 => (rdN c v3.1 v3.2.1).bind fun v4 => (rdN t v4.1 v4.2.1).bind fun v5 => (rdW n v5.1 v5.2.1).bind fun v6 => (rdW w v6.1 v6.2.1).bind fun v7 => (rdI k v7.1 v7.2.1).bind fun v8 => (rdV v v8.1 v8.2.1).bind fun v9 => 
  bif d then (cr_bytes v9.1 v9.2.1).bind fun q => (cmd_CloneB q.2.2).bind fun z => tail24 q.1 q.2.1 x0 v0.2.2 v1.2.2 v6.2.2 v7.2.2 v8.2.2 v9.2.2.1 v9.2.2.2 v2.2.2 v3.2.2 v4.2.2 v5.2.2 z else tail24 v9.1 v9.2.1 x0 v0.2.2 v1.2.2 v6.2.2 v7.2.2 v8.2.2 v9.2.2.1 v9.2.2.2 v2.2.2 v3.2.2 v4.2.2 v5.2.2 []

theorem cmd_Read_1 {x r : List Int} {e : Int} (h : cr_one x 0 = some (r, e, 1)) : cmd_Read x = bif e == 0 then readGen false false false false false false false false true false r e 1 else readGen false false false false false false false false true false r e 1 :=
  (cmd_Read_eq x).trans ((congrArg (fun o => Option.bind o _) h).trans (by kernel_rfl))

theorem cmd_Read_2 {x r : List Int} {e : Int} (h : cr_one x 0 = some (r, e, 2)) : cmd_Read x = bif e == 0 then readGen true false false false false false false false false true r e 2 else readGen true false false false false false false false false true r e 2 :=
  (cmd_Read_eq x).trans ((congrArg (fun o => Option.bind o _) h).trans (by kernel_rfl))

theorem cmd_Read_3 {x r : List Int} {e : Int} (h : cr_one x 0 = some (r, e, 3)) : cmd_Read x = bif e == 0 then readGen true true false false true false false false false false r e 3 else readGen true true false false true false false false false false r e 3 :=
  (cmd_Read_eq x).trans ((congrArg (fun o => Option.bind o _) h).trans (by kernel_rfl))

theorem cmd_Read_4 {x r : List Int} {e : Int} (h : cr_one x 0 = some (r, e, 4)) : cmd_Read x = bif e == 0 then readGen true true false true true false false true false false r e 4 else readGen true true false true true false false true false false r e 4 :=
  (cmd_Read_eq x).trans ((congrArg (fun o => Option.bind o _) h).trans (by kernel_rfl))

theorem cmd_Read_5 {x r : List Int} {e : Int} (h : cr_one x 0 = some (r, e, 5)) : cmd_Read x = bif e == 0 then readGen true true true false false false false true true false r e 5 else readGen true true true false false false false true true false r e 5 :=
  (cmd_Read_eq x).trans ((congrArg (fun o => Option.bind o _) h).trans (by kernel_rfl))

theorem cmd_Read_6 {x r : List Int} {e : Int} (h : cr_one x 0 = some (r, e, 6)) : cmd_Read x = bif e == 0 then readGen true false true false true true false false false false r e 6 else readGen true false true false true true false false false false r e 6 :=
  (cmd_Read_eq x).trans ((congrArg (fun o => Option.bind o _) h).trans (by kernel_rfl))

theorem cmd_Read_7 {x r : List Int} {e : Int} (h : cr_one x 0 = some (r, e, 7)) : cmd_Read x = bif e == 0 then readGen true false true false false true false false false false r e 7 else readGen true false true false false true false false false false r e 7 :=
  (cmd_Read_eq x).trans ((congrArg (fun o => Option.bind o _) h).trans (by kernel_rfl))

theorem cmd_Read_8 {x r : List Int} {e : Int} (h : cr_one x 0 = some (r, e, 8)) : cmd_Read x = bif e == 0 then readGen true false false false true true true false false false r e 8 else readGen true false false false true true true false false false r e 8 :=
  (cmd_Read_eq x).trans ((congrArg (fun o => Option.bind o _) h).trans (by kernel_rfl))

theorem cmd_Read_9 {x r : List Int} {e : Int} (h : cr_one x 0 = some (r, e, 9)) : cmd_Read x = bif e == 0 then readGen true false false false false true false true false false r e 9 else readGen true false false false false true false true false false r e 9 :=
  (cmd_Read_eq x).trans ((congrArg (fun o => Option.bind o _) h).trans (by kernel_rfl))

theorem cmd_Read_10 {x r : List Int} {e : Int} (h : cr_one x 0 = some (r, e, 10)) : cmd_Read x = bif e == 0 then readGen true false false false false true false false false false r e 10 else readGen true false false false false true false false false false r e 10 :=
  (cmd_Read_eq x).trans ((congrArg (fun o => Option.bind o _) h).trans (by kernel_rfl))

theorem cmd_Read_11 {x r : List Int} {e : Int} (h : cr_one x 0 = some (r, e, 11)) : cmd_Read x = bif e == 0 then readGen false false false false false true false true false true r e 11 else readGen false false false false false true false true false true r e 11 :=
  (cmd_Read_eq x).trans ((congrArg (fun o => Option.bind o _) h).trans (by kernel_rfl))

theorem cmd_Read_12 {x r : List Int} {e : Int} (h : cr_one x 0 = some (r, e, 12)) : cmd_Read x = bif e == 0 then readGen false false false false false true false true false false r e 12 else readGen false false false false false true false true false false r e 12 :=
  (cmd_Read_eq x).trans ((congrArg (fun o => Option.bind o _) h).trans (by kernel_rfl))

end Go.Proofs.Ytgaihonnbdhbmaa.PE
namespace Go.Proofs.Ytgaihonnbdhbmaa.PE
open Go Go.RowKit Go.Proofs.Ytgaihonnbdhbmaa.Pack
theorem rdN_back {f : Bool} {x lo : Int} {r : List Int} (h : fromS x f lo 1099511627776 = true) (hlo : 0 ≤ lo) (hr : Bytes r) (hl : r.length ≤ 140737000000000) : rdN f (eU f x ++ r) 0 = some (r, 0, x) := by
  cases f with
  | true => exact crn_back hr (by omega) (by have := (fromS_yes h).1 rfl; omega)
  | false => rw [(fromS_yes h).2 rfl]; rfl
theorem rdW_back {f : Bool} {s : ByteArray} {r : List Int} (h : textS s f = true) (hr : Bytes r) (hl : r.length ≤ 140737000000000) : rdW f (eB f (bytesList s) ++ r) 0 = some (r, 0, s) := by
  cases f with
  | true => exact crw_back hr (by omega) ((textS_yes h).1 rfl)
  | false => rw [(textS_yes h).2 rfl]; rfl
theorem rdI_back {f : Bool} {x : Int} {r : List Int} (h : f = false → x = 0) (hx : -9223372036854775808 ≤ x ∧ x ≤ 9223372036854775807) (hr : Bytes r) (hl : r.length ≤ 140737000000000) : rdI f (eI f x ++ r) 0 = some (r, 0, x) := by
  cases f with
  | true => exact cri_back hr (by omega) hx
  | false => rw [h rfl]; rfl
theorem rdV_back {f : Bool} {ns : List ByteArray} {vs : List Int} {r : List Int} (h : varsS ns vs f = 0) (hv : I64 vs) (hr : Bytes r) (hl : r.length ≤ 140737000000000) : rdV f (eV f ns vs ++ r) 0 = some (r, 0, ns, vs) := by
  cases f with
  | true => exact crv_back ((varsS_yes h).1 rfl) hv hr (by omega)
  | false => obtain ⟨h1, h2⟩ := (varsS_yes h).2 rfl; rw [h1, h2]; rfl
theorem eU_bytes {f : Bool} {x lo : Int} (h : fromS x f lo 1099511627776 = true) (hlo : 0 ≤ lo) : Bytes (eU f x) := by
  cases f with
  | true => exact enc_bytes (by have := (fromS_yes h).1 rfl; omega)
  | false => exact Bytes.nil
theorem eW_bytes {f : Bool} {s : ByteArray} (h : textS s f = true) : Bytes (eB f (bytesList s)) := by
  have := name_small h
  cases f with
  | true => exact (enc_bytes (n := (bytesList s).length) (by omega)).app (bytesList_bytes s)
  | false => exact Bytes.nil
theorem eB_bytes {f : Bool} {t : List Int} (h : Bytes t) (hl : t.length ≤ 100000) : Bytes (eB f t) := by
  cases f with
  | true => exact (enc_bytes (n := t.length) (by omega)).app h
  | false => exact Bytes.nil
theorem eI_bytes {f : Bool} {x : Int} (hx : -9223372036854775808 ≤ x ∧ x ≤ 9223372036854775807) : Bytes (eI f x) := by
  cases f with
  | true => exact enc_bytes (zig_lt hx.1 hx.2)
  | false => exact Bytes.nil
theorem eV_bytes {f : Bool} {ns : List ByteArray} {vs : List Int} (h : varsS ns vs f = 0) (hv : I64 vs) : Bytes (eV f ns vs) := by
  cases f with
  | true =>
    obtain ⟨g1, g2, g3⟩ := chkV_ok ((varsS_yes h).1 rfl)
    exact (enc_bytes (n := ns.length) (by omega)).app (encPairs_bytes (goodV_name g3) hv)
  | false => exact Bytes.nil
end Go.Proofs.Ytgaihonnbdhbmaa.PE
namespace Go.Proofs.Ytgaihonnbdhbmaa.PE
open Go Go.RowKit Go.Proofs.Ytgaihonnbdhbmaa.Pack
theorem cloneB24 {t : List Int} (h : t.length ≤ 140737488351232) : cmd_CloneB t = some t := by
  rw [cmd_CloneB_eq, Bool.cond_decide, if_pos (show _ ≤ room by simp only [ilen_eq, room_eq]; omega)]; rfl

theorem readGen_back {a n w k v i o c t d : Bool} {x1 x2 : Int} {x3 x4 : ByteArray} {x5 : Int} {x6 : List ByteArray} {x7 : List Int} {x8 x9 x10 x11 : Int} {x12 : List Int} (ok : Ok24 a n w k v i o c t d x1 x2 x3 x4 x5 x6 x7 x8 x9 x10 x11 x12) (h5 : -9223372036854775808 ≤ x5 ∧ x5 ≤ 9223372036854775807) (h7 : I64 x7) (h12 : Bytes x12) (x0 : Int) :
    readGen a n w k v i o c t d (rest24 a n w k v i o c t d x1 x2 x3 x4 x5 x6 x7 x8 x9 x10 x11 x12) 0 x0 = tail24 [] 0 x0 x1 x2 x3 x4 x5 x6 x7 x8 x9 x10 x11 x12 := by
  have n3 := name_small ok.c3
  have n4 := name_small ok.c4
  have g1 := eU_len i x8
  have g2 := eU_len o x9
  have g3 := eU_len c x10
  have g4 := eU_len t x11
  have g5 := eB_len n (bytesList x3)
  have g6 := eB_len w (bytesList x4)
  have g7 := eI_len k x5
  have g8 := eV_len ok.c6
  have g9 := eB_len d x12
  have g10 := ok.c13
  have g11 := eU_len a x2
  have b0 : Bytes (eB d x12) := eB_bytes h12 (by omega)
  have b1 := (eV_bytes ok.c6 h7).app b0
  have b2 := (eI_bytes (f := k) h5).app b1
  have b3 := (eW_bytes ok.c4).app b2
  have b4 := (eW_bytes ok.c3).app b3
  have b5 := (eU_bytes ok.c11 (by decide)).app b4
  have b6 := (eU_bytes ok.c10 (by decide)).app b5
  have b7 := (eU_bytes ok.c9 (by decide)).app b6
  have b8 := (eU_bytes ok.c8 (by decide)).app b7
  have b9 := (eU_bytes ok.c2 (by decide)).app b8
  unfold readGen rest24
  rw [rdN_back ok.c1 (by decide) b9 (by simp only [List.length_append]; omega), Option.bind_some]
  dsimp only
  rw [rdN_back ok.c2 (by decide) b8 (by simp only [List.length_append]; omega), Option.bind_some]
  dsimp only
  rw [rdN_back ok.c8 (by decide) b7 (by simp only [List.length_append]; omega), Option.bind_some]
  dsimp only
  rw [rdN_back ok.c9 (by decide) b6 (by simp only [List.length_append]; omega), Option.bind_some]
  dsimp only
  rw [rdN_back ok.c10 (by decide) b5 (by simp only [List.length_append]; omega), Option.bind_some]
  dsimp only
  rw [rdN_back ok.c11 (by decide) b4 (by simp only [List.length_append]; omega), Option.bind_some]
  dsimp only
  rw [rdW_back ok.c3 b3 (by simp only [List.length_append]; omega), Option.bind_some]
  dsimp only
  rw [rdW_back ok.c4 b2 (by simp only [List.length_append]; omega), Option.bind_some]
  dsimp only
  rw [rdI_back ok.c5 h5 b1 (by simp only [List.length_append]; omega), Option.bind_some]
  dsimp only
  rw [rdV_back ok.c6 h7 b0 (by omega), Option.bind_some]
  dsimp only
  cases d with
  | true =>
    rw [cond_true]
    have hx : eB true x12 = encB x12 ++ [] := (List.append_nil _).symm
    rw [hx, crb_back Bytes.nil (by decide) h12 (by omega), Option.bind_some, cloneB24 (t := x12) (by omega), Option.bind_some]
  | false =>
    rw [ok.c12 rfl]; rfl

theorem tail_ok {x0 x1 x2 : Int} {x3 x4 : ByteArray} {x5 : Int} {x6 : List ByteArray} {x7 : List Int} {x8 x9 x10 x11 : Int} {x12 : List Int} (h : cmd_Check x0 x1 x2 x3 x4 x5 x6 x7 x8 x9 x10 x11 x12 = some 0) : tail24 [] 0 x0 x1 x2 x3 x4 x5 x6 x7 x8 x9 x10 x11 x12 = some (x0, x1, x2, x3, x4, x5, x6, x7, x8, x9, x10, x11, x12, 0) := by
  unfold tail24
  rw [h]; rfl

theorem rest_len {a n w k v i o c t d : Bool} {x1 x2 : Int} {x3 x4 : ByteArray} {x5 : Int} {x6 : List ByteArray} {x7 : List Int} {x8 x9 x10 x11 : Int} {x12 : List Int} (ok : Ok24 a n w k v i o c t d x1 x2 x3 x4 x5 x6 x7 x8 x9 x10 x11 x12) : (rest24 a n w k v i o c t d x1 x2 x3 x4 x5 x6 x7 x8 x9 x10 x11 x12).length ≤ 100000 := by
  have n3 := name_small ok.c3
  have n4 := name_small ok.c4
  have g0 := eU_len a x1
  have g1 := eU_len i x8
  have g2 := eU_len o x9
  have g3 := eU_len c x10
  have g4 := eU_len t x11
  have g5 := eB_len n (bytesList x3)
  have g6 := eB_len w (bytesList x4)
  have g7 := eI_len k x5
  have g8 := eV_len ok.c6
  have g9 := eB_len d x12
  have g10 := ok.c13
  have g11 := eU_len a x2
  unfold rest24
  simp only [List.length_append]; omega

theorem read_1 {x1 x2 : Int} {x3 x4 : ByteArray} {x5 : Int} {x6 : List ByteArray} {x7 : List Int} {x8 x9 x10 x11 : Int} {x12 : List Int} (h3 : x3.size ≤ 140737488351232) (h4 : x4.size ≤ 140737488351232) (hl : x6.length ≤ 9223372036854775806) (hv : x7.length ≤ 9223372036854775806) (ht : Txt x6) (h5 : -9223372036854775808 ≤ x5 ∧ x5 ≤ 9223372036854775807) (h7 : I64 x7) (h12 : Bytes x12) (h : chkC 1 x1 x2 x3 x4 x5 x6 x7 x8 x9 x10 x11 x12 = 0) : cmd_Read (encC 1 x1 x2 x3 x4 x5 x6 x7 x8 x9 x10 x11 x12) = some (1, x1, x2, x3, x4, x5, x6, x7, x8, x9, x10, x11, x12, 0) := by
  rw [cmd_Read_1 (x := encC 1 x1 x2 x3 x4 x5 x6 x7 x8 x9 x10 x11 x12) (r := rest24 false false false false false false false false true false x1 x2 x3 x4 x5 x6 x7 x8 x9 x10 x11 x12) (e := 0) (cro_back (Nat.le_trans (rest_len (ok_1 h)) (by decide)) (by decide)), beq_yes rfl, cond_true, readGen_back (ok_1 h) h5 h7 h12]
  exact tail_ok ((cmd_Check_spec 1 x1 x2 x3 x4 x5 x6 x7 x8 x9 x10 x11 x12 h3 h4 hl hv ht).trans (congrArg some h))

theorem read_2 {x1 x2 : Int} {x3 x4 : ByteArray} {x5 : Int} {x6 : List ByteArray} {x7 : List Int} {x8 x9 x10 x11 : Int} {x12 : List Int} (h3 : x3.size ≤ 140737488351232) (h4 : x4.size ≤ 140737488351232) (hl : x6.length ≤ 9223372036854775806) (hv : x7.length ≤ 9223372036854775806) (ht : Txt x6) (h5 : -9223372036854775808 ≤ x5 ∧ x5 ≤ 9223372036854775807) (h7 : I64 x7) (h12 : Bytes x12) (h : chkC 2 x1 x2 x3 x4 x5 x6 x7 x8 x9 x10 x11 x12 = 0) : cmd_Read (encC 2 x1 x2 x3 x4 x5 x6 x7 x8 x9 x10 x11 x12) = some (2, x1, x2, x3, x4, x5, x6, x7, x8, x9, x10, x11, x12, 0) := by
  rw [cmd_Read_2 (x := encC 2 x1 x2 x3 x4 x5 x6 x7 x8 x9 x10 x11 x12) (r := rest24 true false false false false false false false false true x1 x2 x3 x4 x5 x6 x7 x8 x9 x10 x11 x12) (e := 0) (cro_back (Nat.le_trans (rest_len (ok_2 h)) (by decide)) (by decide)), beq_yes rfl, cond_true, readGen_back (ok_2 h) h5 h7 h12]
  exact tail_ok ((cmd_Check_spec 2 x1 x2 x3 x4 x5 x6 x7 x8 x9 x10 x11 x12 h3 h4 hl hv ht).trans (congrArg some h))

theorem read_3 {x1 x2 : Int} {x3 x4 : ByteArray} {x5 : Int} {x6 : List ByteArray} {x7 : List Int} {x8 x9 x10 x11 : Int} {x12 : List Int} (h3 : x3.size ≤ 140737488351232) (h4 : x4.size ≤ 140737488351232) (hl : x6.length ≤ 9223372036854775806) (hv : x7.length ≤ 9223372036854775806) (ht : Txt x6) (h5 : -9223372036854775808 ≤ x5 ∧ x5 ≤ 9223372036854775807) (h7 : I64 x7) (h12 : Bytes x12) (h : chkC 3 x1 x2 x3 x4 x5 x6 x7 x8 x9 x10 x11 x12 = 0) : cmd_Read (encC 3 x1 x2 x3 x4 x5 x6 x7 x8 x9 x10 x11 x12) = some (3, x1, x2, x3, x4, x5, x6, x7, x8, x9, x10, x11, x12, 0) := by
  rw [cmd_Read_3 (x := encC 3 x1 x2 x3 x4 x5 x6 x7 x8 x9 x10 x11 x12) (r := rest24 true true false false true false false false false false x1 x2 x3 x4 x5 x6 x7 x8 x9 x10 x11 x12) (e := 0) (cro_back (Nat.le_trans (rest_len (ok_3 h)) (by decide)) (by decide)), beq_yes rfl, cond_true, readGen_back (ok_3 h) h5 h7 h12]
  exact tail_ok ((cmd_Check_spec 3 x1 x2 x3 x4 x5 x6 x7 x8 x9 x10 x11 x12 h3 h4 hl hv ht).trans (congrArg some h))

theorem read_4 {x1 x2 : Int} {x3 x4 : ByteArray} {x5 : Int} {x6 : List ByteArray} {x7 : List Int} {x8 x9 x10 x11 : Int} {x12 : List Int} (h3 : x3.size ≤ 140737488351232) (h4 : x4.size ≤ 140737488351232) (hl : x6.length ≤ 9223372036854775806) (hv : x7.length ≤ 9223372036854775806) (ht : Txt x6) (h5 : -9223372036854775808 ≤ x5 ∧ x5 ≤ 9223372036854775807) (h7 : I64 x7) (h12 : Bytes x12) (h : chkC 4 x1 x2 x3 x4 x5 x6 x7 x8 x9 x10 x11 x12 = 0) : cmd_Read (encC 4 x1 x2 x3 x4 x5 x6 x7 x8 x9 x10 x11 x12) = some (4, x1, x2, x3, x4, x5, x6, x7, x8, x9, x10, x11, x12, 0) := by
  rw [cmd_Read_4 (x := encC 4 x1 x2 x3 x4 x5 x6 x7 x8 x9 x10 x11 x12) (r := rest24 true true false true true false false true false false x1 x2 x3 x4 x5 x6 x7 x8 x9 x10 x11 x12) (e := 0) (cro_back (Nat.le_trans (rest_len (ok_4 h)) (by decide)) (by decide)), beq_yes rfl, cond_true, readGen_back (ok_4 h) h5 h7 h12]
  exact tail_ok ((cmd_Check_spec 4 x1 x2 x3 x4 x5 x6 x7 x8 x9 x10 x11 x12 h3 h4 hl hv ht).trans (congrArg some h))

theorem read_5 {x1 x2 : Int} {x3 x4 : ByteArray} {x5 : Int} {x6 : List ByteArray} {x7 : List Int} {x8 x9 x10 x11 : Int} {x12 : List Int} (h3 : x3.size ≤ 140737488351232) (h4 : x4.size ≤ 140737488351232) (hl : x6.length ≤ 9223372036854775806) (hv : x7.length ≤ 9223372036854775806) (ht : Txt x6) (h5 : -9223372036854775808 ≤ x5 ∧ x5 ≤ 9223372036854775807) (h7 : I64 x7) (h12 : Bytes x12) (h : chkC 5 x1 x2 x3 x4 x5 x6 x7 x8 x9 x10 x11 x12 = 0) : cmd_Read (encC 5 x1 x2 x3 x4 x5 x6 x7 x8 x9 x10 x11 x12) = some (5, x1, x2, x3, x4, x5, x6, x7, x8, x9, x10, x11, x12, 0) := by
  rw [cmd_Read_5 (x := encC 5 x1 x2 x3 x4 x5 x6 x7 x8 x9 x10 x11 x12) (r := rest24 true true true false false false false true true false x1 x2 x3 x4 x5 x6 x7 x8 x9 x10 x11 x12) (e := 0) (cro_back (Nat.le_trans (rest_len (ok_5 h)) (by decide)) (by decide)), beq_yes rfl, cond_true, readGen_back (ok_5 h) h5 h7 h12]
  exact tail_ok ((cmd_Check_spec 5 x1 x2 x3 x4 x5 x6 x7 x8 x9 x10 x11 x12 h3 h4 hl hv ht).trans (congrArg some h))

theorem read_6 {x1 x2 : Int} {x3 x4 : ByteArray} {x5 : Int} {x6 : List ByteArray} {x7 : List Int} {x8 x9 x10 x11 : Int} {x12 : List Int} (h3 : x3.size ≤ 140737488351232) (h4 : x4.size ≤ 140737488351232) (hl : x6.length ≤ 9223372036854775806) (hv : x7.length ≤ 9223372036854775806) (ht : Txt x6) (h5 : -9223372036854775808 ≤ x5 ∧ x5 ≤ 9223372036854775807) (h7 : I64 x7) (h12 : Bytes x12) (h : chkC 6 x1 x2 x3 x4 x5 x6 x7 x8 x9 x10 x11 x12 = 0) : cmd_Read (encC 6 x1 x2 x3 x4 x5 x6 x7 x8 x9 x10 x11 x12) = some (6, x1, x2, x3, x4, x5, x6, x7, x8, x9, x10, x11, x12, 0) := by
  rw [cmd_Read_6 (x := encC 6 x1 x2 x3 x4 x5 x6 x7 x8 x9 x10 x11 x12) (r := rest24 true false true false true true false false false false x1 x2 x3 x4 x5 x6 x7 x8 x9 x10 x11 x12) (e := 0) (cro_back (Nat.le_trans (rest_len (ok_6 h)) (by decide)) (by decide)), beq_yes rfl, cond_true, readGen_back (ok_6 h) h5 h7 h12]
  exact tail_ok ((cmd_Check_spec 6 x1 x2 x3 x4 x5 x6 x7 x8 x9 x10 x11 x12 h3 h4 hl hv ht).trans (congrArg some h))

theorem read_7 {x1 x2 : Int} {x3 x4 : ByteArray} {x5 : Int} {x6 : List ByteArray} {x7 : List Int} {x8 x9 x10 x11 : Int} {x12 : List Int} (h3 : x3.size ≤ 140737488351232) (h4 : x4.size ≤ 140737488351232) (hl : x6.length ≤ 9223372036854775806) (hv : x7.length ≤ 9223372036854775806) (ht : Txt x6) (h5 : -9223372036854775808 ≤ x5 ∧ x5 ≤ 9223372036854775807) (h7 : I64 x7) (h12 : Bytes x12) (h : chkC 7 x1 x2 x3 x4 x5 x6 x7 x8 x9 x10 x11 x12 = 0) : cmd_Read (encC 7 x1 x2 x3 x4 x5 x6 x7 x8 x9 x10 x11 x12) = some (7, x1, x2, x3, x4, x5, x6, x7, x8, x9, x10, x11, x12, 0) := by
  rw [cmd_Read_7 (x := encC 7 x1 x2 x3 x4 x5 x6 x7 x8 x9 x10 x11 x12) (r := rest24 true false true false false true false false false false x1 x2 x3 x4 x5 x6 x7 x8 x9 x10 x11 x12) (e := 0) (cro_back (Nat.le_trans (rest_len (ok_7 h)) (by decide)) (by decide)), beq_yes rfl, cond_true, readGen_back (ok_7 h) h5 h7 h12]
  exact tail_ok ((cmd_Check_spec 7 x1 x2 x3 x4 x5 x6 x7 x8 x9 x10 x11 x12 h3 h4 hl hv ht).trans (congrArg some h))

theorem read_8 {x1 x2 : Int} {x3 x4 : ByteArray} {x5 : Int} {x6 : List ByteArray} {x7 : List Int} {x8 x9 x10 x11 : Int} {x12 : List Int} (h3 : x3.size ≤ 140737488351232) (h4 : x4.size ≤ 140737488351232) (hl : x6.length ≤ 9223372036854775806) (hv : x7.length ≤ 9223372036854775806) (ht : Txt x6) (h5 : -9223372036854775808 ≤ x5 ∧ x5 ≤ 9223372036854775807) (h7 : I64 x7) (h12 : Bytes x12) (h : chkC 8 x1 x2 x3 x4 x5 x6 x7 x8 x9 x10 x11 x12 = 0) : cmd_Read (encC 8 x1 x2 x3 x4 x5 x6 x7 x8 x9 x10 x11 x12) = some (8, x1, x2, x3, x4, x5, x6, x7, x8, x9, x10, x11, x12, 0) := by
  rw [cmd_Read_8 (x := encC 8 x1 x2 x3 x4 x5 x6 x7 x8 x9 x10 x11 x12) (r := rest24 true false false false true true true false false false x1 x2 x3 x4 x5 x6 x7 x8 x9 x10 x11 x12) (e := 0) (cro_back (Nat.le_trans (rest_len (ok_8 h)) (by decide)) (by decide)), beq_yes rfl, cond_true, readGen_back (ok_8 h) h5 h7 h12]
  exact tail_ok ((cmd_Check_spec 8 x1 x2 x3 x4 x5 x6 x7 x8 x9 x10 x11 x12 h3 h4 hl hv ht).trans (congrArg some h))

theorem read_9 {x1 x2 : Int} {x3 x4 : ByteArray} {x5 : Int} {x6 : List ByteArray} {x7 : List Int} {x8 x9 x10 x11 : Int} {x12 : List Int} (h3 : x3.size ≤ 140737488351232) (h4 : x4.size ≤ 140737488351232) (hl : x6.length ≤ 9223372036854775806) (hv : x7.length ≤ 9223372036854775806) (ht : Txt x6) (h5 : -9223372036854775808 ≤ x5 ∧ x5 ≤ 9223372036854775807) (h7 : I64 x7) (h12 : Bytes x12) (h : chkC 9 x1 x2 x3 x4 x5 x6 x7 x8 x9 x10 x11 x12 = 0) : cmd_Read (encC 9 x1 x2 x3 x4 x5 x6 x7 x8 x9 x10 x11 x12) = some (9, x1, x2, x3, x4, x5, x6, x7, x8, x9, x10, x11, x12, 0) := by
  rw [cmd_Read_9 (x := encC 9 x1 x2 x3 x4 x5 x6 x7 x8 x9 x10 x11 x12) (r := rest24 true false false false false true false true false false x1 x2 x3 x4 x5 x6 x7 x8 x9 x10 x11 x12) (e := 0) (cro_back (Nat.le_trans (rest_len (ok_9 h)) (by decide)) (by decide)), beq_yes rfl, cond_true, readGen_back (ok_9 h) h5 h7 h12]
  exact tail_ok ((cmd_Check_spec 9 x1 x2 x3 x4 x5 x6 x7 x8 x9 x10 x11 x12 h3 h4 hl hv ht).trans (congrArg some h))

theorem read_10 {x1 x2 : Int} {x3 x4 : ByteArray} {x5 : Int} {x6 : List ByteArray} {x7 : List Int} {x8 x9 x10 x11 : Int} {x12 : List Int} (h3 : x3.size ≤ 140737488351232) (h4 : x4.size ≤ 140737488351232) (hl : x6.length ≤ 9223372036854775806) (hv : x7.length ≤ 9223372036854775806) (ht : Txt x6) (h5 : -9223372036854775808 ≤ x5 ∧ x5 ≤ 9223372036854775807) (h7 : I64 x7) (h12 : Bytes x12) (h : chkC 10 x1 x2 x3 x4 x5 x6 x7 x8 x9 x10 x11 x12 = 0) : cmd_Read (encC 10 x1 x2 x3 x4 x5 x6 x7 x8 x9 x10 x11 x12) = some (10, x1, x2, x3, x4, x5, x6, x7, x8, x9, x10, x11, x12, 0) := by
  rw [cmd_Read_10 (x := encC 10 x1 x2 x3 x4 x5 x6 x7 x8 x9 x10 x11 x12) (r := rest24 true false false false false true false false false false x1 x2 x3 x4 x5 x6 x7 x8 x9 x10 x11 x12) (e := 0) (cro_back (Nat.le_trans (rest_len (ok_10 h)) (by decide)) (by decide)), beq_yes rfl, cond_true, readGen_back (ok_10 h) h5 h7 h12]
  exact tail_ok ((cmd_Check_spec 10 x1 x2 x3 x4 x5 x6 x7 x8 x9 x10 x11 x12 h3 h4 hl hv ht).trans (congrArg some h))

theorem read_11 {x1 x2 : Int} {x3 x4 : ByteArray} {x5 : Int} {x6 : List ByteArray} {x7 : List Int} {x8 x9 x10 x11 : Int} {x12 : List Int} (h3 : x3.size ≤ 140737488351232) (h4 : x4.size ≤ 140737488351232) (hl : x6.length ≤ 9223372036854775806) (hv : x7.length ≤ 9223372036854775806) (ht : Txt x6) (h5 : -9223372036854775808 ≤ x5 ∧ x5 ≤ 9223372036854775807) (h7 : I64 x7) (h12 : Bytes x12) (h : chkC 11 x1 x2 x3 x4 x5 x6 x7 x8 x9 x10 x11 x12 = 0) : cmd_Read (encC 11 x1 x2 x3 x4 x5 x6 x7 x8 x9 x10 x11 x12) = some (11, x1, x2, x3, x4, x5, x6, x7, x8, x9, x10, x11, x12, 0) := by
  rw [cmd_Read_11 (x := encC 11 x1 x2 x3 x4 x5 x6 x7 x8 x9 x10 x11 x12) (r := rest24 false false false false false true false true false true x1 x2 x3 x4 x5 x6 x7 x8 x9 x10 x11 x12) (e := 0) (cro_back (Nat.le_trans (rest_len (ok_11 h)) (by decide)) (by decide)), beq_yes rfl, cond_true, readGen_back (ok_11 h) h5 h7 h12]
  exact tail_ok ((cmd_Check_spec 11 x1 x2 x3 x4 x5 x6 x7 x8 x9 x10 x11 x12 h3 h4 hl hv ht).trans (congrArg some h))

theorem read_12 {x1 x2 : Int} {x3 x4 : ByteArray} {x5 : Int} {x6 : List ByteArray} {x7 : List Int} {x8 x9 x10 x11 : Int} {x12 : List Int} (h3 : x3.size ≤ 140737488351232) (h4 : x4.size ≤ 140737488351232) (hl : x6.length ≤ 9223372036854775806) (hv : x7.length ≤ 9223372036854775806) (ht : Txt x6) (h5 : -9223372036854775808 ≤ x5 ∧ x5 ≤ 9223372036854775807) (h7 : I64 x7) (h12 : Bytes x12) (h : chkC 12 x1 x2 x3 x4 x5 x6 x7 x8 x9 x10 x11 x12 = 0) : cmd_Read (encC 12 x1 x2 x3 x4 x5 x6 x7 x8 x9 x10 x11 x12) = some (12, x1, x2, x3, x4, x5, x6, x7, x8, x9, x10, x11, x12, 0) := by
  rw [cmd_Read_12 (x := encC 12 x1 x2 x3 x4 x5 x6 x7 x8 x9 x10 x11 x12) (r := rest24 false false false false false true false true false false x1 x2 x3 x4 x5 x6 x7 x8 x9 x10 x11 x12) (e := 0) (cro_back (Nat.le_trans (rest_len (ok_12 h)) (by decide)) (by decide)), beq_yes rfl, cond_true, readGen_back (ok_12 h) h5 h7 h12]
  exact tail_ok ((cmd_Check_spec 12 x1 x2 x3 x4 x5 x6 x7 x8 x9 x10 x11 x12 h3 h4 hl hv ht).trans (congrArg some h))

theorem cmd_read_back {x0 x1 x2 : Int} {x3 x4 : ByteArray} {x5 : Int} {x6 : List ByteArray} {x7 : List Int} {x8 x9 x10 x11 : Int} {x12 : List Int} (h3 : x3.size ≤ 140737488351232) (h4 : x4.size ≤ 140737488351232) (hl : x6.length ≤ 9223372036854775806) (hv : x7.length ≤ 9223372036854775806) (ht : Txt x6) (h5 : -9223372036854775808 ≤ x5 ∧ x5 ≤ 9223372036854775807) (h7 : I64 x7) (h12 : Bytes x12) (h : chkC x0 x1 x2 x3 x4 x5 x6 x7 x8 x9 x10 x11 x12 = 0) : cmd_Read (encC x0 x1 x2 x3 x4 x5 x6 x7 x8 x9 x10 x11 x12) = some (x0, x1, x2, x3, x4, x5, x6, x7, x8, x9, x10, x11, x12, 0) := by
  by_cases hk : 1 ≤ x0 ∧ x0 ≤ 12
  · exact kinds (P := fun x0 => chkC x0 x1 x2 x3 x4 x5 x6 x7 x8 x9 x10 x11 x12 = 0 → cmd_Read (encC x0 x1 x2 x3 x4 x5 x6 x7 x8 x9 x10 x11 x12) = some (x0, x1, x2, x3, x4, x5, x6, x7, x8, x9, x10, x11, x12, 0)) x0 hk
      (read_1 h3 h4 hl hv ht h5 h7 h12) (read_2 h3 h4 hl hv ht h5 h7 h12) (read_3 h3 h4 hl hv ht h5 h7 h12) (read_4 h3 h4 hl hv ht h5 h7 h12) (read_5 h3 h4 hl hv ht h5 h7 h12) (read_6 h3 h4 hl hv ht h5 h7 h12) (read_7 h3 h4 hl hv ht h5 h7 h12) (read_8 h3 h4 hl hv ht h5 h7 h12) (read_9 h3 h4 hl hv ht h5 h7 h12) (read_10 h3 h4 hl hv ht h5 h7 h12) (read_11 h3 h4 hl hv ht h5 h7 h12) (read_12 h3 h4 hl hv ht h5 h7 h12) h
  · rw [chkC, if_pos (flag_out hk)] at h; cases h
end Go.Proofs.Ytgaihonnbdhbmaa.PE
namespace Go.Proofs.Ytgaihonnbdhbmaa.PE
open Go Go.RowKit Go.Proofs.Ytgaihonnbdhbmaa.Pack
theorem refnum_spec {f : Bool} {x : Int} (h : f = true → 0 ≤ x ∧ x ≤ 1099511627776) : ref24_num x f = some (eU f x) := by
  rw [ref24_num_eq]
  cases f with
  | false => rfl
  | true =>
    have hx := h rfl
    rw [Bool.not_true, cond_false, wrap_u64 (by omega) (by omega), show x = ((x.toNat : Nat) : Int) by omega, refUint_spec (by omega)]; rfl
theorem refword_spec {f : Bool} {s : ByteArray} (h : f = true → (bytesList s).length ≤ 100000) : ref24_word s f = some (eB f (bytesList s)) := by
  rw [ref24_word_eq]
  cases f with
  | false => rfl
  | true => rw [Bool.not_true, cond_false, refBytesL (h rfl)]; rfl
theorem ref09_bytes_l0 {ns : List ByteArray} {vs : List Int} (hl : ns.length ≤ 1000) (hlv : ns.length = vs.length) (hn : Names ns) (hv : I64 vs) : ∀ (r : List ByteArray) (q : List Int) (i : Nat) (acc : List Int), ns.drop i = r → vs.drop i = q → acc.length + 60 * r.length ≤ 1000000000000 →
    ref09_Bytes_l0 (i : Int) ns vs acc = some (acc ++ encPairs r q) := by
  intro r
  induction r with
  | nil =>
    intro q i acc hd hq ha
    have := at_nil hd
    rw [ref09_Bytes_l0_eq, ilen_eq, Bool.cond_decide, if_neg (by omega), encPairs, List.append_nil]
    intro s ns v vs h; cases h
  | cons x r ih =>
    intro q i acc hd hq ha
    obtain ⟨h1, h2, h3⟩ := at_drop hd
    cases q with
    | nil => have := at_nil hq; omega
    | cons y q =>
      obtain ⟨k1, k2, k3⟩ := at_drop hq
      have hx : nameS x = true := hn x (List.mem_of_getElem? h2)
      have hy := hv y (List.mem_of_getElem? k2)
      have l1 := nameS_len hx
      have l2 := encB_len (bytesList x)
      have l3 := enc_length (zig y)
      have hr : (x :: r).length = r.length + 1 := rfl
      have gi := ih q (i + 1) (acc ++ encB (bytesList x) ++ enc (zig y)) h3 k3 (by simp only [List.length_append]; omega)
      rw [ref09_Bytes_l0_eq, ilen_eq, Bool.cond_decide, if_pos (by omega), Bool.cond_decide, if_pos (by omega), Int.toNat_natCast, h2, Option.bind_some, refBytesL (by omega), Option.bind_some,
        Bool.cond_decide, if_pos (show _ ≤ room by simp only [ilen_eq, room_eq]; omega), Bool.cond_decide, if_pos (by omega), k2, Option.bind_some, refInt_spec hy.1 hy.2, Option.bind_some,
        Bool.cond_decide, if_pos (show _ ≤ room by simp only [ilen_eq, room_eq, List.length_append]; omega), wrap_succ (by omega), gi]
      simp only [encPairs, List.append_assoc]
theorem ref09_bytes {ns : List ByteArray} {vs : List Int} (hl : ns.length ≤ 1000) (hlv : ns.length = vs.length) (hn : Names ns) (hv : I64 vs) : ref09_Bytes ns vs = some (encV ns vs) := by
  rw [ref09_Bytes_eq, ilen_eq, wrap_u64 (by omega) (by omega), refUint_spec (by omega), Option.bind_some]
  have := enc_length ns.length
  exact ref09_bytes_l0 hl hlv hn hv _ _ 0 _ rfl rfl (by omega)

theorem ok_all {x0 x1 x2 : Int} {x3 x4 : ByteArray} {x5 : Int} {x6 : List ByteArray} {x7 : List Int} {x8 x9 x10 x11 : Int} {x12 : List Int} (hk : 1 ≤ x0 ∧ x0 ≤ 12) (h : chkC x0 x1 x2 x3 x4 x5 x6 x7 x8 x9 x10 x11 x12 = 0) : Ok24 (hs x0 1) (hs x0 2) (hs x0 4) (hs x0 8) (hs x0 16) (hs x0 32) (hs x0 64) (hs x0 128) (hs x0 256) (hs x0 512) x1 x2 x3 x4 x5 x6 x7 x8 x9 x10 x11 x12 :=
  kinds (P := fun x0 => chkC x0 x1 x2 x3 x4 x5 x6 x7 x8 x9 x10 x11 x12 = 0 → Ok24 (hs x0 1) (hs x0 2) (hs x0 4) (hs x0 8) (hs x0 16) (hs x0 32) (hs x0 64) (hs x0 128) (hs x0 256) (hs x0 512) x1 x2 x3 x4 x5 x6 x7 x8 x9 x10 x11 x12) x0 hk
      ok_1 ok_2 ok_3 ok_4 ok_5 ok_6 ok_7 ok_8 ok_9 ok_10 ok_11 ok_12 h
theorem kind_in {x0 x1 x2 : Int} {x3 x4 : ByteArray} {x5 : Int} {x6 : List ByteArray} {x7 : List Int} {x8 x9 x10 x11 : Int} {x12 : List Int} (h : chkC x0 x1 x2 x3 x4 x5 x6 x7 x8 x9 x10 x11 x12 = 0) : 1 ≤ x0 ∧ x0 ≤ 12 := by
  by_cases hk : 1 ≤ x0 ∧ x0 ≤ 12
  · exact hk
  · rw [chkC, if_pos (flag_out hk)] at h; cases h

theorem refPut_yes {x0 x1 x2 : Int} {x3 x4 : ByteArray} {x5 : Int} {x6 : List ByteArray} {x7 : List Int} {x8 x9 x10 x11 : Int} {x12 : List Int} (h3 : x3.size ≤ 140737488351232) (h4 : x4.size ≤ 140737488351232) (hl : x6.length ≤ 1000000000000000) (hv : x7.length ≤ 1000000000000000) (ht : Txt x6) (h5 : -9223372036854775808 ≤ x5 ∧ x5 ≤ 9223372036854775807) (h7 : I64 x7) (h12 : Bytes x12) (h : chkC x0 x1 x2 x3 x4 x5 x6 x7 x8 x9 x10 x11 x12 = 0) : ref24_Put x0 x1 x2 x3 x4 x5 x6 x7 x8 x9 x10 x11 x12 = some (encC x0 x1 x2 x3 x4 x5 x6 x7 x8 x9 x10 x11 x12, 0) := by
  have hk := kind_in h
  have ok := ok_all hk h
  have n3 := name_small ok.c3
  have n4 := name_small ok.c4
  have g0 := eU_len (hs x0 1) x1
  have g11 := eU_len (hs x0 1) x2
  have g1 := eU_len (hs x0 32) x8
  have g2 := eU_len (hs x0 64) x9
  have g3 := eU_len (hs x0 128) x10
  have g4 := eU_len (hs x0 256) x11
  have g5 := eB_len (hs x0 2) (bytesList x3)
  have g6 := eB_len (hs x0 4) (bytesList x4)
  have g7 := enc_length (zig x5)
  have g8 := eV_len ok.c6
  have g9 := eB_len (hs x0 512) x12
  have g10 := ok.c13
  have gd : ref24_word (strOf x12) (hs x0 512) = some (eB (hs x0 512) x12) := by
    have := refword_spec (f := hs x0 512) (s := strOf x12) (by rw [list_strOf h12]; intro _; omega)
    rw [list_strOf h12] at this; exact this
  rw [ref24_Put_eq, refCheck24_spec x0 x1 x2 x3 x4 x5 x6 x7 x8 x9 x10 x11 x12 h3 h4 hl hv ht, Option.bind_some, bne_no h, cond_false, wrap_u8, show x0 % 256 = x0 by omega]
  rw [has_a hk, Option.bind_some, refnum_spec (fun h => by have := (fromS_yes ok.c1).1 h; omega), Option.bind_some, Bool.cond_decide, if_pos (show _ ≤ room by simp only [ilen_eq, room_eq, List.length_append, List.length_cons, List.length_nil]; omega)]
  rw [Option.bind_some, refnum_spec (fun h => by have := (fromS_yes ok.c2).1 h; omega), Option.bind_some, Bool.cond_decide, if_pos (show _ ≤ room by simp only [ilen_eq, room_eq, List.length_append, List.length_cons, List.length_nil]; omega)]
  rw [has_i hk, Option.bind_some, refnum_spec (fromS_yes ok.c8).1, Option.bind_some, Bool.cond_decide, if_pos (show _ ≤ room by simp only [ilen_eq, room_eq, List.length_append, List.length_cons, List.length_nil]; omega)]
  rw [has_o hk, Option.bind_some, refnum_spec (fromS_yes ok.c9).1, Option.bind_some, Bool.cond_decide, if_pos (show _ ≤ room by simp only [ilen_eq, room_eq, List.length_append, List.length_cons, List.length_nil]; omega)]
  rw [has_c hk, Option.bind_some, refnum_spec (fromS_yes ok.c10).1, Option.bind_some, Bool.cond_decide, if_pos (show _ ≤ room by simp only [ilen_eq, room_eq, List.length_append, List.length_cons, List.length_nil]; omega)]
  rw [has_t hk, Option.bind_some, refnum_spec (fromS_yes ok.c11).1, Option.bind_some, Bool.cond_decide, if_pos (show _ ≤ room by simp only [ilen_eq, room_eq, List.length_append, List.length_cons, List.length_nil]; omega)]
  rw [has_n hk, Option.bind_some, refword_spec (fun _ => by omega), Option.bind_some, Bool.cond_decide, if_pos (show _ ≤ room by simp only [ilen_eq, room_eq, List.length_append, List.length_cons, List.length_nil]; omega)]
  rw [has_w hk, Option.bind_some, refword_spec (fun _ => by omega), Option.bind_some, Bool.cond_decide, if_pos (show _ ≤ room by simp only [ilen_eq, room_eq, List.length_append, List.length_cons, List.length_nil]; omega)]
  rw [has_k hk, Option.bind_some, has_v hk, has_d hk]
  unfold encC rest24
  cases ek : hs x0 8 with
  | true =>
    rw [cond_true, refInt_spec h5.1 h5.2, Option.bind_some, Bool.cond_decide, if_pos (show _ ≤ room by simp only [ilen_eq, room_eq, List.length_append, List.length_cons, List.length_nil]; omega), Option.bind_some]
    cases ev : hs x0 16 with
    | true =>
      rw [ev] at g8
      obtain ⟨q1, q2, q3⟩ := chkV_ok ((varsS_yes ok.c6).1 ev)
      have g8' : (encV x6 x7).length ≤ 4000 := g8
      rw [cond_true, ref09_bytes (by omega) q1 (goodV_name q3) h7, Option.bind_some, Bool.cond_decide, if_pos (show _ ≤ room by simp only [ilen_eq, room_eq, List.length_append, List.length_cons, List.length_nil]; omega), Option.bind_some, gd, Option.bind_some, Bool.cond_decide, if_pos (show _ ≤ room by simp only [ilen_eq, room_eq, List.length_append, List.length_cons, List.length_nil]; omega)]
      simp only [List.append_assoc, List.singleton_append, List.cons_append, List.nil_append]; rfl
    | false =>
      rw [cond_false, Option.bind_some, gd, Option.bind_some, Bool.cond_decide, if_pos (show _ ≤ room by simp only [ilen_eq, room_eq, List.length_append, List.length_cons, List.length_nil]; omega)]
      simp only [List.append_assoc, List.singleton_append, List.cons_append, List.nil_append]; rfl
  | false =>
    rw [cond_false, Option.bind_some]
    cases ev : hs x0 16 with
    | true =>
      rw [ev] at g8
      obtain ⟨q1, q2, q3⟩ := chkV_ok ((varsS_yes ok.c6).1 ev)
      have g8' : (encV x6 x7).length ≤ 4000 := g8
      rw [cond_true, ref09_bytes (by omega) q1 (goodV_name q3) h7, Option.bind_some, Bool.cond_decide, if_pos (show _ ≤ room by simp only [ilen_eq, room_eq, List.length_append, List.length_cons, List.length_nil]; omega), Option.bind_some, gd, Option.bind_some, Bool.cond_decide, if_pos (show _ ≤ room by simp only [ilen_eq, room_eq, List.length_append, List.length_cons, List.length_nil]; omega)]
      simp only [List.append_assoc, List.singleton_append, List.cons_append, List.nil_append]; rfl
    | false =>
      rw [cond_false, Option.bind_some, gd, Option.bind_some, Bool.cond_decide, if_pos (show _ ≤ room by simp only [ilen_eq, room_eq, List.length_append, List.length_cons, List.length_nil]; omega)]
      simp only [List.append_assoc, List.singleton_append, List.cons_append, List.nil_append]; rfl
theorem refPut_no {x0 x1 x2 : Int} {x3 x4 : ByteArray} {x5 : Int} {x6 : List ByteArray} {x7 : List Int} {x8 x9 x10 x11 : Int} {x12 : List Int} (h3 : x3.size ≤ 140737488351232) (h4 : x4.size ≤ 140737488351232) (hl : x6.length ≤ 1000000000000000) (hv : x7.length ≤ 1000000000000000) (ht : Txt x6) (h : chkC x0 x1 x2 x3 x4 x5 x6 x7 x8 x9 x10 x11 x12 ≠ 0) : ref24_Put x0 x1 x2 x3 x4 x5 x6 x7 x8 x9 x10 x11 x12 = some ([], chkC x0 x1 x2 x3 x4 x5 x6 x7 x8 x9 x10 x11 x12) := by
  rw [ref24_Put_eq, refCheck24_spec x0 x1 x2 x3 x4 x5 x6 x7 x8 x9 x10 x11 x12 h3 h4 hl hv ht, Option.bind_some, bne_yes h, cond_true]
end Go.Proofs.Ytgaihonnbdhbmaa.PE
namespace Go.Proofs.Ytgaihonnbdhbmaa.PE
open Go Go.RowKit Go.Proofs.Ytgaihonnbdhbmaa.Pack
theorem texts_self_l0 {ns : List ByteArray} (hl : ns.length ≤ 1000) : ∀ (r : List ByteArray) (i : Nat), ns.drop i = r → ref08_Texts_l0 ns ns (i : Int) = some true := by
  intro r
  induction r with
  | nil =>
    intro i hd
    have := at_nil hd
    rw [ref08_Texts_l0_eq, ilen_eq, Bool.cond_decide, if_neg (by omega)]
  | cons x r ih =>
    intro i hd
    obtain ⟨h1, h2, h3⟩ := at_drop hd
    rw [ref08_Texts_l0_eq, ilen_eq, Bool.cond_decide, if_pos (by omega), Bool.cond_decide, if_pos (by omega), Int.toNat_natCast, h2, Option.bind_some, Bool.cond_decide, if_pos (by omega), Option.bind_some, beq_self_eq_true, Bool.not_true, cond_false, wrap_succ (by omega)]
    exact ih (i + 1) h3
theorem texts_self {ns : List ByteArray} (hl : ns.length ≤ 1000) : ref08_Texts ns ns = some true := by
  rw [ref08_Texts_eq, bne_self_eq_false, cond_false]; exact texts_self_l0 hl _ 0 rfl
theorem vars_self_l0 {ns : List ByteArray} {vs : List Int} (hl : vs.length ≤ 1000) : ∀ (r : List Int) (i : Nat), vs.drop i = r → ref09_Same_l0 (i : Int) ns vs ns vs = some true := by
  intro r
  induction r with
  | nil =>
    intro i hd
    have := at_nil hd
    rw [ref09_Same_l0_eq, ilen_eq, Bool.cond_decide, if_neg (by omega)]
  | cons x r ih =>
    intro i hd
    obtain ⟨h1, h2, h3⟩ := at_drop hd
    rw [ref09_Same_l0_eq, ilen_eq, Bool.cond_decide, if_pos (by omega), Bool.cond_decide, if_pos (by omega), Int.toNat_natCast, h2, Option.bind_some, Bool.cond_decide, if_pos (by omega), Option.bind_some, bne_self_eq_false, cond_false, wrap_succ (by omega)]
    exact ih (i + 1) h3
theorem vars_self {ns : List ByteArray} {vs : List Int} (hn : ns.length ≤ 1000) (hl : vs.length ≤ 1000) : ref09_Same ns vs ns vs = some true := by
  rw [ref09_Same_eq, texts_self hn, Option.bind_some, Bool.not_true, cond_false, bne_self_eq_false, cond_false]; exact vars_self_l0 hl _ 0 rfl
theorem same24 (x0 x1 x2 : Int) (x3 x4 : ByteArray) (x5 : Int) {x6 : List ByteArray} {x7 : List Int} (x8 x9 x10 x11 : Int) (x12 : List Int) (hn : x6.length ≤ 1000) (hl : x7.length ≤ 1000) :
    ref24_Same x0 x1 x2 x3 x4 x5 x6 x7 x8 x9 x10 x11 x12 x0 x1 x2 x3 x4 x5 x6 x7 x8 x9 x10 x11 x12 = some true := by
  rw [ref24_Same_eq]
  simp -implicitDefEqProofs only [bne_self_eq_false, cond_false, beq_self_eq_true, Bool.not_true, vars_self hn hl, Option.bind_some, cond_true]
theorem same02 (t : List Int) : ref02_Same t t = some true := by rw [ref02_Same_eq, beq_self_eq_true]
/-! works -/
def wA : ByteArray := ⟨#[97]⟩
def wP : ByteArray := ⟨#[112]⟩
def w0 : ByteArray := ⟨#[]⟩
theorem txt_nil : Txt [] := fun s h => (by cases h)
theorem txt_w : Txt [wA] := fun s h => by rw [List.mem_singleton] at h; subst h; decide
theorem i64_w : I64 [-1] := fun s h => by rw [List.mem_singleton] at h; subst h; decide
theorem chk_w : chkC 3 3 9 wP w0 0 [wA] [-1] 0 0 0 0 [] = 0 := by decide +kernel
theorem w_put : cmd_Put 3 3 9 wP w0 0 [wA] [-1] 0 0 0 0 [] = some (encC 3 3 9 wP w0 0 [wA] [-1] 0 0 0 0 [], 0) :=
  cmd_put_yes (by decide) (by decide) (by decide) (by decide) txt_w (by decide) i64_w chk_w
theorem w_read : cmd_Read (encC 3 3 9 wP w0 0 [wA] [-1] 0 0 0 0 []) = some (3, 3, 9, wP, w0, 0, [wA], [-1], 0, 0, 0, 0, [], 0) :=
  cmd_read_back (by decide) (by decide) (by decide) (by decide) txt_w (by decide) i64_w Bytes.nil chk_w
theorem w_99 : cmd_Read [99] = some (Z24 3) :=
  (cmd_Read_eq _).trans ((congrArg (fun o => Option.bind o _) (show cr_one [99] 0 = some ([], 0, 99) from cro_back (r := []) (by decide) (by decide))).trans (by kernel_rfl))
theorem chk_n : chkN 3 5 0 0 w0 0 [] [] = 0 := by decide +kernel
theorem note_n : command_CheckNote 3 5 0 0 w0 0 [] [] = some 0 := (note_spec _ _ _ _ _ _ _ _ (by decide) (by decide) (by decide) txt_nil).trans (congrArg some chk_n)
theorem w_note : command_PutNote 3 5 0 0 w0 0 [] [] = some ([3, 5], 0) := by
  rw [command_PutNote_eq, note_n, Option.bind_some, bne_no rfl, cond_false, show IntKind.u64.wrap 5 = ((5 : Nat) : Int) from rfl, uint_spec (n := 5) (by decide) (by decide)]
  rfl
theorem w_rnote : command_ReadNote [3, 5] = some (3, 5, 0, 0, w0, 0, [], [], 0) := by
  have h1 : cr_one [3, 5] 0 = some ([5], 0, 3) := cro_back (r := [5]) (by decide) (by decide)
  have h2 : cr_number [5] 0 = some ([], 0, 5) := crn_back (r := []) (v := 5) Bytes.nil (by decide) (by decide)
  rw [command_ReadNote_eq, h1, Option.bind_some]
  dsimp only
  rw [beq_yes rfl, cond_true, Bool.cond_decide, if_neg (by decide), Bool.cond_decide, if_neg (by decide), h2, Option.bind_some]
  dsimp only
  rw [beq_no (by decide), cond_false, beq_no (by decide), cond_false, beq_yes rfl, cond_true, Bool.cond_decide, if_neg (by decide), cond_true]
  show (command_CheckNote 3 5 0 0 w0 0 [] []).bind _ = _
  rw [note_n]; rfl
theorem rput_step (i : Nat) (n x1 x2 x3 x4 : Int) (l : List J) (q acc : List Int) (h : q[i]? = some n) (hi : i < 4) (hq : q.length = 4) (hn : 0 ≤ n ∧ n ≤ 1099511627776) (ha : acc.length ≤ 1000) :
    command_PutReply_l0 4 (i : Int) x1 x2 x3 x4 l q acc = command_PutReply_l0 4 ((i + 1 : Nat) : Int) x1 x2 x3 x4 l q (acc ++ enc n.toNat) := by
  have hu := uint_spec (n := n.toNat) (x0 := acc) (by omega) (by omega)
  rw [show ((n.toNat : Nat) : Int) = n by omega] at hu
  rw [command_PutReply_l0_eq, ilen_eq, hq, Bool.cond_decide, if_pos (by omega), Bool.cond_decide, if_pos (by omega), Bool.cond_decide, if_pos (by omega), Int.toNat_natCast, h, Option.bind_some, wrap_succ (by omega), wrap_u64 (by omega) (by omega), hu, Option.bind_some]
theorem jput_nil {acc : List Int} (ha : acc.length ≤ 1000) : jobs_Put acc [] = some (acc ++ enc 0) := by
  rw [jobs_Put_eq, show IntKind.u64.wrap (ilen ([] : List J)) = ((0 : Nat) : Int) from rfl, uint_spec (n := 0) (by decide) (by omega), Option.bind_some, jobs_Put_l0_eq, Bool.cond_decide, if_neg (by decide)]
theorem w_reply : command_PutReply [] 3 9 9 0 [] = some [3, 9, 9, 0, 0] := by
  have s0 := rput_step 0 3 3 9 9 0 [] [3, 9, 9, 0] [] rfl (by decide) rfl (by decide) (by decide)
  have s1 := rput_step 1 9 3 9 9 0 [] [3, 9, 9, 0] [3] rfl (by decide) rfl (by decide) (by decide)
  have s2 := rput_step 2 9 3 9 9 0 [] [3, 9, 9, 0] [3, 9] rfl (by decide) rfl (by decide) (by decide)
  have s3 := rput_step 3 0 3 9 9 0 [] [3, 9, 9, 0] [3, 9, 9] rfl (by decide) rfl (by decide) (by decide)
  have s4 : command_PutReply_l0 4 ((4 : Nat) : Int) 3 9 9 0 [] [3, 9, 9, 0] [3, 9, 9, 0] = _ := command_PutReply_l0_eq _ _ _ _ _ _ _ _ _
  rw [Bool.cond_decide, if_neg (by decide), jput_nil (by decide), Option.bind_some] at s4
  rw [command_PutReply_eq]
  exact s0.trans (s1.trans (s2.trans (s3.trans s4)))
theorem jread_nil : jobs_Read [0, 1] = some ([], [1], 0) := by
  have h1 : pack_ReadUint [0, 1] = some (0, [1], 0) := (readUint_spec (b := [0, 1]) (fun x h => by
    rcases List.mem_cons.mp h with rfl | h
    · decide
    · rw [List.mem_singleton] at h; subst h; decide) (by decide)).trans rfl
  rw [jobs_Read_eq, h1, Option.bind_some]
  dsimp only
  rw [bne_no rfl, cond_false, jobs_Read_l0_eq, Bool.cond_decide, if_neg (by decide), check_spec (l := []) (by decide) (fun j h => (by cases h)), Option.bind_some]
  rfl
theorem reply_w : command_CheckReply 3 9 9 0 [] = some 0 := (reply_spec 3 9 9 0 (l := []) (by decide) (fun j h => (by cases h))).trans (congrArg some (by decide +kernel))
theorem by5 (a b c d e : Nat) (h : a < 256 ∧ b < 256 ∧ c < 256 ∧ d < 256 ∧ e < 256) : Bytes [(a : Int), b, c, d, e] := fun x hx => by
  rcases List.mem_cons.mp hx with rfl | hx
  · omega
  rcases List.mem_cons.mp hx with rfl | hx
  · omega
  rcases List.mem_cons.mp hx with rfl | hx
  · omega
  rcases List.mem_cons.mp hx with rfl | hx
  · omega
  · rw [List.mem_singleton] at hx; subst hx; omega
theorem w_rreply : command_ReadReply [3, 9, 9, 0, 0, 1] = some (3, 9, 9, 0, [], [1], 0) := by
  have b5 : Bytes [9, 9, 0, 0, 1] := by5 9 9 0 0 1 (by decide)
  have b4 : Bytes [9, 0, 0, 1] := fun x h => b5 x (List.mem_cons_of_mem _ h)
  have b3 : Bytes [0, 0, 1] := fun x h => b4 x (List.mem_cons_of_mem _ h)
  have b2 : Bytes [0, 1] := fun x h => b3 x (List.mem_cons_of_mem _ h)
  have h1 : cr_number [3, 9, 9, 0, 0, 1] 0 = some ([9, 9, 0, 0, 1], 0, 3) := crn_back (v := 3) b5 (by decide) (by decide)
  have h2 : cr_number [9, 9, 0, 0, 1] 0 = some ([9, 0, 0, 1], 0, 9) := crn_back (v := 9) b4 (by decide) (by decide)
  have h3 : cr_number [9, 0, 0, 1] 0 = some ([0, 0, 1], 0, 9) := crn_back (v := 9) b3 (by decide) (by decide)
  have h4 : cr_number [0, 0, 1] 0 = some ([0, 1], 0, 0) := crn_back (v := 0) b2 (by decide) (by decide)
  have h5 : cr_jobs [0, 1] 0 = some ([1], 0, []) := by
    rw [cr_jobs_eq, bne_no rfl, cond_false, jread_nil]; rfl
  rw [command_ReadReply_eq, h1, Option.bind_some]
  dsimp only
  rw [h2, Option.bind_some]
  dsimp only
  rw [h3, Option.bind_some]
  dsimp only
  rw [h4, Option.bind_some]
  dsimp only
  rw [h5, Option.bind_some]
  dsimp only
  rw [beq_yes rfl, cond_true, reply_w]; rfl
theorem w_chk0 : cmd_Check 0 0 0 w0 w0 0 [] [] 0 0 0 0 [] = some 1 :=
  (cmd_Check_spec 0 0 0 w0 w0 0 [] [] 0 0 0 0 [] (by decide) (by decide) (by decide) (by decide) txt_nil).trans (congrArg some (by decide +kernel))
theorem works24 : law24_works = some true := by
  have e1 : ref09_One (⟨#[97]⟩ : ByteArray) (-1) = some ([wA], [-1]) := ref09_One_eq _ _
  have e2 : cmd_Put 3 3 9 (⟨#[112]⟩ : ByteArray) (⟨#[]⟩ : ByteArray) 0 [wA] [-1] 0 0 0 0 [] = _ := w_put
  rw [law24_works_eq, e1, Option.bind_some]
  dsimp only
  rw [e2, Option.bind_some]
  dsimp only
  rw [w_read, Option.bind_some, w_99, Option.bind_some, (show command_PutNote 3 5 0 0 (⟨#[]⟩ : ByteArray) 0 [] [] = _ from w_note), Option.bind_some]
  dsimp only
  rw [w_rnote, Option.bind_some, w_reply, Option.bind_some, Bool.cond_decide, if_pos (show _ ≤ room by simp only [ilen_eq, room_eq, List.length_cons, List.length_nil]; omega)]
  rw [show ([3, 9, 9, 0, 0] ++ [1] : List Int) = [3, 9, 9, 0, 0, 1] from rfl, w_rreply, Option.bind_some]
  dsimp only
  rw [beq_yes rfl, cond_true]
  rw [show ref24_Same 3 3 9 (⟨#[112]⟩ : ByteArray) (⟨#[]⟩ : ByteArray) 0 [wA] [-1] 0 0 0 0 [] 3 3 9 wP w0 0 [wA] [-1] 0 0 0 0 [] = some true from same24 3 3 9 wP w0 0 0 0 0 0 [] (by decide) (by decide), Option.bind_some, cond_true]
  rw [(show cmd_Check 0 0 0 (⟨#[]⟩ : ByteArray) (⟨#[]⟩ : ByteArray) 0 [] [] 0 0 0 0 [] = _ from w_chk0), note_n, reply_w]
  rfl
end Go.Proofs.Ytgaihonnbdhbmaa.PE
namespace Go.Proofs.Ytgaihonnbdhbmaa.PE
open Go Go.RowKit Go.Proofs.Ytgaihonnbdhbmaa.Pack

theorem lite24 (x0 x1 x2 : Int) (x3 x4 : ByteArray) (x5 : Int) (x6 : List ByteArray) (x7 : List Int) (x8 x9 x10 x11 : Int) (x12 : List Int) : ∃ b, law24_light x0 x1 x2 x3 x4 x5 x6 x7 x8 x9 x10 x11 x12 = some b ∧ (b = true → x6.length ≤ 100 ∧ x7.length ≤ 100 ∧ x12.length ≤ 3000 ∧ x3.size ≤ 100 ∧ x4.size ≤ 100) := by
  rw [law24_light_eq, ilen_eq, ilen_eq, ilen_eq, isize_eq, isize_eq, Bool.cond_decide]
  by_cases h1 : (x6.length : Int) ≤ 100
  · rw [if_pos h1, Bool.cond_decide]
    by_cases h2 : (x7.length : Int) ≤ 100
    · rw [if_pos h2, Bool.cond_decide]
      by_cases h3 : (x12.length : Int) ≤ 3000
      · rw [if_pos h3, Bool.cond_decide]
        by_cases h4 : (x3.size : Int) ≤ 100
        · rw [if_pos h4]
          exact ⟨_, rfl, fun h => by have h5 := of_decide_eq_true h; omega⟩
        · rw [if_neg h4]; exact ⟨_, rfl, fun h => (by cases h)⟩
      · rw [if_neg h3]; exact ⟨_, rfl, fun h => (by cases h)⟩
    · rw [if_neg h2]; exact ⟨_, rfl, fun h => (by cases h)⟩
  · rw [if_neg h1]; exact ⟨_, rfl, fun h => (by cases h)⟩
theorem puts_law (x0 x1 x2 : Int) (x3 x4 : ByteArray) (x5 : Int) (x6 : List ByteArray) (x7 : List Int) (x8 x9 x10 x11 : Int) (x12 : List Int) (ht : Txt x6) (h5 : -9223372036854775808 ≤ x5 ∧ x5 ≤ 9223372036854775807) (h7 : I64 x7) (h12 : Bytes x12) : law24_CommandPuts x0 x1 x2 x3 x4 x5 x6 x7 x8 x9 x10 x11 x12 = some true := by
  obtain ⟨b, hb, hl⟩ := lite24 x0 x1 x2 x3 x4 x5 x6 x7 x8 x9 x10 x11 x12
  rw [law24_CommandPuts_eq, hb, Option.bind_some, works24]
  cases b with
  | false => rfl
  | true =>
    obtain ⟨l1, l2, l3, l4, l5⟩ := hl rfl
    rw [Bool.not_true, cond_false]
    by_cases hc : chkC x0 x1 x2 x3 x4 x5 x6 x7 x8 x9 x10 x11 x12 = 0
    · rw [cmd_put_yes (by omega) (by omega) (by omega) (by omega) ht h5 h7 hc, Option.bind_some, refPut_yes (by omega) (by omega) (by omega) (by omega) ht h5 h7 h12 hc, Option.bind_some]
      dsimp only
      rw [bne_no rfl, cond_false, same02, Option.bind_some, Bool.not_true, cond_false, cond_false, cmd_read_back (by omega) (by omega) (by omega) (by omega) ht h5 h7 h12 hc, Option.bind_some]
      dsimp only
      rw [beq_yes rfl, cond_true, same24 _ _ _ _ _ _ _ _ _ _ _ (by omega) (by omega), Option.bind_some, cond_true, Option.bind_some]
    · rw [cmd_put_no (by omega) (by omega) (by omega) (by omega) ht hc, Option.bind_some, refPut_no (by omega) (by omega) (by omega) (by omega) ht hc, Option.bind_some]
      dsimp only
      rw [bne_no rfl, cond_false, same02, Option.bind_some, Bool.not_true, cond_false, bne_yes hc, cond_true, Option.bind_some]
theorem checks_law (x0 x1 x2 : Int) (x3 x4 : ByteArray) (x5 : Int) (x6 : List ByteArray) (x7 : List Int) (x8 x9 x10 x11 : Int) (x12 : List Int) (x13 x14 x15 x16 : Int) (x17 : ByteArray) (x18 : Int) (x19 : List ByteArray) (x20 : List Int) (x21 x22 x23 x24 : Int) (x25 : List J) (ht : Txt x6) (ht2 : Txt x19) (hj : ∀ j ∈ x25, TxJ j) : law24_CommandChecks x0 x1 x2 x3 x4 x5 x6 x7 x8 x9 x10 x11 x12 x13 x14 x15 x16 x17 x18 x19 x20 x21 x22 x23 x24 x25 = some true := by
  obtain ⟨b, hb, hl⟩ := lite24 x0 x1 x2 x3 x4 x5 x6 x7 x8 x9 x10 x11 x12
  rw [law24_CommandChecks_eq, hb, Option.bind_some, works24]
  cases b with
  | false => rfl
  | true =>
    obtain ⟨l1, l2, l3, l4, l5⟩ := hl rfl
    rw [Bool.not_true, cond_false, ilen_eq, ilen_eq, ilen_eq, isize_eq, Bool.cond_decide]
    by_cases h1 : (x19.length : Int) > 100
    · rw [if_pos h1]; rfl
    rw [if_neg h1, Bool.cond_decide]
    by_cases h2 : (x20.length : Int) > 100
    · rw [if_pos h2]; rfl
    rw [if_neg h2, Bool.cond_decide]
    by_cases h3 : (x17.size : Int) > 100
    · rw [if_pos h3]; rfl
    rw [if_neg h3, Bool.cond_decide]
    by_cases h4 : (x25.length : Int) > 100
    · rw [if_pos h4]; rfl
    rw [if_neg h4, cmd_Check_spec x0 x1 x2 x3 x4 x5 x6 x7 x8 x9 x10 x11 x12 (by omega) (by omega) (by omega) (by omega) ht, Option.bind_some, refCheck24_spec x0 x1 x2 x3 x4 x5 x6 x7 x8 x9 x10 x11 x12 (by omega) (by omega) (by omega) (by omega) ht, Option.bind_some, beq_self_eq_true, cond_true,
      note_spec _ _ _ _ _ _ _ _ (by omega) (by omega) (by omega) ht2, Option.bind_some, refNote_spec _ _ _ _ _ _ _ _ (by omega) (by omega) (by omega) ht2, Option.bind_some, beq_self_eq_true, cond_true,
      reply_spec _ _ _ _ (by omega) hj, Option.bind_some, refReply_spec _ _ _ _ (by omega) hj, Option.bind_some, beq_self_eq_true, cond_true, Option.bind_some]
end Go.Proofs.Ytgaihonnbdhbmaa.PE
namespace Go.Proofs.Ytgaihonnbdhbmaa.PE
open Go Go.RowKit Go.Proofs.Ytgaihonnbdhbmaa.Pack
theorem reach24 {n : Nat} (h : n ≤ reachBytes) : n ≤ 140737488351232 := Nat.le_trans h (show reachBytes ≤ 140737488351232 by decide)
theorem txt_of {l : List ByteArray} (w : Wf (.slice .str) l) : Txt l := fun s h => reach24 (w.2 s h)
theorem i64s_of {l : List Int} (w : Wf (.slice (.int .i64)) l) : I64 l := fun s h => i64_range (w.2 s h)
theorem bytes24 {l : List Int} (w : Wf (.slice (.int .u8)) l) : Bytes l := bytes_of w.2
theorem jobs_of {l : List J} (w : Wf (.slice (.pair (.int .i64) (.pair (.int .i64) (.pair (.int .i64) (.pair .str (.pair (.int .i64) (.pair .str (.int .i64)))))))) l) : ∀ j ∈ l, TxJ j := fun j h => by
  obtain ⟨_, _, _, a, _, b, _⟩ := w.2 j h
  exact ⟨reach24 a, reach24 b⟩
end Go.Proofs.Ytgaihonnbdhbmaa.PE
namespace Go.Proofs.Ytgaihonnbdhbmaa.PE
open Go Go.RowKit Go.Proofs.Ytgaihonnbdhbmaa.Pack
theorem rdN_tot {f : Bool} {b : List Int} {e : Int} (hb : Bytes b) (hl : b.length ≤ 140737488351232) : ∃ r e' v, rdN f b e = some (r, e', v) ∧ Bytes r ∧ r.length ≤ b.length ∧ (e' = 0 → e = 0 ∧ b = eU f v ++ r) := by
  cases f with
  | true =>
    obtain ⟨r, e', v, h1, h2, h3, h4⟩ := crn_tot (e := e) hb hl
    exact ⟨r, e', v, h1, h2, h3, fun h => ⟨(h4 h).1, (h4 h).2.2.2⟩⟩
  | false => exact ⟨b, e, 0, rfl, hb, Nat.le_refl _, fun h => ⟨h, rfl⟩⟩
theorem rdW_tot {f : Bool} {b : List Int} {e : Int} (hb : Bytes b) (hl : b.length ≤ 140737488351232) : ∃ r e' v, rdW f b e = some (r, e', v) ∧ Bytes r ∧ r.length ≤ b.length ∧ v.size ≤ 140737488351232 ∧ (e' = 0 → e = 0 ∧ b = eB f (bytesList v) ++ r) := by
  cases f with
  | true =>
    obtain ⟨r, e', v, h1, h2, h3, h4, h5⟩ := crw_tot (e := e) hb hl
    exact ⟨r, e', v, h1, h2, h3, by omega, fun h => ⟨(h5 h).1, (h5 h).2⟩⟩
  | false => exact ⟨b, e, ⟨#[]⟩, rfl, hb, Nat.le_refl _, by decide, fun h => ⟨h, rfl⟩⟩
theorem rdI_tot {f : Bool} {b : List Int} {e : Int} (hb : Bytes b) (hl : b.length ≤ 140737488351232) : ∃ r e' v, rdI f b e = some (r, e', v) ∧ Bytes r ∧ r.length ≤ b.length ∧ (-9223372036854775808 ≤ v ∧ v ≤ 9223372036854775807) ∧ (e' = 0 → e = 0 ∧ b = eI f v ++ r) := by
  cases f with
  | true =>
    obtain ⟨r, e', v, h1, h2, h3, h4, h5⟩ := cri_tot (e := e) hb hl
    exact ⟨r, e', v, h1, h2, h3, h4, fun h => ⟨(h5 h).1, (h5 h).2⟩⟩
  | false => exact ⟨b, e, 0, rfl, hb, Nat.le_refl _, by decide, fun h => ⟨h, rfl⟩⟩
theorem rdV_tot {f : Bool} {b : List Int} {e : Int} (hb : Bytes b) (hl : b.length ≤ 140737488351232) : ∃ r e' ns vs, rdV f b e = some (r, e', ns, vs) ∧ Bytes r ∧ r.length ≤ b.length ∧ Txt ns ∧ I64 vs ∧ (e' = 0 → e = 0 ∧ b = eV f ns vs ++ r ∧ ns.length ≤ 64 ∧ vs.length ≤ 64) := by
  cases f with
  | true =>
    obtain ⟨r, e', ns, vs, h1, h2, h3, h4, h5, h6⟩ := crv_tot (e := e) hb hl
    refine ⟨r, e', ns, vs, h1, h2, h3, h4, h5, fun h => ?_⟩
    obtain ⟨g1, g2, g3⟩ := h6 h
    obtain ⟨q1, q2, _⟩ := chkV_ok g2
    exact ⟨g1, g3, q2, by omega⟩
  | false => exact ⟨b, e, [], [], rfl, hb, Nat.le_refl _, txt_nil, fun v hv => (by cases hv), fun h => ⟨h, rfl, by decide, by decide⟩⟩

def err24 (res : C24) : Int := res.2.2.2.2.2.2.2.2.2.2.2.2.2
theorem tail_tot {r : List Int} {e x0 x1 x2 : Int} {x3 x4 : ByteArray} {x5 : Int} {x6 : List ByteArray} {x7 : List Int} {x8 x9 x10 x11 : Int} {x12 : List Int} (h : e = 0 → ∃ c, cmd_Check x0 x1 x2 x3 x4 x5 x6 x7 x8 x9 x10 x11 x12 = some c) : ∃ res, tail24 r e x0 x1 x2 x3 x4 x5 x6 x7 x8 x9 x10 x11 x12 = some res ∧ (err24 res = 0 → e = 0 ∧ r = [] ∧ cmd_Check x0 x1 x2 x3 x4 x5 x6 x7 x8 x9 x10 x11 x12 = some 0) := by
  unfold tail24
  by_cases he : e = 0
  · obtain ⟨c, hc⟩ := h he
    rw [beq_yes he, cond_true, cond_true, Bool.cond_decide, hc, Option.bind_some]
    by_cases hr : ilen r > 0
    · rw [if_pos hr]
      exact ⟨_, rfl, fun h => (by cases h)⟩
    · rw [if_neg hr]
      rw [ilen_eq] at hr
      have hr : r = [] := List.length_eq_zero_iff.mp (by omega)
      by_cases hc0 : c = 0
      · rw [bne_no hc0, cond_false]
        exact ⟨_, rfl, fun _ => ⟨he, hr, by rw [hc0]⟩⟩
      · rw [bne_yes hc0, cond_true]
        exact ⟨_, rfl, fun h => absurd h hc0⟩
  · rw [beq_no he, cond_false, cond_false, bne_yes he, cond_true]
    exact ⟨_, rfl, fun h => absurd h he⟩

/-- What is known of what was read. -/
structure Wf24 (x3 x4 : ByteArray) (x5 : Int) (x6 : List ByteArray) (x7 : List Int) (x12 : List Int) : Prop where
  h3 : x3.size ≤ 140737488351232
  h4 : x4.size ≤ 140737488351232
  hl : x6.length ≤ 64
  hv : x7.length ≤ 64
  ht : Txt x6
  h5 : -9223372036854775808 ≤ x5 ∧ x5 ≤ 9223372036854775807
  h7 : I64 x7
  h12 : Bytes x12

theorem readGen_tot {a n w k v i o c t d : Bool} {b : List Int} {e x0 : Int} (hb : Bytes b) (hl : b.length ≤ 140737488351232) : ∃ res, readGen a n w k v i o c t d b e x0 = some res ∧
    (err24 res = 0 → ∃ (x1 x2 : Int) (x3 x4 : ByteArray) (x5 : Int) (x6 : List ByteArray) (x7 : List Int) (x8 x9 x10 x11 : Int) (x12 : List Int), Wf24 x3 x4 x5 x6 x7 x12 ∧ b = rest24 a n w k v i o c t d x1 x2 x3 x4 x5 x6 x7 x8 x9 x10 x11 x12 ∧ cmd_Check x0 x1 x2 x3 x4 x5 x6 x7 x8 x9 x10 x11 x12 = some 0) := by
  unfold readGen
  obtain ⟨r0, e0, v0, a0, b0, c0, d0⟩ := rdN_tot (f := a) (e := e) hb hl
  obtain ⟨r1, e1, v1, a1, b1, c1, d1⟩ := rdN_tot (f := a) (e := e0) b0 (by omega)
  obtain ⟨r2, e2, v2, a2, b2, c2, d2⟩ := rdN_tot (f := i) (e := e1) b1 (by omega)
  obtain ⟨r3, e3, v3, a3, b3, c3, d3⟩ := rdN_tot (f := o) (e := e2) b2 (by omega)
  obtain ⟨r4, e4, v4, a4, b4, c4, d4⟩ := rdN_tot (f := c) (e := e3) b3 (by omega)
  obtain ⟨r5, e5, v5, a5, b5, c5, d5⟩ := rdN_tot (f := t) (e := e4) b4 (by omega)
  obtain ⟨r6, e6, v6, a6, b6, c6, s6, d6⟩ := rdW_tot (f := n) (e := e5) b5 (by omega)
  obtain ⟨r7, e7, v7, a7, b7, c7, s7, d7⟩ := rdW_tot (f := w) (e := e6) b6 (by omega)
  obtain ⟨r8, e8, v8, a8, b8, c8, s8, d8⟩ := rdI_tot (f := k) (e := e7) b7 (by omega)
  obtain ⟨r9, e9, ns, vs, a9, b9, c9, s9, t9, d9⟩ := rdV_tot (f := v) (e := e8) b8 (by omega)
  rw [a0, Option.bind_some]
  dsimp only
  rw [a1, Option.bind_some]
  dsimp only
  rw [a2, Option.bind_some]
  dsimp only
  rw [a3, Option.bind_some]
  dsimp only
  rw [a4, Option.bind_some]
  dsimp only
  rw [a5, Option.bind_some]
  dsimp only
  rw [a6, Option.bind_some]
  dsimp only
  rw [a7, Option.bind_some]
  dsimp only
  rw [a8, Option.bind_some]
  dsimp only
  rw [a9, Option.bind_some]
  dsimp only
  have chain : e9 = 0 → e = 0 ∧ b = eU a v0 ++ (eU a v1 ++ (eU i v2 ++ (eU o v3 ++ (eU c v4 ++ (eU t v5 ++ (eB n (bytesList v6) ++ (eB w (bytesList v7) ++ (eI k v8 ++ (eV v ns vs ++ r9))))))))) ∧ ns.length ≤ 64 ∧ vs.length ≤ 64 := fun h9 => by
    obtain ⟨k9, l9, m9, n9⟩ := d9 h9
    obtain ⟨k8, l8⟩ := d8 k9
    obtain ⟨k7, l7⟩ := d7 k8
    obtain ⟨k6, l6⟩ := d6 k7
    obtain ⟨k5, l5⟩ := d5 k6
    obtain ⟨k4, l4⟩ := d4 k5
    obtain ⟨k3, l3⟩ := d3 k4
    obtain ⟨k2, l2⟩ := d2 k3
    obtain ⟨k1, l1⟩ := d1 k2
    obtain ⟨k0, l0⟩ := d0 k1
    exact ⟨k0, by rw [l0, l1, l2, l3, l4, l5, l6, l7, l8, l9], m9, n9⟩
  cases d with
  | true =>
    obtain ⟨q, eq, tq, aq, bq, cq, sq, uq, dq⟩ := crb_tot (e := e9) b9 (by omega)
    rw [cond_true, aq, Option.bind_some]
    dsimp only
    rw [cloneB24 (by omega), Option.bind_some]
    obtain ⟨res, hres, hok⟩ := tail_tot (r := q) (e := eq) (x0 := x0) (x1 := v0) (x2 := v1) (x3 := v6) (x4 := v7) (x5 := v8) (x6 := ns) (x7 := vs) (x8 := v2) (x9 := v3) (x10 := v4) (x11 := v5) (x12 := tq) (fun h => by
      obtain ⟨k9, l9⟩ := dq h
      obtain ⟨_, _, m9, n9⟩ := chain k9
      exact ⟨_, cmd_Check_spec _ _ _ _ _ _ _ _ _ _ _ _ _ s6 s7 (by omega) (by omega) s9⟩)
    refine ⟨res, hres, fun h => ?_⟩
    obtain ⟨h1, h2, h3⟩ := hok h
    obtain ⟨k9, l9⟩ := dq h1
    obtain ⟨k0, l0, m9, n9⟩ := chain k9
    refine ⟨v0, v1, v6, v7, v8, ns, vs, v2, v3, v4, v5, tq, ⟨s6, s7, m9, n9, s9, s8, t9, sq⟩, ?_, h3⟩
    rw [l0, l9, h2, List.append_nil]; rfl
  | false =>
    rw [cond_false]
    obtain ⟨res, hres, hok⟩ := tail_tot (r := r9) (e := e9) (x0 := x0) (x1 := v0) (x2 := v1) (x3 := v6) (x4 := v7) (x5 := v8) (x6 := ns) (x7 := vs) (x8 := v2) (x9 := v3) (x10 := v4) (x11 := v5) (x12 := []) (fun h => by
      obtain ⟨_, _, m9, n9⟩ := chain h
      exact ⟨_, cmd_Check_spec _ _ _ _ _ _ _ _ _ _ _ _ _ s6 s7 (by omega) (by omega) s9⟩)
    refine ⟨res, hres, fun h => ?_⟩
    obtain ⟨h1, h2, h3⟩ := hok h
    obtain ⟨k0, l0, m9, n9⟩ := chain h1
    refine ⟨v0, v1, v6, v7, v8, ns, vs, v2, v3, v4, v5, [], ⟨s6, s7, m9, n9, s9, s8, t9, Bytes.nil⟩, ?_, h3⟩
    rw [l0, h2]; rfl

/-- What is told of a row that was read. -/
def Once24 (z : List Int) : Prop := ∃ res, cmd_Read z = some res ∧ (err24 res = 0 → ∃ (x0 x1 x2 : Int) (x3 x4 : ByteArray) (x5 : Int) (x6 : List ByteArray) (x7 : List Int) (x8 x9 x10 x11 : Int) (x12 : List Int), Wf24 x3 x4 x5 x6 x7 x12 ∧ z = encC x0 x1 x2 x3 x4 x5 x6 x7 x8 x9 x10 x11 x12 ∧ chkC x0 x1 x2 x3 x4 x5 x6 x7 x8 x9 x10 x11 x12 = 0)

theorem once_1 {r : List Int} (hr : Bytes r) (hl : r.length ≤ 140737488000000) : Once24 (1 :: r) := by
  obtain ⟨res, h1, h2⟩ := readGen_tot (a := false) (n := false) (w := false) (k := false) (v := false) (i := false) (o := false) (c := false) (t := true) (d := false) (e := 0) (x0 := 1) hr (Nat.le_trans hl (by decide))
  refine ⟨res, (cmd_Read_1 (cro_back (Nat.le_trans hl (by decide)) (by decide))).trans (by rw [beq_yes rfl, cond_true]; exact h1), fun h => ?_⟩
  obtain ⟨x1, x2, x3, x4, x5, x6, x7, x8, x9, x10, x11, x12, wf, e1, e2⟩ := h2 h
  refine ⟨1, x1, x2, x3, x4, x5, x6, x7, x8, x9, x10, x11, x12, wf, ?_, ?_⟩
  · rw [e1]; rfl
  · rw [cmd_Check_spec 1 x1 x2 x3 x4 x5 x6 x7 x8 x9 x10 x11 x12 wf.h3 wf.h4 (Nat.le_trans wf.hl (by decide)) (Nat.le_trans wf.hv (by decide)) wf.ht] at e2
    exact Option.some.inj e2

theorem once_2 {r : List Int} (hr : Bytes r) (hl : r.length ≤ 140737488000000) : Once24 (2 :: r) := by
  obtain ⟨res, h1, h2⟩ := readGen_tot (a := true) (n := false) (w := false) (k := false) (v := false) (i := false) (o := false) (c := false) (t := false) (d := true) (e := 0) (x0 := 2) hr (Nat.le_trans hl (by decide))
  refine ⟨res, (cmd_Read_2 (cro_back (Nat.le_trans hl (by decide)) (by decide))).trans (by rw [beq_yes rfl, cond_true]; exact h1), fun h => ?_⟩
  obtain ⟨x1, x2, x3, x4, x5, x6, x7, x8, x9, x10, x11, x12, wf, e1, e2⟩ := h2 h
  refine ⟨2, x1, x2, x3, x4, x5, x6, x7, x8, x9, x10, x11, x12, wf, ?_, ?_⟩
  · rw [e1]; rfl
  · rw [cmd_Check_spec 2 x1 x2 x3 x4 x5 x6 x7 x8 x9 x10 x11 x12 wf.h3 wf.h4 (Nat.le_trans wf.hl (by decide)) (Nat.le_trans wf.hv (by decide)) wf.ht] at e2
    exact Option.some.inj e2

theorem once_3 {r : List Int} (hr : Bytes r) (hl : r.length ≤ 140737488000000) : Once24 (3 :: r) := by
  obtain ⟨res, h1, h2⟩ := readGen_tot (a := true) (n := true) (w := false) (k := false) (v := true) (i := false) (o := false) (c := false) (t := false) (d := false) (e := 0) (x0 := 3) hr (Nat.le_trans hl (by decide))
  refine ⟨res, (cmd_Read_3 (cro_back (Nat.le_trans hl (by decide)) (by decide))).trans (by rw [beq_yes rfl, cond_true]; exact h1), fun h => ?_⟩
  obtain ⟨x1, x2, x3, x4, x5, x6, x7, x8, x9, x10, x11, x12, wf, e1, e2⟩ := h2 h
  refine ⟨3, x1, x2, x3, x4, x5, x6, x7, x8, x9, x10, x11, x12, wf, ?_, ?_⟩
  · rw [e1]; rfl
  · rw [cmd_Check_spec 3 x1 x2 x3 x4 x5 x6 x7 x8 x9 x10 x11 x12 wf.h3 wf.h4 (Nat.le_trans wf.hl (by decide)) (Nat.le_trans wf.hv (by decide)) wf.ht] at e2
    exact Option.some.inj e2

theorem once_4 {r : List Int} (hr : Bytes r) (hl : r.length ≤ 140737488000000) : Once24 (4 :: r) := by
  obtain ⟨res, h1, h2⟩ := readGen_tot (a := true) (n := true) (w := false) (k := true) (v := true) (i := false) (o := false) (c := true) (t := false) (d := false) (e := 0) (x0 := 4) hr (Nat.le_trans hl (by decide))
  refine ⟨res, (cmd_Read_4 (cro_back (Nat.le_trans hl (by decide)) (by decide))).trans (by rw [beq_yes rfl, cond_true]; exact h1), fun h => ?_⟩
  obtain ⟨x1, x2, x3, x4, x5, x6, x7, x8, x9, x10, x11, x12, wf, e1, e2⟩ := h2 h
  refine ⟨4, x1, x2, x3, x4, x5, x6, x7, x8, x9, x10, x11, x12, wf, ?_, ?_⟩
  · rw [e1]; rfl
  · rw [cmd_Check_spec 4 x1 x2 x3 x4 x5 x6 x7 x8 x9 x10 x11 x12 wf.h3 wf.h4 (Nat.le_trans wf.hl (by decide)) (Nat.le_trans wf.hv (by decide)) wf.ht] at e2
    exact Option.some.inj e2

theorem once_5 {r : List Int} (hr : Bytes r) (hl : r.length ≤ 140737488000000) : Once24 (5 :: r) := by
  obtain ⟨res, h1, h2⟩ := readGen_tot (a := true) (n := true) (w := true) (k := false) (v := false) (i := false) (o := false) (c := true) (t := true) (d := false) (e := 0) (x0 := 5) hr (Nat.le_trans hl (by decide))
  refine ⟨res, (cmd_Read_5 (cro_back (Nat.le_trans hl (by decide)) (by decide))).trans (by rw [beq_yes rfl, cond_true]; exact h1), fun h => ?_⟩
  obtain ⟨x1, x2, x3, x4, x5, x6, x7, x8, x9, x10, x11, x12, wf, e1, e2⟩ := h2 h
  refine ⟨5, x1, x2, x3, x4, x5, x6, x7, x8, x9, x10, x11, x12, wf, ?_, ?_⟩
  · rw [e1]; rfl
  · rw [cmd_Check_spec 5 x1 x2 x3 x4 x5 x6 x7 x8 x9 x10 x11 x12 wf.h3 wf.h4 (Nat.le_trans wf.hl (by decide)) (Nat.le_trans wf.hv (by decide)) wf.ht] at e2
    exact Option.some.inj e2

theorem once_6 {r : List Int} (hr : Bytes r) (hl : r.length ≤ 140737488000000) : Once24 (6 :: r) := by
  obtain ⟨res, h1, h2⟩ := readGen_tot (a := true) (n := false) (w := true) (k := false) (v := true) (i := true) (o := false) (c := false) (t := false) (d := false) (e := 0) (x0 := 6) hr (Nat.le_trans hl (by decide))
  refine ⟨res, (cmd_Read_6 (cro_back (Nat.le_trans hl (by decide)) (by decide))).trans (by rw [beq_yes rfl, cond_true]; exact h1), fun h => ?_⟩
  obtain ⟨x1, x2, x3, x4, x5, x6, x7, x8, x9, x10, x11, x12, wf, e1, e2⟩ := h2 h
  refine ⟨6, x1, x2, x3, x4, x5, x6, x7, x8, x9, x10, x11, x12, wf, ?_, ?_⟩
  · rw [e1]; rfl
  · rw [cmd_Check_spec 6 x1 x2 x3 x4 x5 x6 x7 x8 x9 x10 x11 x12 wf.h3 wf.h4 (Nat.le_trans wf.hl (by decide)) (Nat.le_trans wf.hv (by decide)) wf.ht] at e2
    exact Option.some.inj e2

theorem once_7 {r : List Int} (hr : Bytes r) (hl : r.length ≤ 140737488000000) : Once24 (7 :: r) := by
  obtain ⟨res, h1, h2⟩ := readGen_tot (a := true) (n := false) (w := true) (k := false) (v := false) (i := true) (o := false) (c := false) (t := false) (d := false) (e := 0) (x0 := 7) hr (Nat.le_trans hl (by decide))
  refine ⟨res, (cmd_Read_7 (cro_back (Nat.le_trans hl (by decide)) (by decide))).trans (by rw [beq_yes rfl, cond_true]; exact h1), fun h => ?_⟩
  obtain ⟨x1, x2, x3, x4, x5, x6, x7, x8, x9, x10, x11, x12, wf, e1, e2⟩ := h2 h
  refine ⟨7, x1, x2, x3, x4, x5, x6, x7, x8, x9, x10, x11, x12, wf, ?_, ?_⟩
  · rw [e1]; rfl
  · rw [cmd_Check_spec 7 x1 x2 x3 x4 x5 x6 x7 x8 x9 x10 x11 x12 wf.h3 wf.h4 (Nat.le_trans wf.hl (by decide)) (Nat.le_trans wf.hv (by decide)) wf.ht] at e2
    exact Option.some.inj e2

theorem once_8 {r : List Int} (hr : Bytes r) (hl : r.length ≤ 140737488000000) : Once24 (8 :: r) := by
  obtain ⟨res, h1, h2⟩ := readGen_tot (a := true) (n := false) (w := false) (k := false) (v := true) (i := true) (o := true) (c := false) (t := false) (d := false) (e := 0) (x0 := 8) hr (Nat.le_trans hl (by decide))
  refine ⟨res, (cmd_Read_8 (cro_back (Nat.le_trans hl (by decide)) (by decide))).trans (by rw [beq_yes rfl, cond_true]; exact h1), fun h => ?_⟩
  obtain ⟨x1, x2, x3, x4, x5, x6, x7, x8, x9, x10, x11, x12, wf, e1, e2⟩ := h2 h
  refine ⟨8, x1, x2, x3, x4, x5, x6, x7, x8, x9, x10, x11, x12, wf, ?_, ?_⟩
  · rw [e1]; rfl
  · rw [cmd_Check_spec 8 x1 x2 x3 x4 x5 x6 x7 x8 x9 x10 x11 x12 wf.h3 wf.h4 (Nat.le_trans wf.hl (by decide)) (Nat.le_trans wf.hv (by decide)) wf.ht] at e2
    exact Option.some.inj e2

theorem once_9 {r : List Int} (hr : Bytes r) (hl : r.length ≤ 140737488000000) : Once24 (9 :: r) := by
  obtain ⟨res, h1, h2⟩ := readGen_tot (a := true) (n := false) (w := false) (k := false) (v := false) (i := true) (o := false) (c := true) (t := false) (d := false) (e := 0) (x0 := 9) hr (Nat.le_trans hl (by decide))
  refine ⟨res, (cmd_Read_9 (cro_back (Nat.le_trans hl (by decide)) (by decide))).trans (by rw [beq_yes rfl, cond_true]; exact h1), fun h => ?_⟩
  obtain ⟨x1, x2, x3, x4, x5, x6, x7, x8, x9, x10, x11, x12, wf, e1, e2⟩ := h2 h
  refine ⟨9, x1, x2, x3, x4, x5, x6, x7, x8, x9, x10, x11, x12, wf, ?_, ?_⟩
  · rw [e1]; rfl
  · rw [cmd_Check_spec 9 x1 x2 x3 x4 x5 x6 x7 x8 x9 x10 x11 x12 wf.h3 wf.h4 (Nat.le_trans wf.hl (by decide)) (Nat.le_trans wf.hv (by decide)) wf.ht] at e2
    exact Option.some.inj e2

theorem once_10 {r : List Int} (hr : Bytes r) (hl : r.length ≤ 140737488000000) : Once24 (10 :: r) := by
  obtain ⟨res, h1, h2⟩ := readGen_tot (a := true) (n := false) (w := false) (k := false) (v := false) (i := true) (o := false) (c := false) (t := false) (d := false) (e := 0) (x0 := 10) hr (Nat.le_trans hl (by decide))
  refine ⟨res, (cmd_Read_10 (cro_back (Nat.le_trans hl (by decide)) (by decide))).trans (by rw [beq_yes rfl, cond_true]; exact h1), fun h => ?_⟩
  obtain ⟨x1, x2, x3, x4, x5, x6, x7, x8, x9, x10, x11, x12, wf, e1, e2⟩ := h2 h
  refine ⟨10, x1, x2, x3, x4, x5, x6, x7, x8, x9, x10, x11, x12, wf, ?_, ?_⟩
  · rw [e1]; rfl
  · rw [cmd_Check_spec 10 x1 x2 x3 x4 x5 x6 x7 x8 x9 x10 x11 x12 wf.h3 wf.h4 (Nat.le_trans wf.hl (by decide)) (Nat.le_trans wf.hv (by decide)) wf.ht] at e2
    exact Option.some.inj e2

theorem once_11 {r : List Int} (hr : Bytes r) (hl : r.length ≤ 140737488000000) : Once24 (11 :: r) := by
  obtain ⟨res, h1, h2⟩ := readGen_tot (a := false) (n := false) (w := false) (k := false) (v := false) (i := true) (o := false) (c := true) (t := false) (d := true) (e := 0) (x0 := 11) hr (Nat.le_trans hl (by decide))
  refine ⟨res, (cmd_Read_11 (cro_back (Nat.le_trans hl (by decide)) (by decide))).trans (by rw [beq_yes rfl, cond_true]; exact h1), fun h => ?_⟩
  obtain ⟨x1, x2, x3, x4, x5, x6, x7, x8, x9, x10, x11, x12, wf, e1, e2⟩ := h2 h
  refine ⟨11, x1, x2, x3, x4, x5, x6, x7, x8, x9, x10, x11, x12, wf, ?_, ?_⟩
  · rw [e1]; rfl
  · rw [cmd_Check_spec 11 x1 x2 x3 x4 x5 x6 x7 x8 x9 x10 x11 x12 wf.h3 wf.h4 (Nat.le_trans wf.hl (by decide)) (Nat.le_trans wf.hv (by decide)) wf.ht] at e2
    exact Option.some.inj e2

theorem once_12 {r : List Int} (hr : Bytes r) (hl : r.length ≤ 140737488000000) : Once24 (12 :: r) := by
  obtain ⟨res, h1, h2⟩ := readGen_tot (a := false) (n := false) (w := false) (k := false) (v := false) (i := true) (o := false) (c := true) (t := false) (d := false) (e := 0) (x0 := 12) hr (Nat.le_trans hl (by decide))
  refine ⟨res, (cmd_Read_12 (cro_back (Nat.le_trans hl (by decide)) (by decide))).trans (by rw [beq_yes rfl, cond_true]; exact h1), fun h => ?_⟩
  obtain ⟨x1, x2, x3, x4, x5, x6, x7, x8, x9, x10, x11, x12, wf, e1, e2⟩ := h2 h
  refine ⟨12, x1, x2, x3, x4, x5, x6, x7, x8, x9, x10, x11, x12, wf, ?_, ?_⟩
  · rw [e1]; rfl
  · rw [cmd_Check_spec 12 x1 x2 x3 x4 x5 x6 x7 x8 x9 x10 x11 x12 wf.h3 wf.h4 (Nat.le_trans wf.hl (by decide)) (Nat.le_trans wf.hv (by decide)) wf.ht] at e2
    exact Option.some.inj e2

theorem once_other {k : Int} {r : List Int} (hl : r.length ≤ 140737488000000) (hk : 0 ≤ k ∧ k ≤ 255) (hn : ¬ (1 ≤ k ∧ k ≤ 12)) : cmd_Read (k :: r) = some (Z24 3) := by
  rw [cmd_Read_eq, cro_back (by omega) hk, Option.bind_some]
  dsimp only
  rw [beq_no (show ¬ k = 1 by omega), cond_false, beq_no (show ¬ k = 2 by omega), cond_false, beq_no (show ¬ k = 3 by omega), cond_false, beq_no (show ¬ k = 4 by omega), cond_false, beq_no (show ¬ k = 5 by omega), cond_false, beq_no (show ¬ k = 6 by omega), cond_false,
    beq_no (show ¬ k = 7 by omega), cond_false, beq_no (show ¬ k = 8 by omega), cond_false, beq_no (show ¬ k = 9 by omega), cond_false, beq_no (show ¬ k = 10 by omega), cond_false, beq_no (show ¬ k = 11 by omega), cond_false, beq_no (show ¬ k = 12 by omega), cond_false]
  rfl
theorem cro_nil : cr_one [] 0 = some ([], 5, 0) := by
  rw [cr_one_eq, bne_no rfl, cond_false, command_one_eq]; rfl
theorem once_nil : cmd_Read [] = some (Z24 5) :=
  (cmd_Read_eq _).trans ((congrArg (fun o => Option.bind o _) cro_nil).trans (by kernel_rfl))
theorem once24 {z : List Int} (hz : Bytes z) (hl : z.length ≤ 140737488000000) : Once24 z := by
  cases z with
  | nil => exact ⟨_, once_nil, fun h => (by cases h)⟩
  | cons k r =>
    have hr : Bytes r := fun x h => hz x (List.mem_cons_of_mem _ h)
    have hk := hz k (List.mem_cons_self ..)
    have hl : r.length ≤ 140737488000000 := Nat.le_trans (Nat.le_succ _) hl
    by_cases h : 1 ≤ k ∧ k ≤ 12
    · exact kinds (P := fun k => Once24 (k :: r)) k h (once_1 hr hl) (once_2 hr hl) (once_3 hr hl) (once_4 hr hl) (once_5 hr hl) (once_6 hr hl) (once_7 hr hl) (once_8 hr hl) (once_9 hr hl) (once_10 hr hl) (once_11 hr hl) (once_12 hr hl)
    · exact ⟨_, once_other hl (by omega) h, fun h => (by cases h)⟩

theorem readGen_more {a n w k v i o c t d : Bool} {x1 x2 : Int} {x3 x4 : ByteArray} {x5 : Int} {x6 : List ByteArray} {x7 : List Int} {x8 x9 x10 x11 : Int} {x12 : List Int} (ok : Ok24 a n w k v i o c t d x1 x2 x3 x4 x5 x6 x7 x8 x9 x10 x11 x12) (h5 : -9223372036854775808 ≤ x5 ∧ x5 ≤ 9223372036854775807) (h7 : I64 x7) (h12 : Bytes x12) (x0 : Int) {y : List Int} (hy : Bytes y) (hyl : y.length ≤ 1000000) :
    readGen a n w k v i o c t d (rest24 a n w k v i o c t d x1 x2 x3 x4 x5 x6 x7 x8 x9 x10 x11 x12 ++ y) 0 x0 = tail24 y 0 x0 x1 x2 x3 x4 x5 x6 x7 x8 x9 x10 x11 x12 := by
  have n3 := name_small ok.c3
  have n4 := name_small ok.c4
  have g1 := eU_len i x8
  have g2 := eU_len o x9
  have g3 := eU_len c x10
  have g4 := eU_len t x11
  have g5 := eB_len n (bytesList x3)
  have g6 := eB_len w (bytesList x4)
  have g7 := eI_len k x5
  have g8 := eV_len ok.c6
  have g9 := eB_len d x12
  have g10 := ok.c13
  have g11 := eU_len a x2
  have b0 : Bytes (eB d x12 ++ y) := (eB_bytes h12 (by omega)).app hy
  have b1 := (eV_bytes ok.c6 h7).app b0
  have b2 := (eI_bytes (f := k) h5).app b1
  have b3 := (eW_bytes ok.c4).app b2
  have b4 := (eW_bytes ok.c3).app b3
  have b5 := (eU_bytes ok.c11 (by decide)).app b4
  have b6 := (eU_bytes ok.c10 (by decide)).app b5
  have b7 := (eU_bytes ok.c9 (by decide)).app b6
  have b8 := (eU_bytes ok.c8 (by decide)).app b7
  have b9 := (eU_bytes ok.c2 (by decide)).app b8
  unfold readGen rest24
  simp only [List.append_assoc]
  rw [rdN_back ok.c1 (by decide) b9 (by simp only [List.length_append]; omega), Option.bind_some]
  dsimp only
  rw [rdN_back ok.c2 (by decide) b8 (by simp only [List.length_append]; omega), Option.bind_some]
  dsimp only
  rw [rdN_back ok.c8 (by decide) b7 (by simp only [List.length_append]; omega), Option.bind_some]
  dsimp only
  rw [rdN_back ok.c9 (by decide) b6 (by simp only [List.length_append]; omega), Option.bind_some]
  dsimp only
  rw [rdN_back ok.c10 (by decide) b5 (by simp only [List.length_append]; omega), Option.bind_some]
  dsimp only
  rw [rdN_back ok.c11 (by decide) b4 (by simp only [List.length_append]; omega), Option.bind_some]
  dsimp only
  rw [rdW_back ok.c3 b3 (by simp only [List.length_append]; omega), Option.bind_some]
  dsimp only
  rw [rdW_back ok.c4 b2 (by simp only [List.length_append]; omega), Option.bind_some]
  dsimp only
  rw [rdI_back ok.c5 h5 b1 (by simp only [List.length_append]; omega), Option.bind_some]
  dsimp only
  rw [rdV_back ok.c6 h7 b0 (by simp only [List.length_append]; omega), Option.bind_some]
  dsimp only
  cases d with
  | true =>
    rw [cond_true]
    have hx : eB true x12 ++ y = encB x12 ++ y := rfl
    rw [hx, crb_back hy (by omega) h12 (by omega), Option.bind_some, cloneB24 (t := x12) (by omega), Option.bind_some]
  | false =>
    rw [ok.c12 rfl]; rfl
theorem tail_more {x0 x1 x2 : Int} {x3 x4 : ByteArray} {x5 : Int} {x6 : List ByteArray} {x7 : List Int} {x8 x9 x10 x11 : Int} {x12 : List Int} {y : List Int} (hy : y ≠ []) : tail24 y 0 x0 x1 x2 x3 x4 x5 x6 x7 x8 x9 x10 x11 x12 = some (Z24 3) := by
  unfold tail24
  have : 0 < y.length := List.length_pos_iff.mpr hy
  rw [beq_yes rfl, cond_true, Bool.cond_decide, if_pos (show ilen y > 0 by rw [ilen_eq]; omega)]

theorem more_1 {x1 x2 : Int} {x3 x4 : ByteArray} {x5 : Int} {x6 : List ByteArray} {x7 : List Int} {x8 x9 x10 x11 : Int} {x12 : List Int} {y : List Int} (hy : Bytes y) (hyl : y.length ≤ 1000000) (hne : y ≠ []) (h5 : -9223372036854775808 ≤ x5 ∧ x5 ≤ 9223372036854775807) (h7 : I64 x7) (h12 : Bytes x12) (h : chkC 1 x1 x2 x3 x4 x5 x6 x7 x8 x9 x10 x11 x12 = 0) : cmd_Read (encC 1 x1 x2 x3 x4 x5 x6 x7 x8 x9 x10 x11 x12 ++ y) = some (Z24 3) := by
  have e : encC 1 x1 x2 x3 x4 x5 x6 x7 x8 x9 x10 x11 x12 ++ y = 1 :: (rest24 false false false false false false false false true false x1 x2 x3 x4 x5 x6 x7 x8 x9 x10 x11 x12 ++ y) := rfl
  have hrl := rest_len (ok_1 h)
  have hl : (rest24 false false false false false false false false true false x1 x2 x3 x4 x5 x6 x7 x8 x9 x10 x11 x12 ++ y).length ≤ 140737488200000 := by rw [List.length_append]; omega
  rw [e, cmd_Read_1 (r := rest24 false false false false false false false false true false x1 x2 x3 x4 x5 x6 x7 x8 x9 x10 x11 x12 ++ y) (e := 0) (cro_back hl (by decide)), beq_yes rfl, cond_true, readGen_more (ok_1 h) h5 h7 h12 1 hy hyl]
  exact tail_more hne

theorem more_2 {x1 x2 : Int} {x3 x4 : ByteArray} {x5 : Int} {x6 : List ByteArray} {x7 : List Int} {x8 x9 x10 x11 : Int} {x12 : List Int} {y : List Int} (hy : Bytes y) (hyl : y.length ≤ 1000000) (hne : y ≠ []) (h5 : -9223372036854775808 ≤ x5 ∧ x5 ≤ 9223372036854775807) (h7 : I64 x7) (h12 : Bytes x12) (h : chkC 2 x1 x2 x3 x4 x5 x6 x7 x8 x9 x10 x11 x12 = 0) : cmd_Read (encC 2 x1 x2 x3 x4 x5 x6 x7 x8 x9 x10 x11 x12 ++ y) = some (Z24 3) := by
  have e : encC 2 x1 x2 x3 x4 x5 x6 x7 x8 x9 x10 x11 x12 ++ y = 2 :: (rest24 true false false false false false false false false true x1 x2 x3 x4 x5 x6 x7 x8 x9 x10 x11 x12 ++ y) := rfl
  have hrl := rest_len (ok_2 h)
  have hl : (rest24 true false false false false false false false false true x1 x2 x3 x4 x5 x6 x7 x8 x9 x10 x11 x12 ++ y).length ≤ 140737488200000 := by rw [List.length_append]; omega
  rw [e, cmd_Read_2 (r := rest24 true false false false false false false false false true x1 x2 x3 x4 x5 x6 x7 x8 x9 x10 x11 x12 ++ y) (e := 0) (cro_back hl (by decide)), beq_yes rfl, cond_true, readGen_more (ok_2 h) h5 h7 h12 2 hy hyl]
  exact tail_more hne

theorem more_3 {x1 x2 : Int} {x3 x4 : ByteArray} {x5 : Int} {x6 : List ByteArray} {x7 : List Int} {x8 x9 x10 x11 : Int} {x12 : List Int} {y : List Int} (hy : Bytes y) (hyl : y.length ≤ 1000000) (hne : y ≠ []) (h5 : -9223372036854775808 ≤ x5 ∧ x5 ≤ 9223372036854775807) (h7 : I64 x7) (h12 : Bytes x12) (h : chkC 3 x1 x2 x3 x4 x5 x6 x7 x8 x9 x10 x11 x12 = 0) : cmd_Read (encC 3 x1 x2 x3 x4 x5 x6 x7 x8 x9 x10 x11 x12 ++ y) = some (Z24 3) := by
  have e : encC 3 x1 x2 x3 x4 x5 x6 x7 x8 x9 x10 x11 x12 ++ y = 3 :: (rest24 true true false false true false false false false false x1 x2 x3 x4 x5 x6 x7 x8 x9 x10 x11 x12 ++ y) := rfl
  have hrl := rest_len (ok_3 h)
  have hl : (rest24 true true false false true false false false false false x1 x2 x3 x4 x5 x6 x7 x8 x9 x10 x11 x12 ++ y).length ≤ 140737488200000 := by rw [List.length_append]; omega
  rw [e, cmd_Read_3 (r := rest24 true true false false true false false false false false x1 x2 x3 x4 x5 x6 x7 x8 x9 x10 x11 x12 ++ y) (e := 0) (cro_back hl (by decide)), beq_yes rfl, cond_true, readGen_more (ok_3 h) h5 h7 h12 3 hy hyl]
  exact tail_more hne

theorem more_4 {x1 x2 : Int} {x3 x4 : ByteArray} {x5 : Int} {x6 : List ByteArray} {x7 : List Int} {x8 x9 x10 x11 : Int} {x12 : List Int} {y : List Int} (hy : Bytes y) (hyl : y.length ≤ 1000000) (hne : y ≠ []) (h5 : -9223372036854775808 ≤ x5 ∧ x5 ≤ 9223372036854775807) (h7 : I64 x7) (h12 : Bytes x12) (h : chkC 4 x1 x2 x3 x4 x5 x6 x7 x8 x9 x10 x11 x12 = 0) : cmd_Read (encC 4 x1 x2 x3 x4 x5 x6 x7 x8 x9 x10 x11 x12 ++ y) = some (Z24 3) := by
  have e : encC 4 x1 x2 x3 x4 x5 x6 x7 x8 x9 x10 x11 x12 ++ y = 4 :: (rest24 true true false true true false false true false false x1 x2 x3 x4 x5 x6 x7 x8 x9 x10 x11 x12 ++ y) := rfl
  have hrl := rest_len (ok_4 h)
  have hl : (rest24 true true false true true false false true false false x1 x2 x3 x4 x5 x6 x7 x8 x9 x10 x11 x12 ++ y).length ≤ 140737488200000 := by rw [List.length_append]; omega
  rw [e, cmd_Read_4 (r := rest24 true true false true true false false true false false x1 x2 x3 x4 x5 x6 x7 x8 x9 x10 x11 x12 ++ y) (e := 0) (cro_back hl (by decide)), beq_yes rfl, cond_true, readGen_more (ok_4 h) h5 h7 h12 4 hy hyl]
  exact tail_more hne

theorem more_5 {x1 x2 : Int} {x3 x4 : ByteArray} {x5 : Int} {x6 : List ByteArray} {x7 : List Int} {x8 x9 x10 x11 : Int} {x12 : List Int} {y : List Int} (hy : Bytes y) (hyl : y.length ≤ 1000000) (hne : y ≠ []) (h5 : -9223372036854775808 ≤ x5 ∧ x5 ≤ 9223372036854775807) (h7 : I64 x7) (h12 : Bytes x12) (h : chkC 5 x1 x2 x3 x4 x5 x6 x7 x8 x9 x10 x11 x12 = 0) : cmd_Read (encC 5 x1 x2 x3 x4 x5 x6 x7 x8 x9 x10 x11 x12 ++ y) = some (Z24 3) := by
  have e : encC 5 x1 x2 x3 x4 x5 x6 x7 x8 x9 x10 x11 x12 ++ y = 5 :: (rest24 true true true false false false false true true false x1 x2 x3 x4 x5 x6 x7 x8 x9 x10 x11 x12 ++ y) := rfl
  have hrl := rest_len (ok_5 h)
  have hl : (rest24 true true true false false false false true true false x1 x2 x3 x4 x5 x6 x7 x8 x9 x10 x11 x12 ++ y).length ≤ 140737488200000 := by rw [List.length_append]; omega
  rw [e, cmd_Read_5 (r := rest24 true true true false false false false true true false x1 x2 x3 x4 x5 x6 x7 x8 x9 x10 x11 x12 ++ y) (e := 0) (cro_back hl (by decide)), beq_yes rfl, cond_true, readGen_more (ok_5 h) h5 h7 h12 5 hy hyl]
  exact tail_more hne

theorem more_6 {x1 x2 : Int} {x3 x4 : ByteArray} {x5 : Int} {x6 : List ByteArray} {x7 : List Int} {x8 x9 x10 x11 : Int} {x12 : List Int} {y : List Int} (hy : Bytes y) (hyl : y.length ≤ 1000000) (hne : y ≠ []) (h5 : -9223372036854775808 ≤ x5 ∧ x5 ≤ 9223372036854775807) (h7 : I64 x7) (h12 : Bytes x12) (h : chkC 6 x1 x2 x3 x4 x5 x6 x7 x8 x9 x10 x11 x12 = 0) : cmd_Read (encC 6 x1 x2 x3 x4 x5 x6 x7 x8 x9 x10 x11 x12 ++ y) = some (Z24 3) := by
  have e : encC 6 x1 x2 x3 x4 x5 x6 x7 x8 x9 x10 x11 x12 ++ y = 6 :: (rest24 true false true false true true false false false false x1 x2 x3 x4 x5 x6 x7 x8 x9 x10 x11 x12 ++ y) := rfl
  have hrl := rest_len (ok_6 h)
  have hl : (rest24 true false true false true true false false false false x1 x2 x3 x4 x5 x6 x7 x8 x9 x10 x11 x12 ++ y).length ≤ 140737488200000 := by rw [List.length_append]; omega
  rw [e, cmd_Read_6 (r := rest24 true false true false true true false false false false x1 x2 x3 x4 x5 x6 x7 x8 x9 x10 x11 x12 ++ y) (e := 0) (cro_back hl (by decide)), beq_yes rfl, cond_true, readGen_more (ok_6 h) h5 h7 h12 6 hy hyl]
  exact tail_more hne

theorem more_7 {x1 x2 : Int} {x3 x4 : ByteArray} {x5 : Int} {x6 : List ByteArray} {x7 : List Int} {x8 x9 x10 x11 : Int} {x12 : List Int} {y : List Int} (hy : Bytes y) (hyl : y.length ≤ 1000000) (hne : y ≠ []) (h5 : -9223372036854775808 ≤ x5 ∧ x5 ≤ 9223372036854775807) (h7 : I64 x7) (h12 : Bytes x12) (h : chkC 7 x1 x2 x3 x4 x5 x6 x7 x8 x9 x10 x11 x12 = 0) : cmd_Read (encC 7 x1 x2 x3 x4 x5 x6 x7 x8 x9 x10 x11 x12 ++ y) = some (Z24 3) := by
  have e : encC 7 x1 x2 x3 x4 x5 x6 x7 x8 x9 x10 x11 x12 ++ y = 7 :: (rest24 true false true false false true false false false false x1 x2 x3 x4 x5 x6 x7 x8 x9 x10 x11 x12 ++ y) := rfl
  have hrl := rest_len (ok_7 h)
  have hl : (rest24 true false true false false true false false false false x1 x2 x3 x4 x5 x6 x7 x8 x9 x10 x11 x12 ++ y).length ≤ 140737488200000 := by rw [List.length_append]; omega
  rw [e, cmd_Read_7 (r := rest24 true false true false false true false false false false x1 x2 x3 x4 x5 x6 x7 x8 x9 x10 x11 x12 ++ y) (e := 0) (cro_back hl (by decide)), beq_yes rfl, cond_true, readGen_more (ok_7 h) h5 h7 h12 7 hy hyl]
  exact tail_more hne

theorem more_8 {x1 x2 : Int} {x3 x4 : ByteArray} {x5 : Int} {x6 : List ByteArray} {x7 : List Int} {x8 x9 x10 x11 : Int} {x12 : List Int} {y : List Int} (hy : Bytes y) (hyl : y.length ≤ 1000000) (hne : y ≠ []) (h5 : -9223372036854775808 ≤ x5 ∧ x5 ≤ 9223372036854775807) (h7 : I64 x7) (h12 : Bytes x12) (h : chkC 8 x1 x2 x3 x4 x5 x6 x7 x8 x9 x10 x11 x12 = 0) : cmd_Read (encC 8 x1 x2 x3 x4 x5 x6 x7 x8 x9 x10 x11 x12 ++ y) = some (Z24 3) := by
  have e : encC 8 x1 x2 x3 x4 x5 x6 x7 x8 x9 x10 x11 x12 ++ y = 8 :: (rest24 true false false false true true true false false false x1 x2 x3 x4 x5 x6 x7 x8 x9 x10 x11 x12 ++ y) := rfl
  have hrl := rest_len (ok_8 h)
  have hl : (rest24 true false false false true true true false false false x1 x2 x3 x4 x5 x6 x7 x8 x9 x10 x11 x12 ++ y).length ≤ 140737488200000 := by rw [List.length_append]; omega
  rw [e, cmd_Read_8 (r := rest24 true false false false true true true false false false x1 x2 x3 x4 x5 x6 x7 x8 x9 x10 x11 x12 ++ y) (e := 0) (cro_back hl (by decide)), beq_yes rfl, cond_true, readGen_more (ok_8 h) h5 h7 h12 8 hy hyl]
  exact tail_more hne

theorem more_9 {x1 x2 : Int} {x3 x4 : ByteArray} {x5 : Int} {x6 : List ByteArray} {x7 : List Int} {x8 x9 x10 x11 : Int} {x12 : List Int} {y : List Int} (hy : Bytes y) (hyl : y.length ≤ 1000000) (hne : y ≠ []) (h5 : -9223372036854775808 ≤ x5 ∧ x5 ≤ 9223372036854775807) (h7 : I64 x7) (h12 : Bytes x12) (h : chkC 9 x1 x2 x3 x4 x5 x6 x7 x8 x9 x10 x11 x12 = 0) : cmd_Read (encC 9 x1 x2 x3 x4 x5 x6 x7 x8 x9 x10 x11 x12 ++ y) = some (Z24 3) := by
  have e : encC 9 x1 x2 x3 x4 x5 x6 x7 x8 x9 x10 x11 x12 ++ y = 9 :: (rest24 true false false false false true false true false false x1 x2 x3 x4 x5 x6 x7 x8 x9 x10 x11 x12 ++ y) := rfl
  have hrl := rest_len (ok_9 h)
  have hl : (rest24 true false false false false true false true false false x1 x2 x3 x4 x5 x6 x7 x8 x9 x10 x11 x12 ++ y).length ≤ 140737488200000 := by rw [List.length_append]; omega
  rw [e, cmd_Read_9 (r := rest24 true false false false false true false true false false x1 x2 x3 x4 x5 x6 x7 x8 x9 x10 x11 x12 ++ y) (e := 0) (cro_back hl (by decide)), beq_yes rfl, cond_true, readGen_more (ok_9 h) h5 h7 h12 9 hy hyl]
  exact tail_more hne

theorem more_10 {x1 x2 : Int} {x3 x4 : ByteArray} {x5 : Int} {x6 : List ByteArray} {x7 : List Int} {x8 x9 x10 x11 : Int} {x12 : List Int} {y : List Int} (hy : Bytes y) (hyl : y.length ≤ 1000000) (hne : y ≠ []) (h5 : -9223372036854775808 ≤ x5 ∧ x5 ≤ 9223372036854775807) (h7 : I64 x7) (h12 : Bytes x12) (h : chkC 10 x1 x2 x3 x4 x5 x6 x7 x8 x9 x10 x11 x12 = 0) : cmd_Read (encC 10 x1 x2 x3 x4 x5 x6 x7 x8 x9 x10 x11 x12 ++ y) = some (Z24 3) := by
  have e : encC 10 x1 x2 x3 x4 x5 x6 x7 x8 x9 x10 x11 x12 ++ y = 10 :: (rest24 true false false false false true false false false false x1 x2 x3 x4 x5 x6 x7 x8 x9 x10 x11 x12 ++ y) := rfl
  have hrl := rest_len (ok_10 h)
  have hl : (rest24 true false false false false true false false false false x1 x2 x3 x4 x5 x6 x7 x8 x9 x10 x11 x12 ++ y).length ≤ 140737488200000 := by rw [List.length_append]; omega
  rw [e, cmd_Read_10 (r := rest24 true false false false false true false false false false x1 x2 x3 x4 x5 x6 x7 x8 x9 x10 x11 x12 ++ y) (e := 0) (cro_back hl (by decide)), beq_yes rfl, cond_true, readGen_more (ok_10 h) h5 h7 h12 10 hy hyl]
  exact tail_more hne

theorem more_11 {x1 x2 : Int} {x3 x4 : ByteArray} {x5 : Int} {x6 : List ByteArray} {x7 : List Int} {x8 x9 x10 x11 : Int} {x12 : List Int} {y : List Int} (hy : Bytes y) (hyl : y.length ≤ 1000000) (hne : y ≠ []) (h5 : -9223372036854775808 ≤ x5 ∧ x5 ≤ 9223372036854775807) (h7 : I64 x7) (h12 : Bytes x12) (h : chkC 11 x1 x2 x3 x4 x5 x6 x7 x8 x9 x10 x11 x12 = 0) : cmd_Read (encC 11 x1 x2 x3 x4 x5 x6 x7 x8 x9 x10 x11 x12 ++ y) = some (Z24 3) := by
  have e : encC 11 x1 x2 x3 x4 x5 x6 x7 x8 x9 x10 x11 x12 ++ y = 11 :: (rest24 false false false false false true false true false true x1 x2 x3 x4 x5 x6 x7 x8 x9 x10 x11 x12 ++ y) := rfl
  have hrl := rest_len (ok_11 h)
  have hl : (rest24 false false false false false true false true false true x1 x2 x3 x4 x5 x6 x7 x8 x9 x10 x11 x12 ++ y).length ≤ 140737488200000 := by rw [List.length_append]; omega
  rw [e, cmd_Read_11 (r := rest24 false false false false false true false true false true x1 x2 x3 x4 x5 x6 x7 x8 x9 x10 x11 x12 ++ y) (e := 0) (cro_back hl (by decide)), beq_yes rfl, cond_true, readGen_more (ok_11 h) h5 h7 h12 11 hy hyl]
  exact tail_more hne

theorem more_12 {x1 x2 : Int} {x3 x4 : ByteArray} {x5 : Int} {x6 : List ByteArray} {x7 : List Int} {x8 x9 x10 x11 : Int} {x12 : List Int} {y : List Int} (hy : Bytes y) (hyl : y.length ≤ 1000000) (hne : y ≠ []) (h5 : -9223372036854775808 ≤ x5 ∧ x5 ≤ 9223372036854775807) (h7 : I64 x7) (h12 : Bytes x12) (h : chkC 12 x1 x2 x3 x4 x5 x6 x7 x8 x9 x10 x11 x12 = 0) : cmd_Read (encC 12 x1 x2 x3 x4 x5 x6 x7 x8 x9 x10 x11 x12 ++ y) = some (Z24 3) := by
  have e : encC 12 x1 x2 x3 x4 x5 x6 x7 x8 x9 x10 x11 x12 ++ y = 12 :: (rest24 false false false false false true false true false false x1 x2 x3 x4 x5 x6 x7 x8 x9 x10 x11 x12 ++ y) := rfl
  have hrl := rest_len (ok_12 h)
  have hl : (rest24 false false false false false true false true false false x1 x2 x3 x4 x5 x6 x7 x8 x9 x10 x11 x12 ++ y).length ≤ 140737488200000 := by rw [List.length_append]; omega
  rw [e, cmd_Read_12 (r := rest24 false false false false false true false true false false x1 x2 x3 x4 x5 x6 x7 x8 x9 x10 x11 x12 ++ y) (e := 0) (cro_back hl (by decide)), beq_yes rfl, cond_true, readGen_more (ok_12 h) h5 h7 h12 12 hy hyl]
  exact tail_more hne

theorem cmd_more {x0 x1 x2 : Int} {x3 x4 : ByteArray} {x5 : Int} {x6 : List ByteArray} {x7 : List Int} {x8 x9 x10 x11 : Int} {x12 : List Int} {y : List Int} (hy : Bytes y) (hyl : y.length ≤ 1000000) (hne : y ≠ []) (h5 : -9223372036854775808 ≤ x5 ∧ x5 ≤ 9223372036854775807) (h7 : I64 x7) (h12 : Bytes x12) (h : chkC x0 x1 x2 x3 x4 x5 x6 x7 x8 x9 x10 x11 x12 = 0) : cmd_Read (encC x0 x1 x2 x3 x4 x5 x6 x7 x8 x9 x10 x11 x12 ++ y) = some (Z24 3) :=
  kinds (P := fun x0 => chkC x0 x1 x2 x3 x4 x5 x6 x7 x8 x9 x10 x11 x12 = 0 → cmd_Read (encC x0 x1 x2 x3 x4 x5 x6 x7 x8 x9 x10 x11 x12 ++ y) = some (Z24 3)) x0 (kind_in h)
      (more_1 hy hyl hne h5 h7 h12) (more_2 hy hyl hne h5 h7 h12) (more_3 hy hyl hne h5 h7 h12) (more_4 hy hyl hne h5 h7 h12) (more_5 hy hyl hne h5 h7 h12) (more_6 hy hyl hne h5 h7 h12) (more_7 hy hyl hne h5 h7 h12) (more_8 hy hyl hne h5 h7 h12) (more_9 hy hyl hne h5 h7 h12) (more_10 hy hyl hne h5 h7 h12) (more_11 hy hyl hne h5 h7 h12) (more_12 hy hyl hne h5 h7 h12) h

theorem encC_facts {x0 x1 x2 : Int} {x3 x4 : ByteArray} {x5 : Int} {x6 : List ByteArray} {x7 : List Int} {x8 x9 x10 x11 : Int} {x12 : List Int} (h5 : -9223372036854775808 ≤ x5 ∧ x5 ≤ 9223372036854775807) (h7 : I64 x7) (h12 : Bytes x12) (h : chkC x0 x1 x2 x3 x4 x5 x6 x7 x8 x9 x10 x11 x12 = 0) : Bytes (encC x0 x1 x2 x3 x4 x5 x6 x7 x8 x9 x10 x11 x12) ∧ (encC x0 x1 x2 x3 x4 x5 x6 x7 x8 x9 x10 x11 x12).length ≤ 100001 ∧ 0 < (encC x0 x1 x2 x3 x4 x5 x6 x7 x8 x9 x10 x11 x12).length := by
  have hk := kind_in h
  have ok := ok_all hk h
  have g10 := ok.c13
  refine ⟨fun x hx => ?_, Nat.succ_le_succ (rest_len ok), Nat.succ_pos _⟩
  rcases List.mem_cons.mp hx with rfl | hx
  · omega
  · exact (show Bytes (rest24 (hs x0 1) (hs x0 2) (hs x0 4) (hs x0 8) (hs x0 16) (hs x0 32) (hs x0 64) (hs x0 128) (hs x0 256) (hs x0 512) x1 x2 x3 x4 x5 x6 x7 x8 x9 x10 x11 x12) from (eU_bytes ok.c1 (by decide)).app ((eU_bytes ok.c2 (by decide)).app ((eU_bytes ok.c8 (by decide)).app ((eU_bytes ok.c9 (by decide)).app ((eU_bytes ok.c10 (by decide)).app ((eU_bytes ok.c11 (by decide)).app
      ((eW_bytes ok.c3).app ((eW_bytes ok.c4).app ((eI_bytes h5).app ((eV_bytes ok.c6 h7).app (eB_bytes h12 (by omega))))))))))))  x hx
/-- Cut short it is none. -/
theorem cmd_cut {x0 x1 x2 : Int} {x3 x4 : ByteArray} {x5 : Int} {x6 : List ByteArray} {x7 : List Int} {x8 x9 x10 x11 : Int} {x12 : List Int} (h3 : x3.size ≤ 140737488351232) (h4 : x4.size ≤ 140737488351232) (hl : x6.length ≤ 9223372036854775806) (hv : x7.length ≤ 9223372036854775806) (ht : Txt x6) (h5 : -9223372036854775808 ≤ x5 ∧ x5 ≤ 9223372036854775807) (h7 : I64 x7) (h12 : Bytes x12) (h : chkC x0 x1 x2 x3 x4 x5 x6 x7 x8 x9 x10 x11 x12 = 0) (j : Nat) (hj : j < (encC x0 x1 x2 x3 x4 x5 x6 x7 x8 x9 x10 x11 x12).length) :
    ∃ res, cmd_Read ((encC x0 x1 x2 x3 x4 x5 x6 x7 x8 x9 x10 x11 x12).take j) = some res ∧ err24 res ≠ 0 := by
  obtain ⟨hb, hle, _⟩ := encC_facts h5 h7 h12 h
  obtain ⟨res, h1, h2⟩ := once24 (z := (encC x0 x1 x2 x3 x4 x5 x6 x7 x8 x9 x10 x11 x12).take j) (fun x hx => hb x (List.mem_of_mem_take hx)) (by rw [List.length_take]; omega)
  refine ⟨res, h1, fun he => ?_⟩
  obtain ⟨z0, z1, z2, z3, z4, z5, z6, z7, z8, z9, z10, z11, z12, wf, e1, e2⟩ := h2 he
  have hd : (encC x0 x1 x2 x3 x4 x5 x6 x7 x8 x9 x10 x11 x12).drop j ≠ [] := fun hn => by
    have := congrArg List.length hn
    rw [List.length_drop] at this
    simp only [List.length_nil] at this
    omega
  have m := cmd_more (y := (encC x0 x1 x2 x3 x4 x5 x6 x7 x8 x9 x10 x11 x12).drop j) (fun x hx => hb x (List.mem_of_mem_drop hx)) (by rw [List.length_drop]; omega) hd wf.h5 wf.h7 wf.h12 e2
  rw [← e1, List.take_append_drop, cmd_read_back h3 h4 hl hv ht h5 h7 h12 h] at m
  have := congrArg (fun q => Option.map err24 q) m
  exact absurd this (by
    show ¬ (some (0 : Int) = some 3)
    decide)

theorem apart_law (x0 x1 x2 : Int) (x3 x4 : ByteArray) (x5 : Int) (x6 : List ByteArray) (x7 : List Int) (x8 x9 x10 x11 : Int) (x12 : List Int) (x13 : Int) (x14 : List Int) (ht : Txt x6) (h5 : -9223372036854775808 ≤ x5 ∧ x5 ≤ 9223372036854775807) (h7 : I64 x7) (h12 : Bytes x12) (h14 : Bytes x14) : law24_CommandApart x0 x1 x2 x3 x4 x5 x6 x7 x8 x9 x10 x11 x12 x13 x14 = some true := by
  obtain ⟨b, hb, hl⟩ := lite24 x0 x1 x2 x3 x4 x5 x6 x7 x8 x9 x10 x11 x12
  rw [law24_CommandApart_eq, hb, Option.bind_some, works24]
  cases b with
  | false => rfl
  | true =>
    obtain ⟨l1, l2, l3, l4, l5⟩ := hl rfl
    rw [Bool.not_true, cond_false, ilen_eq, Bool.cond_decide]
    by_cases g1 : (x14.length : Int) > 500
    · rw [if_pos g1]; rfl
    rw [if_neg g1]
    by_cases g2 : x14 = []
    · subst g2; rfl
    rw [beq_no (show ¬ (x14.length : Int) = 0 from fun h => g2 (List.length_eq_zero_iff.mp (by omega))), cond_false]
    by_cases hc : chkC x0 x1 x2 x3 x4 x5 x6 x7 x8 x9 x10 x11 x12 = 0
    · obtain ⟨p1, p2, p3⟩ := encC_facts h5 h7 h12 hc
      obtain ⟨res, q1, q2⟩ : ∃ res, cmd_Read ((encC x0 x1 x2 x3 x4 x5 x6 x7 x8 x9 x10 x11 x12).take ((x13 % 18446744073709551616) % ((encC x0 x1 x2 x3 x4 x5 x6 x7 x8 x9 x10 x11 x12).length : Int)).toNat) = some res ∧ err24 res ≠ 0 :=
        cmd_cut (by omega) (by omega) (by omega) (by omega) ht h5 h7 h12 hc _ (by
          have := Int.emod_lt_of_pos (x13 % 18446744073709551616) (show (0 : Int) < ((encC x0 x1 x2 x3 x4 x5 x6 x7 x8 x9 x10 x11 x12).length : Int) by omega)
          have := Int.emod_nonneg (x13 % 18446744073709551616) (show ((encC x0 x1 x2 x3 x4 x5 x6 x7 x8 x9 x10 x11 x12).length : Int) ≠ 0 by omega)
          omega)
      rw [cmd_put_yes (by omega) (by omega) (by omega) (by omega) ht h5 h7 hc, Option.bind_some]
      dsimp only
      rw [bne_no rfl, cond_false]
      have more := cmd_more h14 (by omega) g2 h5 h7 h12 hc
      generalize encC x0 x1 x2 x3 x4 x5 x6 x7 x8 x9 x10 x11 x12 = z at *
      have m1 := Int.emod_nonneg x13 (show (18446744073709551616 : Int) ≠ 0 by decide)
      have m2 := Int.emod_lt_of_pos x13 (show (0 : Int) < 18446744073709551616 by decide)
      have k1 := Int.emod_nonneg (x13 % 18446744073709551616) (show ((z.length : Nat) : Int) ≠ 0 by omega)
      have k2 := Int.emod_lt_of_pos (x13 % 18446744073709551616) (show (0 : Int) < ((z.length : Nat) : Int) by omega)
      rw [ilen_eq, beq_no (show ¬ (z.length : Int) = 0 by omega), cond_false, Bool.cond_decide, wrap_u64 (x := (z.length : Int)) (by omega) (by omega), if_neg (by omega), show IntKind.u64.wrap x13 = x13 % 18446744073709551616 from wrap_u64',
        Int.tmod_eq_emod_of_nonneg m1, wrap_i64 (x := (x13 % 18446744073709551616) % (z.length : Int)) (by omega) (by omega)]
      generalize (x13 % 18446744073709551616) % (z.length : Int) = j at *
      rw [Bool.cond_decide, if_pos k1, Bool.cond_decide, if_pos (by omega), show (Int.toNat 0 + (j.toNat - Int.toNat 0)).ble z.length = true from Nat.ble_eq.mpr (by show 0 + (j.toNat - 0) ≤ z.length; omega), cond_true]
      rw [show List.take (j.toNat - Int.toNat 0) (List.drop (Int.toNat 0) z) = z.take j.toNat from rfl, q1, Option.bind_some, Bool.cond_decide, if_pos (show _ ≤ room by simp only [ilen_eq, room_eq]; omega), more, Option.bind_some]
      rw [show (res.2.2.2.2.2.2.2.2.2.2.2.2.2 != 0) = true from bne_yes q2, cond_true]
      rfl
    · rw [cmd_put_no (by omega) (by omega) (by omega) (by omega) ht hc, Option.bind_some]
      dsimp only
      rw [bne_yes hc, cond_true]; rfl
end Go.Proofs.Ytgaihonnbdhbmaa.PE
