/- strconv.Itoa and strconv.FormatInt at base 10, by the library's contracts. -/
import Derived.Test.YtdbenenonfldkaaDoorEFun
import Derived.Shelf.Strconv.Itoa4
import Derived.Lib.LaidTab
import Derived.KernelRfl
namespace Go.Proofs.YtdbenenonfldkaaDoor.PE
set_option linter.unusedVariables false
open Go Go.RowKit Go.Proofs

def lays173_ren : Go.Shelf.Ren := ⟨fun | 173 => 71 | 246 => 86 | 283 => 89 | 284 => 90 | 285 => 91 | 286 => 92 | 129 => 94 | 317 => 93 | 318 => 95 | 319 => 96 | 320 => 97 | 337 => 98 | 338 => 99 | n => n, fun | 2 => 2 | 3 => 3 | 9 => 9 | 4 => 4 | 171 => 135 | 0 => 0 | 53 => 92 | 37 => 36 | 5 => 5 | 173 => 137 | 212 => 140 | 51 => 103 | 20 => 20 | 213 => 141 | 46 => 121 | 232 => 144 | 233 => 145 | n => n, fun | 17 => 0 | 18 => 1 | 19 => 2 | n => n⟩
theorem lays173 : Go.Proofs.LaysM.n173 Tryd.prog lays173_ren where
  mixed := by kernel_rfl
  f129 := Tryd.func94.trans (congrArg some (by kernel_rfl))
  f173 := Tryd.func71.trans (congrArg some (by kernel_rfl))
  f246 := Tryd.func86.trans (congrArg some (by kernel_rfl))
  f283 := Tryd.func89.trans (congrArg some (by kernel_rfl))
  f284 := Tryd.func90.trans (congrArg some (by kernel_rfl))
  f285 := Tryd.func91.trans (congrArg some (by kernel_rfl))
  f286 := Tryd.func92.trans (congrArg some (by kernel_rfl))
  f317 := Tryd.func93.trans (congrArg some (by kernel_rfl))
  f318 := Tryd.func95.trans (congrArg some (by kernel_rfl))
  f319 := Tryd.func96.trans (congrArg some (by kernel_rfl))
  f320 := Tryd.func97.trans (congrArg some (by kernel_rfl))
  f337 := Tryd.func98.trans (congrArg some (by kernel_rfl))
  f338 := Tryd.func99.trans (congrArg some (by kernel_rfl))
  t0 := Tryd.underlying0
  a0 := Tryd.isAgg0
  z0 := Tryd.sizeOf0
  v0 := Tryd.zeroValue0
  t2 := Tryd.underlying2
  a2 := Tryd.isAgg2
  z2 := Tryd.sizeOf2
  v2 := Tryd.zeroValue2
  t3 := Tryd.underlying3
  a3 := Tryd.isAgg3
  z3 := Tryd.sizeOf3
  v3 := Tryd.zeroValue3
  t4 := Tryd.underlying4
  a4 := Tryd.isAgg4
  z4 := Tryd.sizeOf4
  v4 := Tryd.zeroValue4
  t5 := Tryd.underlying5
  a5 := Tryd.isAgg5
  z5 := Tryd.sizeOf5
  v5 := Tryd.zeroValue5
  t9 := Tryd.underlying9
  a9 := Tryd.isAgg9
  z9 := Tryd.sizeOf9
  v9 := Tryd.zeroValue9
  t20 := Tryd.underlying20
  a20 := Tryd.isAgg20
  z20 := Tryd.sizeOf20
  v20 := Tryd.zeroValue20
  t37 := Tryd.underlying36
  a37 := Tryd.isAgg36
  z37 := Tryd.sizeOf36
  v37 := Tryd.zeroValue36
  t46 := Tryd.underlying121
  a46 := Tryd.isAgg121
  z46 := Tryd.sizeOf121
  v46 := Tryd.zeroValue121
  t51 := Tryd.underlying103
  a51 := Tryd.isAgg103
  z51 := Tryd.sizeOf103
  v51 := Tryd.zeroValue103
  t53 := Tryd.underlying92
  a53 := Tryd.isAgg92
  z53 := Tryd.sizeOf92
  v53 := Tryd.zeroValue92
  t171 := Tryd.underlying135
  a171 := Tryd.isAgg135
  z171 := Tryd.sizeOf135
  v171 := Tryd.zeroValue135
  t173 := Tryd.underlying137
  a173 := Tryd.isAgg137
  z173 := Tryd.sizeOf137
  v173 := Tryd.zeroValue137
  t212 := Tryd.underlying140
  a212 := Tryd.isAgg140
  z212 := Tryd.sizeOf140
  v212 := Tryd.zeroValue140
  t213 := Tryd.underlying141
  a213 := Tryd.isAgg141
  z213 := Tryd.sizeOf141
  t232 := Tryd.underlying144
  a232 := Tryd.isAgg144
  z232 := Tryd.sizeOf144
  v232 := Tryd.zeroValue144
  t233 := Tryd.underlying145
  a233 := Tryd.isAgg145
  z233 := Tryd.sizeOf145
  v233 := Tryd.zeroValue145
  g17 := by kernel_rfl
  g18 := by kernel_rfl
  g19 := by kernel_rfl
  i0 := by kernel_rfl
  i2 := by kernel_rfl
  i3 := by kernel_rfl
  i4 := by kernel_rfl
  i5 := by kernel_rfl
  i9 := by kernel_rfl
  i20 := by kernel_rfl
  i37 := by kernel_rfl
  i46 := by kernel_rfl
  i51 := by kernel_rfl
  i53 := by kernel_rfl
  i171 := by kernel_rfl
  i173 := by kernel_rfl
  i212 := by kernel_rfl
  i232 := by kernel_rfl
  i233 := by kernel_rfl
  m17 := by kernel_rfl
  m18 := by kernel_rfl
  m19 := by kernel_rfl
def lays171_ren : Go.Shelf.Ren := ⟨fun | 171 => 43 | 243 => 70 | 246 => 86 | 283 => 89 | 284 => 90 | 285 => 91 | 286 => 92 | 129 => 94 | 317 => 93 | 318 => 95 | 319 => 96 | 320 => 97 | 337 => 98 | 338 => 99 | n => n, fun | 3 => 3 | 9 => 9 | 2 => 2 | 4 => 4 | 171 => 135 | 0 => 0 | 53 => 92 | 37 => 36 | 5 => 5 | 173 => 137 | 212 => 140 | 51 => 103 | 20 => 20 | 213 => 141 | 46 => 121 | 232 => 144 | 233 => 145 | n => n, fun | 17 => 0 | 18 => 1 | 19 => 2 | n => n⟩
theorem lays171 : Go.Proofs.LaysM.n171 Tryd.prog lays171_ren where
  mixed := by kernel_rfl
  f129 := Tryd.func94.trans (congrArg some (by kernel_rfl))
  f171 := Tryd.func43.trans (congrArg some (by kernel_rfl))
  f243 := Tryd.func70.trans (congrArg some (by kernel_rfl))
  f246 := Tryd.func86.trans (congrArg some (by kernel_rfl))
  f283 := Tryd.func89.trans (congrArg some (by kernel_rfl))
  f284 := Tryd.func90.trans (congrArg some (by kernel_rfl))
  f285 := Tryd.func91.trans (congrArg some (by kernel_rfl))
  f286 := Tryd.func92.trans (congrArg some (by kernel_rfl))
  f317 := Tryd.func93.trans (congrArg some (by kernel_rfl))
  f318 := Tryd.func95.trans (congrArg some (by kernel_rfl))
  f319 := Tryd.func96.trans (congrArg some (by kernel_rfl))
  f320 := Tryd.func97.trans (congrArg some (by kernel_rfl))
  f337 := Tryd.func98.trans (congrArg some (by kernel_rfl))
  f338 := Tryd.func99.trans (congrArg some (by kernel_rfl))
  t0 := Tryd.underlying0
  a0 := Tryd.isAgg0
  z0 := Tryd.sizeOf0
  v0 := Tryd.zeroValue0
  t2 := Tryd.underlying2
  a2 := Tryd.isAgg2
  z2 := Tryd.sizeOf2
  v2 := Tryd.zeroValue2
  t3 := Tryd.underlying3
  a3 := Tryd.isAgg3
  z3 := Tryd.sizeOf3
  v3 := Tryd.zeroValue3
  t4 := Tryd.underlying4
  a4 := Tryd.isAgg4
  z4 := Tryd.sizeOf4
  v4 := Tryd.zeroValue4
  t5 := Tryd.underlying5
  a5 := Tryd.isAgg5
  z5 := Tryd.sizeOf5
  v5 := Tryd.zeroValue5
  t9 := Tryd.underlying9
  a9 := Tryd.isAgg9
  z9 := Tryd.sizeOf9
  v9 := Tryd.zeroValue9
  t20 := Tryd.underlying20
  a20 := Tryd.isAgg20
  z20 := Tryd.sizeOf20
  v20 := Tryd.zeroValue20
  t37 := Tryd.underlying36
  a37 := Tryd.isAgg36
  z37 := Tryd.sizeOf36
  v37 := Tryd.zeroValue36
  t46 := Tryd.underlying121
  a46 := Tryd.isAgg121
  z46 := Tryd.sizeOf121
  v46 := Tryd.zeroValue121
  t51 := Tryd.underlying103
  a51 := Tryd.isAgg103
  z51 := Tryd.sizeOf103
  v51 := Tryd.zeroValue103
  t53 := Tryd.underlying92
  a53 := Tryd.isAgg92
  z53 := Tryd.sizeOf92
  v53 := Tryd.zeroValue92
  t171 := Tryd.underlying135
  a171 := Tryd.isAgg135
  z171 := Tryd.sizeOf135
  v171 := Tryd.zeroValue135
  t173 := Tryd.underlying137
  a173 := Tryd.isAgg137
  z173 := Tryd.sizeOf137
  v173 := Tryd.zeroValue137
  t212 := Tryd.underlying140
  a212 := Tryd.isAgg140
  z212 := Tryd.sizeOf140
  v212 := Tryd.zeroValue140
  t213 := Tryd.underlying141
  a213 := Tryd.isAgg141
  z213 := Tryd.sizeOf141
  t232 := Tryd.underlying144
  a232 := Tryd.isAgg144
  z232 := Tryd.sizeOf144
  v232 := Tryd.zeroValue144
  t233 := Tryd.underlying145
  a233 := Tryd.isAgg145
  z233 := Tryd.sizeOf145
  v233 := Tryd.zeroValue145
  g17 := by kernel_rfl
  g18 := by kernel_rfl
  g19 := by kernel_rfl
  i0 := by kernel_rfl
  i2 := by kernel_rfl
  i3 := by kernel_rfl
  i4 := by kernel_rfl
  i5 := by kernel_rfl
  i9 := by kernel_rfl
  i20 := by kernel_rfl
  i37 := by kernel_rfl
  i46 := by kernel_rfl
  i51 := by kernel_rfl
  i53 := by kernel_rfl
  i171 := by kernel_rfl
  i173 := by kernel_rfl
  i212 := by kernel_rfl
  i232 := by kernel_rfl
  i233 := by kernel_rfl
  m17 := by kernel_rfl
  m18 := by kernel_rfl
  m19 := by kernel_rfl
theorem gPow : Tryd.prog.globalNamed "internal/strconv.uint64pow10" = some 0 := by kernel_rfl
theorem tab_of {w : World} {F : Nat → Prop} (h : Known w F) : Lib.TabIs Tryd.prog w "internal/strconv.uint64pow10" .u64 Lib.pow10Tab := by
  obtain ⟨_, T, fr, h⟩ := h _ (List.mem_singleton.2 rfl)
  unfold Lib.TabIs World.var?
  rw [gPow]
  have h0 : w.heap[0]? = some (.cells (Lib.pow10Tab.map fun z => Value.int .u64 z).toArray T fr) := h
  simp [h0]
theorem known_of {w : World} {F : Nat → Prop} (hF : F 0) (h : Lib.TabIs Tryd.prog w "internal/strconv.uint64pow10" .u64 Lib.pow10Tab) : Known w F := fun p hp => by
  rw [List.mem_singleton.1 hp]
  refine ⟨hF, ?_⟩
  unfold Lib.TabIs World.var? at h
  rw [gPow] at h
  show ∃ T fr, w.heap[0]? = some (.cells (Lib.pow10Tab.map fun z => Value.int .u64 z).toArray T fr)
  cases hh : w.heap[0]? with
  | none => simp [hh] at h
  | some ob =>
    cases ob with
    | cells c T fr =>
      simp [hh] at h
      exact ⟨T, fr, by rw [h]⟩
    | _ => simp [hh] at h
theorem grow_step {mine : Nat → Prop} {w : World} {F : Nat → Prop} (hl : ∀ b, F b → b < w.heap.size) (k : Nat) (os : Array Obj) : Step mine w F (Sort.grow (w.drewN k) os) F where
  os := rfl
  tape := rfl
  output := rfl
  size := by show w.heap.size ≤ (w.heap ++ os).size; rw [Array.size_append]; omega
  kept := fun b hb _ => by show (w.heap ++ os)[b]? = _; rw [Array.getElem?_append_left hb]
  data := fun b hb => by show (w.heap ++ os)[b]? = _; rw [Array.getElem?_append_left (hl b hb)]
  grow := fun _ h => h
  from_ := fun _ h => .inl h
def itoaS (n : Int) : ByteArray := ⟨(Lib.itoa n).toArray⟩
theorem strconv_Itoa_ex : ∃ f : Int → Option ByteArray, f = fun n => bif decide (-9223372036854775808 ≤ n) && decide (n ≤ 9223372036854775807) then some (itoaS n) else none := ⟨_, rfl⟩
noncomputable def strconv_Itoa : Int → Option ByteArray := strconv_Itoa_ex.choose
theorem strconv_Itoa_eq (n : Int) : strconv_Itoa n = bif decide (-9223372036854775808 ≤ n) && decide (n ≤ 9223372036854775807) then some (itoaS n) else none := congrFun strconv_Itoa_ex.choose_spec n
theorem strconv_Itoa_yes {n : Int} (h : -9223372036854775808 ≤ n ∧ n ≤ 9223372036854775807) : strconv_Itoa n = some (itoaS n) := by
  rw [strconv_Itoa_eq, decide_eq_true h.1, decide_eq_true h.2]; rfl
theorem strconv_Itoa_in {n : Int} {s : ByteArray} (h : strconv_Itoa n = some s) : (-9223372036854775808 ≤ n ∧ n ≤ 9223372036854775807) ∧ s = itoaS n := by
  by_cases hn : -9223372036854775808 ≤ n ∧ n ≤ 9223372036854775807
  · rw [strconv_Itoa_yes hn] at h; exact ⟨hn, (Option.some.inj h).symm⟩
  · rw [strconv_Itoa_eq] at h
    have : (decide (-9223372036854775808 ≤ n) && decide (n ≤ 9223372036854775807)) = false := by
      by_cases h1 : -9223372036854775808 ≤ n
      · rw [decide_eq_true h1, Bool.true_and, decide_eq_false (fun h2 => hn ⟨h1, h2⟩)]
      · rw [decide_eq_false h1]; rfl
    rw [this, cond_false] at h; cases h
noncomputable def strconv_Itoa_mk : ByteArray → List DV := fun s => [⟨.str, s⟩]
noncomputable def strconv_Itoa_sig : Sig := { pm := [(false, [(false, .int .i64)])], rm := [(false, [(false, .str)])], f := fun | [⟨.int .i64, x0⟩] => .yes _ (strconv_Itoa x0) strconv_Itoa_mk | _ => .no }
theorem str_hand {w : World} {F : Nat → Prop} {g : Nat → Loc} {mine : Nat → Prop} (nid : Nat) (s : ByteArray) : Hand w F g mine nid [(false, [(false, .str)])] (strconv_Itoa_mk s) [.string s] :=
  ⟨⟨_, _, rfl, rfl, rfl⟩, fun id o h => (by cases h), fun i j o p b h => (by cases h)⟩
theorem strconv_Itoa_ok : SigOk Tryd.prog 43 strconv_Itoa_sig := by
  refine ⟨⟨Tryd.f43, _, Tryd.func43, rfl, by decide +kernel⟩, fun w F g mine dvs vals β o mk x hf ho hh hkn hl hup nid => ?_⟩
  unfold strconv_Itoa_sig at hf
  dsimp only at hf
  split at hf
  · rename_i x0
    cases hf
    obtain ⟨hn, rfl⟩ := strconv_Itoa_in ho
    obtain ⟨v, r, e1, e2, e3⟩ := hh.vals
    cases (show r = [] from e3)
    cases (show v = _ from e2)
    have hvals : vals = #[.int .i64 x0] := Array.ext' e1
    rw [hvals]
    refine (Any.strconv_Itoa lays171 x0 hn.1 hn.2 w (tab_of hkn.out)).mono fun e w' he => ?_
    obtain ⟨rfl, k, os, rfl⟩ := he
    have st := grow_step (mine := mine) hl k os
    exact ⟨_, F, g, [.string (itoaS x0)], rfl, st, fun b hb => Nat.lt_of_lt_of_le (hl b hb) st.size, str_hand nid _, rfl⟩
  · cases hf
theorem strconv_FormatInt_ex : ∃ f : Int → Int → Option ByteArray, f = fun n b => bif b == 10 then strconv_Itoa n else none := ⟨_, rfl⟩
noncomputable def strconv_FormatInt : Int → Int → Option ByteArray := strconv_FormatInt_ex.choose
theorem strconv_FormatInt_eq (n b : Int) : strconv_FormatInt n b = bif b == 10 then strconv_Itoa n else none := congrFun (congrFun strconv_FormatInt_ex.choose_spec n) b
theorem strconv_FormatInt_in {n b : Int} {s : ByteArray} (h : strconv_FormatInt n b = some s) : b = 10 ∧ strconv_Itoa n = some s := by
  rw [strconv_FormatInt_eq] at h
  by_cases hb : b = 10
  · subst hb; exact ⟨rfl, h⟩
  · rw [show (b == 10) = false by simpa using hb, cond_false] at h; cases h
noncomputable def strconv_FormatInt_sig : Sig := { pm := [(false, [(false, .int .i64)]), (false, [(false, .int .i64)])], rm := [(false, [(false, .str)])], f := fun | [⟨.int .i64, x0⟩, ⟨.int .i64, x1⟩] => .yes _ (strconv_FormatInt x0 x1) strconv_Itoa_mk | _ => .no }
theorem strconv_FormatInt_ok : SigOk Tryd.prog 71 strconv_FormatInt_sig := by
  refine ⟨⟨Tryd.f71, _, Tryd.func71, rfl, by decide +kernel⟩, fun w F g mine dvs vals β o mk x hf ho hh hkn hl hup nid => ?_⟩
  unfold strconv_FormatInt_sig at hf
  dsimp only at hf
  split at hf
  · rename_i x0 x1
    cases hf
    obtain ⟨rfl, ho2⟩ := strconv_FormatInt_in ho
    obtain ⟨hn, rfl⟩ := strconv_Itoa_in ho2
    obtain ⟨v, r, e1, e2, v2, r2, e3, e4, e5⟩ := hh.vals
    cases (show r2 = [] from e5)
    cases (show v = _ from e2)
    cases (show v2 = _ from e4)
    have hvals : vals = #[.int .i64 x0, .int .i64 10] := Array.ext' (e1.trans (by rw [e3]))
    rw [hvals]
    refine (Any.strconv_FormatInt_10 lays173 x0 hn.1 hn.2 w (tab_of hkn.out)).mono fun e w' he => ?_
    obtain ⟨rfl, k, os, rfl⟩ := he
    have st := grow_step (mine := mine) hl k os
    exact ⟨_, F, g, [.string (itoaS x0)], rfl, st, fun b hb => Nat.lt_of_lt_of_le (hl b hb) st.size, str_hand nid _, rfl⟩
  · cases hf
end Go.Proofs.YtdbenenonfldkaaDoor.PE
