/- Stores, held against the model's. -/
import Derived.Test.YtdbenenonfldkaaDoorEOps8
namespace Go.Proofs.YtdbenenonfldkaaDoor.PE
set_option linter.unusedVariables false
open Go.RowKit
variable {P : Program} {w w' : World} {F F' : Nat → Prop} {g g' : Nat → Loc} {mine : Nat → Prop} {σ : St} {a : Act}
theorem map_kill_frz {s : List (Nat × Option Ob)} {ob : Nat → Option Ob} (hs : IsFrz ob s) (ks : List Nat) : ∀ (f : Nat → Option Ob), (fun i => (setOb f s i).map (Ob.kill ks)) = setOb (fun i => (f i).map (Ob.kill ks)) s := by
  induction s with
  | nil => intro f; rfl
  | cons p r ih =>
    intro f
    have hp := hs p (by simp)
    obtain ⟨id, o⟩ := p
    have ho : o.map (Ob.kill ks) = o := by
      rcases hp with ⟨e, l, cm, frz, h1, h2⟩ | ⟨cs, h1, h2⟩
      · simp only at h2; subst h2; rfl
      · simp only at h2; subst h2; rfl
    simp only [setOb]
    rw [ih (fun q hq => hs q (by simp [hq]))]
    congr 1
    funext i
    cases Nat.beq i id
    · rfl
    · exact ho
/-- An update that freezes first. -/
theorem app_frz {s : List (Nat × Option Ob)} (hs : IsFrz σ.ob s) (v : AV) (r : List (Nat × Option Ob)) (ks : List Nat) (d : Option Nat) :
    ({ v := v, sets := s ++ r, kills := ks } : Upd).app σ d = ({ v := v, sets := r, kills := ks } : Upd).app { σ with ob := setOb σ.ob s } d := by
  have : setOb (σ.kill ks).ob (s ++ r) = setOb (({ σ with ob := setOb σ.ob s } : St).kill ks).ob r := by
    rw [setOb_append]
    congr 1
    cases ks with
    | nil => rfl
    | cons k ks => exact (map_kill_frz hs (k :: ks) σ.ob).symm
  have t2 : (σ.kill ks).tm = (({ σ with ob := setOb σ.ob s } : St).kill ks).tm := by cases ks <;> rfl
  show St.put ⟨(σ.kill ks).tm, setOb (σ.kill ks).ob (s ++ r), ks ++ σ.kl⟩ d v = St.put ⟨(({ σ with ob := setOb σ.ob s } : St).kill ks).tm, setOb (({ σ with ob := setOb σ.ob s } : St).kill ks).ob r, ks ++ σ.kl⟩ d v
  rw [this, t2]
theorem Kept.frz {s : List (Nat × Option Ob)} (hs : IsFrz σ.ob s) {ks : List Nat} {ob' : Nat → Option Ob} (h : Kept ks g g' (setOb σ.ob s) ob') : Kept ks g g' σ.ob ob' :=
  fun id hid => ⟨(h id hid).1, fun n hn => by rw [← frz_len hs]; exact (h id hid).2 n hn⟩
theorem Good.skip {run : Sem Unit} {u : Upd} {d : Option Nat} {w1 : World} (hr : run.run P w = .ok () w1) (hs : Step mine w F w1 F') (h : Rel w1 F' g' mine (u.app σ d) (a.put d undef)) (hk : Kept u.kills g g' σ.ob (u.app σ d).ob) :
    Good w F g mine σ a ((do run; pure Next.skip : Sem Next).run P w) u d :=
  ⟨undef, .skip, w1, F', g', by simp [hr], .inr ⟨rfl, rfl⟩, hs, h, hk⟩
theorem cut_putVals {c : Array Value} {off : Nat} {vs : List Value} (h : off + vs.length ≤ c.size) {o n : Nat} (hd : o + n ≤ off ∨ off + vs.length ≤ o) : cut (putVals c off vs) o n = cut c o n := by
  apply List.ext_getElem?
  intro i
  unfold cut
  rw [List.getElem?_take, List.getElem?_take]
  by_cases hi : i < n
  · rw [if_pos hi, if_pos hi, List.getElem?_drop, List.getElem?_drop, Array.getElem?_toList, Array.getElem?_toList, putVals_get h, if_neg (by omega)]
  · rw [if_neg hi, if_neg hi]
theorem cut_putVals_in {c : Array Value} {off : Nat} {vs : List Value} (h : off + vs.length ≤ c.size) {o n : Nat} (h1 : o ≤ off) (h2 : off + vs.length ≤ o + n) (h3 : o + n ≤ c.size) :
    cut (putVals c off vs) o n = (cut c o n).take (off - o) ++ vs ++ (cut c o n).drop (off - o + vs.length) := by
  have hl : (List.take (off - o) (cut c o n)).length = off - o := by rw [List.length_take, cut_length h3]; omega
  apply List.ext_getElem?
  intro i
  by_cases hi : i < n
  · have e0 : (cut (putVals c off vs) o n)[i]? = (putVals c off vs)[o + i]? := by
      unfold cut
      rw [List.getElem?_take, if_pos hi, List.getElem?_drop, Array.getElem?_toList]
    have e1 : ∀ j, j < n → (cut c o n)[j]? = c[o + j]? := fun j hj => by
      unfold cut
      rw [List.getElem?_take, if_pos hj, List.getElem?_drop, Array.getElem?_toList]
    rw [e0, putVals_get h]
    by_cases q1 : i < off - o
    · rw [if_neg (by omega), List.append_assoc, List.getElem?_append_left (by omega), List.getElem?_take, if_pos q1, e1 i hi]
    · by_cases q2 : i < off - o + vs.length
      · rw [if_pos (by omega), List.append_assoc, List.getElem?_append_right (by omega), List.getElem?_append_left (by omega), hl]
        congr 1
        omega
      · rw [if_neg (by omega), List.append_assoc, List.getElem?_append_right (by omega), List.getElem?_append_right (by omega), hl, List.getElem?_drop, e1 _ (by omega)]
        congr 1
        omega
  · rw [List.getElem?_eq_none (by rw [cut_length (by rw [putVals_size h]; omega)]; omega), List.getElem?_eq_none]
    simp only [List.length_append, List.length_drop, hl, cut_length h3]
    omega
theorem store_sound (h : Rel w F g mine σ a) {t : TypeId} {av vv : AV} {x y : Value} (ha : R w F g σ.ob av x) (hv : R w F g σ.ob vv y) {u : Upd} (hq : (storeQ P t av vv).val σ.ob = some u) {d : Option Nat} (hd : ∀ e, d = some e → e < a.tmps.size) :
    Good w F g mine σ a ((do Instr.storeAt t x y; pure Next.skip : Sem Next).run P w) u d := by
  unfold storeQ at hq
  rw [val_guard_some, Bool.and_eq_true, Bool.and_eq_true] at hq
  obtain ⟨⟨⟨h1, h2⟩, h3⟩, hq⟩ := hq
  obtain ⟨ds, hds⟩ := isSomeT_spec h1
  have h2 := Nat.eq_of_beq_eq_true h2
  have hrel := cells_rel (solid_of_one h3) hv
  have hlen := RAll.length hrel
  have hones := ones_rel hrel h3
  cases av with
  | ptr id off =>
    simp only [val_ask_some] at hq
    split at hq
    · rename_i cs ho
      simp only [val_guard_some, val_ret_some] at hq
      obtain ⟨hle, rfl⟩ := hq
      have hle := Nat.le_of_ble_eq_true hle
      obtain ⟨b, hb, rfl⟩ := ha
      obtain ⟨b', c, T, fr, k1, k2, k3, k4, k5, k6, k7, k8⟩ := h.ob id _ ho
      rw [hb] at k1; cases k1
      have hcs := RAll.length k6
      rw [Array.length_toList] at hcs
      rw [Array.length_toList] at hlen
      have hsz : off + y.cells.toList.length ≤ c.size := by rw [Array.length_toList]; omega
      have hrun := run_storeVar' (P := P) (w := w) (off := off) (x := y) hds k4 k5 (by omega) (by omega) hones
      obtain ⟨st, hR, hK⟩ := h.write ho trivial (o' := .cells (putCells cs off vv.cells)) trivial hb k4 (c' := putVals c off y.cells.toList) [] (.inl ⟨rfl, rfl⟩) .top undef d hd
        (fun ob' e1 e2 => ⟨b, _, T, fr, hb, k2, k3, putBlk_same k4, by rw [putVals_size hsz]; exact k5, by
            rw [putVals_toList]
            refine RAll.step (fun k hk => putBlk_other (fun e => k3 (by rw [← e]; exact hk))) (fun _ hk => hk) (RAll.splice k6 hrel) fun i hi => ⟨rfl, fun n hn => ?_⟩
            by_cases ei : i = id
            · rw [ei, e2] at hn; cases hn
            · rw [e1 i ei] at hn; exact hn, by rw [putVals_size hsz]; exact k7, k8⟩)
        (fun _ _ _ => trivial)
      exact Good.skip hrun st hR hK
    · cases hq
  | eptr id i off =>
    simp only [val_ask_some] at hq
    split at hq
    · rename_i e l cm ho
      simp only [val_opt_some, val_guard_some, val_bind_some, val_ret_some] at hq
      obtain ⟨xo, hxo, hle, yo, hyo, s, hs, hns, rfl⟩ := hq
      have hle := Nat.le_of_ble_eq_true hle
      rw [exp_length] at hle
      obtain ⟨b, hb, rfl⟩ := ha
      obtain ⟨hfrz, hnm⟩ := freeze_val hs
      obtain ⟨st1, hR1⟩ := h.freeze hfrz
      have hid : id ∉ s.map (·.1) := by
        intro hid
        obtain ⟨p, hp, e1⟩ := List.mem_map.1 hid
        have : (s.any fun p => Nat.beq p.1 id) = true := List.any_eq_true.2 ⟨p, hp, by rw [e1]; exact Nat.beq_refl id⟩
        rw [this] at hns; cases hns
      have ho1 : setOb σ.ob s id = some (.row e l cm false) := by rw [setOb_not hid]; exact ho
      obtain ⟨k1, k2, kc, k4, k5⟩ := hR1.ob id _ ho1
      obtain ⟨c, T, fr, q1, q2, q3, _, q5, q6⟩ := k5 b hb
      have hi : i < l.length := (List.getElem?_eq_some_iff.mp hxo).1
      have hcell : i * e.cells + e.cells ≤ c.size := by
        rw [q2, ← Nat.succ_mul]; exact Nat.mul_le_mul_right _ (by omega)
      rw [Array.length_toList] at hlen
      have hsz : i * e.cells + off + y.cells.toList.length ≤ c.size := by rw [Array.length_toList]; omega
      have hrun := run_storeVar' (P := P) (w := w) (b := b) (off := i * e.cells + off) (x := y) hds q1 q3.of (by omega) (by omega) hones
      -- the element that is written, as data
      have hexp : RAll w F g σ.ob (e.exp xo) (cut c (i * e.cells) e.cells) := by
        obtain ⟨_, _, _, _, k5'⟩ := h.ob id _ ho
        obtain ⟨c', T', fr', q1', _, _, _, _, q6'⟩ := k5' b hb
        rw [q1] at q1'; cases q1'
        exact exp_rel (q6' i xo hxo)
      have hRd : Rd w (Frz F g (s.map (·.1))) e yo ((cut c (i * e.cells) e.cells).take off ++ y.cells.toList ++ (cut c (i * e.cells) e.cells).drop (off + y.cells.toList.length)) := by
        refine impAll_sound h (fun b hb => .inl hb) (ids := s.map (·.1)) (fun id' b' hid' hb' => .inr ⟨id', hid', hb'⟩) hyo (fun v hv' => ?_) (RAll.splice hexp hrel)
        unfold putCells at hv'
        rcases List.mem_append.1 hv' with hv' | hv'
        · rcases List.mem_append.1 hv' with hv' | hv'
          · exact exp_named (List.mem_of_mem_take hv')
          · exact hnm v hv'
        · exact exp_named (List.mem_of_mem_drop hv')
      rw [show i * (g id).sz + off = i * e.cells + off by rw [k1]]
      have hnF := (own_not_F hR1 ho1 rfl hb).1
      obtain ⟨st, hR, hK⟩ := hR1.write ho1 rfl (o' := .row e (l.set i yo) cm false) rfl hb q1 (c' := putVals c (i * e.cells + off) y.cells.toList) [] (.inl ⟨rfl, by simp [lenOf]⟩) .top undef d hd
        (fun ob' e1 e2 => ⟨k1, by rw [List.length_set]; exact k2, kc, k4, fun b' hb' => by
            rw [hb] at hb'; cases hb'
            refine ⟨_, T, fr, putBlk_same q1, by rw [putVals_size hsz]; exact q2, by rw [putVals_size hsz]; exact q3, (fun h => nomatch h), fun _ => q5 rfl, fun j z hz => ?_⟩
            have stp : ∀ k, Frz F g (s.map (·.1)) k → (putBlk w b (.cells (putVals c (i * e.cells + off) y.cells.toList) T fr)).heap[k]? = w.heap[k]? := fun k hk => putBlk_other (fun e => hnF (by rw [← e]; exact hk))
            by_cases hj : j = i
            · subst hj
              rw [List.getElem?_set_self hi] at hz
              cases hz
              rw [cut_putVals_in hsz (by omega) (by rw [Array.length_toList]; omega) hcell]
              rw [show j * e.cells + off - j * e.cells = off by omega]
              exact hRd.step stp fun _ hk => hk
            · rw [List.getElem?_set_ne (Ne.symm hj)] at hz
              have hdis : j * e.cells + e.cells ≤ i * e.cells + off ∨ i * e.cells + off + y.cells.toList.length ≤ j * e.cells := by
                rw [Array.length_toList]
                rcases Nat.lt_or_gt_of_ne hj with hlt | hgt
                · left
                  have : (j + 1) * e.cells ≤ i * e.cells := Nat.mul_le_mul_right _ hlt
                  rw [Nat.succ_mul] at this; omega
                · right
                  have : (i + 1) * e.cells ≤ j * e.cells := Nat.mul_le_mul_right _ hgt
                  rw [Nat.succ_mul] at this; omega
              rw [cut_putVals hsz hdis]
              exact (q6 j z hz).step stp fun _ hk => hk⟩)
        (fun _ _ _ => trivial)
      refine Good.skip (g' := g) hrun (st1.trans st) ?_ ?_
      · rw [app_frz hfrz]
        exact hR
      · rw [app_frz hfrz]
        exact hK.frz hfrz
    · cases hq
  | _ => cases hq
end Go.Proofs.YtdbenenonfldkaaDoor.PE
