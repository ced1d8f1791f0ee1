/- An update of the abstract state, held against a step of the world. -/
import Derived.Test.YtdbenenonfldkaaDoorERel
namespace Go.Proofs.YtdbenenonfldkaaDoor.PE
set_option linter.unusedVariables false
open Go.RowKit
variable {w w' : World} {F F' : Nat → Prop} {g g' : Nat → Loc} {ob ob' : Nat → Option Ob} {mine : Nat → Prop} {σ : St} {a : Act}
theorem setOb_not {ob : Nat → Option Ob} : ∀ {s : List (Nat × Option Ob)} {i : Nat}, i ∉ s.map (·.1) → setOb ob s i = ob i
  | [], _, _ => rfl
  | (id, o) :: r, i, h => by
    simp only [List.map_cons, List.mem_cons, not_or] at h
    rw [setOb, setOb_not h.2]
    cases e : Nat.beq i id
    · rfl
    · exact absurd (Nat.eq_of_beq_eq_true e) h.1
theorem kill_ob (σ : St) (ks : List Nat) (i : Nat) : (ks = [] ∧ (σ.kill ks).ob i = σ.ob i) ∨ (σ.kill ks).ob i = (σ.ob i).map (Ob.kill ks) := by
  cases ks
  · exact .inl ⟨rfl, rfl⟩
  · exact .inr rfl
theorem app_ob (u : Upd) (σ : St) (d : Option Nat) : (u.app σ d).ob = setOb (σ.kill u.kills).ob u.sets := by cases d <;> rfl
theorem kill_tm (σ : St) (ks : List Nat) (t : Nat) (v : Value) (h : R w F g ob (σ.tm t) v) : R w F g ob ((σ.kill ks).tm t) v ∧ ∀ id, id ∈ ((σ.kill ks).tm t).refs → id ∉ ks := by
  cases ks with
  | nil => exact ⟨h, fun _ _ => by simp⟩
  | cons x r => exact ⟨R.kill _ h, fun id hi => (refs_kill _ _ id hi).2⟩
theorem lenOf_kill (ks : List Nat) (o : Option Ob) : lenOf (o.map (Ob.kill ks)) = lenOf o := by
  cases o with
  | none => rfl
  | some o => cases o <;> rfl
theorem lenOf_killOb (σ : St) (ks : List Nat) (i : Nat) : lenOf ((σ.kill ks).ob i) = lenOf (σ.ob i) := by
  rcases kill_ob σ ks i with ⟨_, e⟩ | e <;> rw [e]
  exact lenOf_kill _ _
theorem Rel.dst (h : ∀ t, R w F g ob (σ.tm t) (a.tmps.getD t undef)) {v : AV} {x : Value} (hv : R w F g ob v x) (d : Option Nat) (hd : ∀ e, d = some e → e < a.tmps.size) :
    ∀ t, R w F g ob ((σ.put d v).tm t) ((a.put d x).tmps.getD t undef) := by
  intro t
  cases d with
  | none => exact h t
  | some d =>
    have hlt := hd d rfl
    show R w F g ob (bif Nat.beq t d then v else σ.tm t) ((a.tmps.setIfInBounds d x).getD t undef)
    cases e : Nat.beq t d
    · have hne : d ≠ t := fun e' => by rw [e'] at e; simp [Nat.beq_refl] at e
      have := h t
      simp only [Array.getD_eq_getD_getElem?, Array.getElem?_setIfInBounds_ne hne, cond_false] at this ⊢
      exact this
    · have he := Nat.eq_of_beq_eq_true e
      subst he
      simp only [Array.getD_eq_getD_getElem?, cond_true]
      rw [Array.getElem?_setIfInBounds_self_of_lt hlt]
      exact hv
theorem put_ob (σ : St) (d : Option Nat) (v : AV) : (σ.put d v).ob = σ.ob := by cases d <;> rfl
/-- But for what was named anew, each name leads where it led. -/
def Kept (ks : List Nat) (g g' : Nat → Loc) (ob ob' : Nat → Option Ob) : Prop := ∀ id, id ∉ ks → g' id = g id ∧ ∀ n, lenOf (ob' id) = some n → lenOf (ob id) = some n
theorem Kept.refl (ks : List Nat) (g : Nat → Loc) (ob : Nat → Option Ob) : Kept ks g g ob ob := fun _ _ => ⟨rfl, fun _ h => h⟩
theorem put_size (a : Act) (d : Option Nat) (x : Value) : (a.put d x).tmps.size = a.tmps.size := by cases d <;> simp [Act.put]
theorem put_defers (a : Act) (d : Option Nat) (x : Value) : (a.put d x).defers = a.defers := by cases d <;> rfl
theorem Rel.upd (h : Rel w F g mine σ a) (st : Step mine w F w' F') (u : Upd) (dst : Option Nat) (x : Value)
    (hd : ∀ d, dst = some d → d < a.tmps.size)
    (hk : ∀ id, id ∈ u.kills → id ∈ u.sets.map (·.1))
    (hg : ∀ id, id ∉ u.kills → g' id = g id)
    (hl : ∀ id, id ∉ u.kills → ∀ n, lenOf (setOb (σ.kill u.kills).ob u.sets id) = some n → lenOf (σ.ob id) = some n)
    (hn : ∀ id o, setOb (σ.kill u.kills).ob u.sets id = some o → id ∈ u.sets.map (·.1) → ORel w' F' g' (setOb (σ.kill u.kills).ob u.sets) mine id o)
    (ho : ∀ id o b, σ.ob id = some o → id ∉ u.sets.map (·.1) → (g id).blk = some b → w'.heap[b]? = w.heap[b]? ∧ (o.own → ¬ F' b))
    (hu : ∀ i j o p b, setOb (σ.kill u.kills).ob u.sets i = some o → setOb (σ.kill u.kills).ob u.sets j = some p → o.own → p.own → (g' i).blk = some b → (g' j).blk = some b → i = j)
    (hlow : ∀ b, F' b → b < w'.heap.size)
    (hv : R w' F' g' (setOb (σ.kill u.kills).ob u.sets) u.v x) :
    Rel w' F' g' mine (u.app σ dst) (a.put dst x) where
  tm := by
    refine Rel.dst (σ := { σ.kill u.kills with ob := setOb (σ.kill u.kills).ob u.sets, kl := u.kills ++ σ.kl }) ?_ ?_ dst hd
    · intro t
      rw [app_ob]
      obtain ⟨h1, h2⟩ := kill_tm σ u.kills t _ (h.tm t)
      exact R.step st.data st.grow h1 fun id hi => ⟨hg id (h2 id hi), hl id (h2 id hi)⟩
    · rw [app_ob]; exact hv
  ob := by
    rw [app_ob]
    intro id o hid
    by_cases hs : id ∈ u.sets.map (·.1)
    · exact hn id o hid hs
    · have hid' : (σ.kill u.kills).ob id = some o := (setOb_not (ob := (σ.kill u.kills).ob) hs).symm.trans hid
      have hnk : id ∉ u.kills := fun hk' => hs (hk id hk')
      obtain ⟨o1, ho1, he⟩ : ∃ o1, σ.ob id = some o1 ∧ ((u.kills = [] ∧ o = o1) ∨ o = o1.kill u.kills) := by
        rcases kill_ob σ u.kills id with ⟨e0, e⟩ | e
        · exact ⟨o, by rw [← e]; exact hid', .inl ⟨e0, rfl⟩⟩
        · rw [e] at hid'
          cases hc : σ.ob id with
          | none => rw [hc] at hid'; cases hid'
          | some o1 => rw [hc] at hid'; exact ⟨o1, rfl, .inr (Option.some.inj hid').symm⟩
      have hO := h.ob id o1 ho1
      have hh := ho id o1
      cases o1 with
      | cells cs =>
        obtain ⟨b, c, T, fr, h1, h2, h3, h4, h5, h6, h7⟩ := hO
        obtain ⟨k1, k2⟩ := hh b ho1 hs h1
        have key : ∀ cs', RAll w F g σ.ob cs' c.toList → (∀ i, i ∈ AV.refsAll cs' → i ∉ u.kills) → ORel w' F' g' (setOb (σ.kill u.kills).ob u.sets) mine id (.cells cs') := fun cs' hr hi =>
          ⟨b, c, T, fr, by rw [hg id hnk]; exact h1, h2, k2 trivial, by rw [k1]; exact h4, h5, RAll.step st.data st.grow hr fun i hm => ⟨hg i (hi i hm), hl i (hi i hm)⟩, by rw [hg id hnk]; exact h7⟩
        rcases he with ⟨e0, rfl⟩ | rfl
        · exact key cs h6 fun i _ => by rw [e0]; simp
        · exact key _ (RAll.kill u.kills h6) fun i hi => (refsAll_kill _ _ _ hi).2
      | row e l cm frz =>
        have : o = .row e l cm frz := by rcases he with ⟨_, rfl⟩ | rfl <;> rfl
        subst this
        obtain ⟨h1, h2, h3, h4, h5⟩ := hO
        refine ⟨by rw [hg id hnk]; exact h1, by rw [hg id hnk]; exact h2, by rw [hg id hnk]; exact h3, by rw [hg id hnk]; exact h4, fun b hb => ?_⟩
        rw [hg id hnk] at hb ⊢
        obtain ⟨c, T, fr, q1, q2, q3, q4, q5, q6⟩ := h5 b hb
        obtain ⟨k1, k2⟩ := hh b ho1 hs hb
        exact ⟨c, T, fr, by rw [k1]; exact q1, q2, q3, fun e => st.grow _ (q4 e), fun e => ⟨(q5 e).1, k2 e⟩, fun i y hy => (q6 i y hy).step st.data st.grow⟩
  uniq := by
    intro i j o p b
    rw [app_ob]
    exact hu i j o p b
  low := hlow
  up := fun b hb => h.up b (Nat.le_trans st.size hb)
end Go.Proofs.YtdbenenonfldkaaDoor.PE
