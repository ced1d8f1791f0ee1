/- Steps that do not meet may be swapped. -/
import Derived.Test.YtdbenenonfldkaaDoorEDraw
namespace Go.Proofs.YtdbenenonfldkaaDoor.PE
set_option linter.unusedVariables false
open Go.RowKit
section
variable {α : Type}
theorem obKill_id (ids : List Nat) (o : Option Ob) (h : ∀ i ∈ refsOb o, i ∉ ids) : o.map (Ob.kill ids) = o := by
  cases o with
  | none => rfl
  | some o =>
    cases o with
    | cells cs => simp only [Option.map_some, Ob.kill]; rw [AV.killAll_id ids cs h]
    | row e l cm frz => rfl
/-- Nothing is named of these. -/
def Clean (σ : St) (z : List Nat) : Prop := (∀ t, ∀ i ∈ (σ.tm t).refs, i ∉ z) ∧ ∀ j, ∀ i ∈ refsOb (σ.ob j), i ∉ z
theorem Clean.tm {σ : St} {z : List Nat} (h : Clean σ z) (t : Nat) : (σ.kill z).tm t = σ.tm t := by
  cases z with
  | nil => rfl
  | cons x r => exact AV.kill_id _ _ (h.1 t)
theorem Clean.ob {σ : St} {z : List Nat} (h : Clean σ z) : (σ.kill z).ob = σ.ob := by
  cases z with
  | nil => rfl
  | cons x r => funext i; exact obKill_id _ _ (h.2 i)
theorem refsOb_kill (ids : List Nat) (o : Option Ob) (i : Nat) (h : i ∈ refsOb (o.map (Ob.kill ids))) : i ∈ refsOb o ∧ i ∉ ids := by
  cases o with
  | none => cases h
  | some o =>
    cases o with
    | cells cs => exact refsAll_kill ids cs i h
    | row e l cm frz => cases h
theorem kill_clean (σ : St) (N : List Nat) : Clean (σ.kill N) N := by
  cases N with
  | nil => exact ⟨fun _ _ _ => by simp, fun _ _ _ => by simp⟩
  | cons x r => exact ⟨fun t i hi => (refs_kill _ _ i hi).2, fun j i hi => (refsOb_kill _ _ i hi).2⟩
theorem Clean.mono {σ : St} {z z' : List Nat} (h : Clean σ z) (hz : ∀ i ∈ z', i ∈ z) : Clean σ z' := ⟨fun t i hi hz' => h.1 t i hi (hz i hz'), fun j i hi hz' => h.2 j i hi (hz i hz')⟩
theorem setOb_or {ob : Nat → Option Ob} : ∀ (s : List (Nat × Option Ob)) (i : Nat), (i ∉ s.map (·.1) ∧ setOb ob s i = ob i) ∨ ∃ p ∈ s, p.1 = i ∧ ∀ ob', setOb ob' s i = p.2
  | [], i => .inl ⟨by simp, rfl⟩
  | (id, o) :: r, i => by
    rcases setOb_or (ob := fun i => bif Nat.beq i id then o else ob i) r i with ⟨h1, h2⟩ | ⟨p, hp, h1, h2⟩
    · by_cases e : i = id
      · subst e
        refine .inr ⟨(i, o), by simp, rfl, fun ob' => ?_⟩
        rw [setOb, setOb_not h1]
        simp [Nat.beq_refl]
      · refine .inl ⟨by simp [e]; simpa using h1, ?_⟩
        rw [setOb, h2]
        cases e' : Nat.beq i id
        · rfl
        · exact absurd (Nat.eq_of_beq_eq_true e') e
    · exact .inr ⟨p, by simp [hp], h1, fun ob' => by rw [setOb]; exact h2 _⟩
theorem app_tm (u : Upd) (σ : St) (d : Option Nat) (t : Nat) : (u.app σ d).tm t = if d = some t then u.v else (σ.kill u.kills).tm t := by
  cases d with
  | none => rfl
  | some d =>
    show (bif Nat.beq t d then u.v else (σ.kill u.kills).tm t) = _
    cases e : Nat.beq t d
    · rw [if_neg (fun h => by cases h; simp [Nat.beq_refl] at e)]; rfl
    · rw [if_pos (by rw [Nat.eq_of_beq_eq_true e])]; rfl
structure Rec where
  i : Nat
  o : Oper
  u : Upd
  f : Fp
def Rec.app (x : Rec) (σ : St) : St := x.u.app σ x.o.dst
structure Rec.Wf (x : Rec) : Prop where
  v : ∀ i ∈ x.u.v.refs, i ∈ x.f.t
  s : ∀ p ∈ x.u.sets, ∀ i ∈ refsOb p.2, i ∈ x.f.t
  z : x.u.kills = x.f.z
  kw : ∀ i ∈ x.u.kills, i ∈ x.f.w
  sw : ∀ p ∈ x.u.sets, p.1 ∈ x.f.w
theorem Clean.app {σ : St} {z : List Nat} {x : Rec} (h : Clean σ z) (hx : x.Wf) (hz : ∀ i ∈ z, i ∉ x.f.t) : Clean (x.app σ) z := by
  refine ⟨fun t i hi => ?_, fun j i hi => ?_⟩
  · unfold Rec.app at hi
    rw [app_tm] at hi
    split at hi
    · exact fun hz' => hz i hz' (hx.v i hi)
    · cases hk : x.u.kills with
      | nil => rw [hk] at hi; exact h.1 t i hi
      | cons a r => rw [hk] at hi; exact h.1 t i (refs_kill _ _ i hi).1
  · unfold Rec.app at hi
    rw [app_ob] at hi
    rcases setOb_or (ob := (σ.kill x.u.kills).ob) x.u.sets j with ⟨_, e⟩ | ⟨p, hp, _, e⟩
    · rw [e] at hi
      cases hk : x.u.kills with
      | nil => rw [hk] at hi; exact h.2 j i hi
      | cons a r => rw [hk] at hi; exact h.2 j i (refsOb_kill _ _ i hi).1
    · rw [e] at hi
      exact fun hz' => hz i hz' (hx.s p hp i hi)
/-- Alike, but for the order in which names were noted. -/
structure Same (σ τ : St) : Prop where
  tm : ∀ t, σ.tm t = τ.tm t
  ob : σ.ob = τ.ob
  kl : ∀ i, i ∈ σ.kl ↔ i ∈ τ.kl
theorem Same.refl (σ : St) : Same σ σ := ⟨fun _ => rfl, rfl, fun _ => .rfl⟩
theorem Same.trans {a b c : St} (h : Same a b) (k : Same b c) : Same a c := ⟨fun t => (h.tm t).trans (k.tm t), h.ob.trans k.ob, fun i => (h.kl i).trans (k.kl i)⟩
theorem Same.kill {σ τ : St} (h : Same σ τ) (z : List Nat) : (∀ t, (σ.kill z).tm t = (τ.kill z).tm t) ∧ (σ.kill z).ob = (τ.kill z).ob := by
  cases z with
  | nil => exact ⟨h.tm, h.ob⟩
  | cons x r => exact ⟨fun t => by show (σ.tm t).kill _ = (τ.tm t).kill _; rw [h.tm t], by show (fun i => (σ.ob i).map _) = fun i => (τ.ob i).map _; rw [h.ob]⟩
theorem Same.app {σ τ : St} (h : Same σ τ) (x : Rec) : Same (x.app σ) (x.app τ) := by
  refine ⟨fun t => ?_, ?_, fun i => ?_⟩
  · unfold Rec.app
    rw [app_tm, app_tm, (h.kill _).1 t]
  · unfold Rec.app
    rw [app_ob, app_ob, (h.kill _).2]
  · unfold Rec.app
    rw [app_kl, app_kl, List.mem_append, List.mem_append, h.kl i]
/-- The step does what is noted. -/
def Goes (C : Cfg) (inl : Inl α) (base : Nat) (all : List Oper) (x : Rec) (σ : St) : Prop :=
  ∀ (τ : St) (k : St → Fp → Option α), (∀ t ∈ looks all x.o, τ.tm t = σ.tm t) → (∀ i ∈ x.f.a, τ.ob i = σ.ob i) → stepC C inl base all x.o τ k = k (x.app τ) x.f
theorem Goes.same {C : Cfg} {inl : Inl α} {base : Nat} {all : List Oper} {x : Rec} {σ τ : St} (h : Goes C inl base all x σ) (hs : Same σ τ) : Goes C inl base all x τ :=
  fun ρ k h1 h2 => h ρ k (fun t ht => (h1 t ht).trans (hs.tm t).symm) fun i hi => (h2 i hi).trans (by rw [hs.ob])
structure Apart (all : List Oper) (M : Nat → Bool) (x y : Rec) : Prop where
  wt : ∀ i ∈ x.f.w, i ∉ y.f.a
  ww : ∀ i ∈ x.f.w, i ∉ y.f.w
  tw : ∀ i ∈ y.f.w, i ∉ x.f.a
  zt : ∀ i ∈ x.f.z, i ∉ y.f.t
  tz : ∀ i ∈ y.f.z, i ∉ x.f.t
  xl : ∀ d, x.o.dst = some d → d ∉ looks all y.o
  xy : ∀ d, x.o.dst = some d → y.o.dst ≠ some d
  yl : ∀ d, y.o.dst = some d → d ∉ looks all x.o
  lx : M x.i = true
  ly : M y.i = true
theorem Rec.app_tm_ne {x : Rec} {σ : St} (hx : x.Wf) (hc : Clean σ x.f.z) {t : Nat} (h : x.o.dst ≠ some t) : (x.app σ).tm t = σ.tm t := by
  unfold Rec.app
  rw [app_tm, if_neg h, hx.z, hc.tm]
theorem Rec.app_ob_ne {x : Rec} {σ : St} (hx : x.Wf) (hc : Clean σ x.f.z) {i : Nat} (h : i ∉ x.f.w) : (x.app σ).ob i = σ.ob i := by
  unfold Rec.app
  rw [app_ob, hx.z, hc.ob, setOb_not fun hm => ?_]
  obtain ⟨p, hp, rfl⟩ := List.mem_map.1 hm
  exact h (hx.sw p hp)
/-- Two steps that do not meet: the second may go first. -/
theorem swap {C : Cfg} {inl : Inl α} {base : Nat} {all : List Oper} {N : Nat → Bool} {x y : Rec} {σ : St} (hx : x.Wf) (hy : y.Wf) (ha : Apart all N x y) (hcx : Clean σ x.f.z) (hcy : Clean σ y.f.z)
    (h1 : Goes C inl base all x σ) (h2 : Goes C inl base all y (x.app σ)) : Goes C inl base all y σ ∧ Goes C inl base all x (y.app σ) ∧ Same (y.app (x.app σ)) (x.app (y.app σ)) := by
  have ky : ∀ i ∈ y.f.z, i ∈ y.f.w := fun i hi => hy.kw i (by rw [hy.z]; exact hi)
  have kx : ∀ i ∈ x.f.z, i ∈ x.f.w := fun i hi => hx.kw i (by rw [hx.z]; exact hi)
  have c1 : Clean (x.app σ) y.f.z := hcy.app hx fun i hi => ha.tz i hi
  have c2 : Clean (y.app σ) x.f.z := hcx.app hy fun i hi => ha.zt i hi
  refine ⟨fun τ k e1 e2 => h2 τ k (fun t ht => ?_) fun i hi => ?_, fun τ k e1 e2 => h1 τ k (fun t ht => ?_) fun i hi => ?_, fun t => ?_, ?_, fun i => ?_⟩
  · rw [e1 t ht, Rec.app_tm_ne hx hcx fun e => ha.xl t e ht]
  · rw [e2 i hi, Rec.app_ob_ne hx hcx fun hw => ha.wt i hw hi]
  · rw [e1 t ht, Rec.app_tm_ne hy hcy fun e => ha.yl t e ht]
  · rw [e2 i hi, Rec.app_ob_ne hy hcy fun hw => ha.tw i hw hi]
  · by_cases hdx : x.o.dst = some t
    · rw [Rec.app_tm_ne hy c1 (ha.xy t hdx)]
      unfold Rec.app
      rw [app_tm, if_pos hdx, app_tm, if_pos hdx]
    · rw [Rec.app_tm_ne hx c2 hdx]
      by_cases hdy : y.o.dst = some t
      · unfold Rec.app
        rw [app_tm, if_pos hdy, app_tm, if_pos hdy]
      · rw [Rec.app_tm_ne hy c1 hdy, Rec.app_tm_ne hx hcx hdx, Rec.app_tm_ne hy hcy hdy]
  · have ey : (y.app (x.app σ)).ob = setOb (x.app σ).ob y.u.sets := by unfold Rec.app; rw [app_ob, hy.z, show (x.u.app σ x.o.dst) = x.app σ from rfl, c1.ob]
    have ex : (x.app (y.app σ)).ob = setOb (y.app σ).ob x.u.sets := by unfold Rec.app; rw [app_ob, hx.z, show (y.u.app σ y.o.dst) = y.app σ from rfl, c2.ob]
    have ey' : (y.app σ).ob = setOb σ.ob y.u.sets := by unfold Rec.app; rw [app_ob, hy.z, hcy.ob]
    have ex' : (x.app σ).ob = setOb σ.ob x.u.sets := by unfold Rec.app; rw [app_ob, hx.z, hcx.ob]
    rw [ey, ex, ey', ex']
    funext i
    rcases setOb_or (ob := setOb σ.ob x.u.sets) y.u.sets i with ⟨n1, e1⟩ | ⟨p, hp, hi, e1⟩
    · rw [e1]
      rcases setOb_or (ob := setOb σ.ob y.u.sets) x.u.sets i with ⟨n2, e2⟩ | ⟨p, hp, hi, e2⟩
      · rw [e2, setOb_not n1, setOb_not n2]
      · rw [e2, e2]
    · rw [e1]
      have : i ∉ x.u.sets.map (·.1) := fun hm => by
        obtain ⟨q, hq, rfl⟩ := List.mem_map.1 hm
        exact ha.ww _ (hx.sw q hq) (hi ▸ hy.sw p hp)
      rw [setOb_not this, e1]
  · unfold Rec.app
    simp only [app_kl, List.mem_append]
    constructor
    · rintro (h | h | h) <;> simp [h]
    · rintro (h | h | h) <;> simp [h]
/-- Steps, one behind the other. -/
def Runs (C : Cfg) (inl : Inl α) (base : Nat) (all : List Oper) : St → List Rec → St → Prop
  | σ, [], σ' => Same σ σ'
  | σ, x :: r, σ' => Goes C inl base all x σ ∧ Runs C inl base all (x.app σ) r σ'
theorem Runs.same {C : Cfg} {inl : Inl α} {base : Nat} {all : List Oper} : ∀ {L : List Rec} {σ τ σ' : St}, Runs C inl base all σ L σ' → Same σ τ → Runs C inl base all τ L σ'
  | [], _, _, _, h, hs => ⟨fun t => (hs.tm t).symm.trans (h.tm t), hs.ob.symm.trans h.ob, fun i => (hs.kl i).symm.trans (h.kl i)⟩
  | x :: _, _, _, _, h, hs => ⟨h.1.same hs, Runs.same h.2 (hs.app x)⟩
/-- What a later step names anew no earlier one names; and either the first stands ahead of the second, or they do not meet. -/
def PairP (all : List Oper) (N : Nat → Bool) (bs : List Nat) (x y : Rec) : Prop := (N y.i = true → ∀ i ∈ y.f.z, i ∉ x.f.t) ∧ (Nat.testBit (bs.getD y.i 0) x.i = true ∨ Apart all N x y)
structure Fine (all : List Oper) (N : Nat → Bool) (bs : List Nat) (σ : St) (L : List Rec) : Prop where
  wf : ∀ x ∈ L, x.Wf
  clean : ∀ x ∈ L, N x.i = true → Clean σ x.f.z
  pairs : L.Pairwise (PairP all N bs)
theorem Fine.next {all : List Oper} {N : Nat → Bool} {bs : List Nat} {σ : St} {x : Rec} {L : List Rec} (h : Fine all N bs σ (x :: L)) : Fine all N bs (x.app σ) L where
  wf := fun y hy => h.wf y (by simp [hy])
  clean := fun y hy hl => (h.clean y (by simp [hy]) hl).app (h.wf x (by simp)) (((List.pairwise_cons.1 h.pairs).1 y hy).1 hl)
  pairs := (List.pairwise_cons.1 h.pairs).2
/-- A step that nothing holds back may go first. -/
theorem pull {C : Cfg} {inl : Inl α} {base : Nat} {all : List Oper} {N : Nat → Bool} {bs : List Nat} {y : Rec} {L2 : List Rec} {σ' : St} : ∀ (L1 : List Rec) {σ : St}, Runs C inl base all σ (L1 ++ y :: L2) σ' → Fine all N bs σ (L1 ++ y :: L2) →
    (∀ x ∈ L1, Nat.testBit (bs.getD y.i 0) x.i = false) → Goes C inl base all y σ ∧ Runs C inl base all (y.app σ) (L1 ++ L2) σ' ∧ Fine all N bs (y.app σ) (L1 ++ L2)
  | [], σ, hr, hf, _ => ⟨hr.1, hr.2, hf.next⟩
  | x :: L1, σ, hr, hf, hb => by
    obtain ⟨k1, k2, k3⟩ := pull L1 hr.2 hf.next fun z hz => hb z (by simp [hz])
    have hp := (List.pairwise_cons.1 hf.pairs).1 y (by simp)
    have ha : Apart all N x y := hp.2.resolve_left (by rw [hb x (by simp)]; simp)
    have hx := hf.wf x (by simp)
    have hy := hf.wf y (by simp)
    have hcx := hf.clean x (by simp) ha.lx
    have hcy := hf.clean y (by simp) ha.ly
    obtain ⟨s1, s2, s3⟩ := swap hx hy ha hcx hcy hr.1 k1
    refine ⟨s1, ⟨s2, k2.same s3⟩, ?_, ?_, ?_⟩
    · intro z hz
      simp only [List.cons_append, List.mem_cons, List.mem_append] at hz
      rcases hz with rfl | hz | hz
      · exact hx
      · exact hf.wf z (by simp [hz])
      · exact hf.wf z (by simp [hz])
    · intro z hz hl
      have hfr : ∀ {z : Rec}, (∀ i ∈ z.f.z, i ∉ y.f.t) → z ∈ x :: L1 ++ y :: L2 → N z.i = true → Clean (y.app σ) z.f.z := fun h1 h2 h3 => (hf.clean _ h2 h3).app hy h1
      simp only [List.cons_append, List.mem_cons, List.mem_append] at hz
      have happ := List.pairwise_append.1 (show ((x :: L1) ++ (y :: L2)).Pairwise (PairP all N bs) from hf.pairs)
      have hl1 : ∀ z ∈ x :: L1, ∀ i ∈ z.f.z, i ∉ y.f.t := by
        intro z hz i hi
        have hpz := happ.2.2 z hz y (by simp)
        have hbz : Nat.testBit (bs.getD y.i 0) z.i = false := hb z hz
        have haz : Apart all N z y := hpz.2.resolve_left (by rw [hbz]; simp)
        exact haz.zt i hi
      rcases hz with rfl | hz | hz
      · exact hfr (hl1 _ (by simp)) (by simp) hl
      · exact hfr (hl1 _ (by simp [hz])) (by simp [hz]) hl
      · exact hfr (((List.pairwise_cons.1 happ.2.1).1 z hz).1 hl) (by simp [hz]) hl
    · have happ := List.pairwise_append.1 (show ((x :: L1) ++ (y :: L2)).Pairwise (PairP all N bs) from hf.pairs)
      exact List.pairwise_append.2 ⟨happ.1, (List.pairwise_cons.1 happ.2.1).2, fun a ha b hb => happ.2.2 a ha b (by simp [hb])⟩
end
end Go.Proofs.YtdbenenonfldkaaDoor.PE
