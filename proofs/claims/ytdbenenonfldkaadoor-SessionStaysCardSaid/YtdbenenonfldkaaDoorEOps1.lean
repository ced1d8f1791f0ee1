/- The operations that only compute, held against the model's. -/
import Derived.Test.YtdbenenonfldkaaDoorEMem
namespace Go.Proofs.YtdbenenonfldkaaDoor.PE
set_option linter.unusedVariables false
open Go.RowKit
section
variable {α β : Type} {H : Nat → Option Ob}
/-- A computation's answer. -/
def Q.val (H : Nat → Option Ob) : Q α → Option α
  | .ret a => some a
  | .fail => none
  | .ask id g => (g (H id)).val H
  | .br c a b => bif c then a.val H else b.val H
  | .opt _ o g => o.bind fun x => (g x).val H
/-- .. and what it asked for. -/
def Q.log (H : Nat → Option Ob) : Q α → List Nat → Option (α × List Nat)
  | .ret a, T => some (a, T)
  | .fail, _ => none
  | .ask id g, T => (g (H id)).log H (id :: T)
  | .br c a b, T => bif c then a.log H T else b.log H T
  | .opt _ o g, T => o.bind fun x => (g x).log H T
theorem Q.cps_eq (k : α → List Nat → Option β) : ∀ (q : Q α) (T : List Nat), q.cps H T k = (q.log H T).bind fun p => k p.1 p.2
  | .ret a, T => rfl
  | .fail, _ => rfl
  | .ask id g, T => by simp only [Q.cps, Q.log]; exact Q.cps_eq k _ _
  | .br c a b, T => by
    cases c
    · simp only [Q.cps, Q.log, cond_false]; exact Q.cps_eq k _ _
    · simp only [Q.cps, Q.log, cond_true]; exact Q.cps_eq k _ _
  | .opt _ o g, T => by
    cases o with
    | none => rfl
    | some x => simp only [Q.cps, Q.log, Option.bind_some]; exact Q.cps_eq k _ _
theorem Q.log_val : ∀ (q : Q α) (T : List Nat), (q.log H T).map (·.1) = q.val H
  | .ret a, T => rfl
  | .fail, _ => rfl
  | .ask id g, T => by simp only [Q.val, Q.log]; exact Q.log_val _ _
  | .br c a b, T => by
    cases c
    · simp only [Q.val, Q.log, cond_false]; exact Q.log_val _ _
    · simp only [Q.val, Q.log, cond_true]; exact Q.log_val _ _
  | .opt _ o g, T => by
    cases o with
    | none => rfl
    | some x => simp only [Q.val, Q.log, Option.bind_some]; exact Q.log_val _ _
theorem Q.val_bind (f : α → Q β) : ∀ (q : Q α), (q.bind f).val H = (q.val H).bind fun a => (f a).val H
  | .ret a => rfl
  | .fail => rfl
  | .ask id g => by simp only [Q.bind, Q.val]; exact Q.val_bind f _
  | .br c a b => by
    cases c
    · simp only [Q.bind, Q.val, cond_false]; exact Q.val_bind f _
    · simp only [Q.bind, Q.val, cond_true]; exact Q.val_bind f _
  | .opt _ o g => by
    cases o with
    | none => rfl
    | some x => simp only [Q.bind, Q.val, Option.bind_some]; exact Q.val_bind f _
theorem val_bind_some {f : α → Q β} {q : Q α} {r : β} : (q.bind f).val H = some r ↔ ∃ a, q.val H = some a ∧ (f a).val H = some r := by
  rw [Q.val_bind, Option.bind_eq_some_iff]
theorem val_ret_some {a r : α} : (Q.ret a).val H = some r ↔ a = r := by simp [Q.val]
theorem val_fail_some {r : α} : (Q.fail : Q α).val H = some r ↔ False := by simp [Q.val]
theorem val_br_some {c : Bool} {a b : Q α} {r : α} : (Q.br c a b).val H = some r ↔ (c = true ∧ a.val H = some r) ∨ (c = false ∧ b.val H = some r) := by cases c <;> simp [Q.val]
theorem val_ask_some {id : Nat} {g : Option Ob → Q α} {r : α} : (Q.ask id g).val H = some r ↔ (g (H id)).val H = some r := Iff.rfl
theorem val_opt_some {γ : Type} {o : Option γ} {g : γ → Q α} {r : α} : (Q.opt γ o g).val H = some r ↔ ∃ x, o = some x ∧ (g x).val H = some r := by simp [Q.val, Option.bind_eq_some_iff]
theorem val_guard_some {b : Bool} {q : Q α} {r : α} : (guardQ b q).val H = some r ↔ b = true ∧ q.val H = some r := by cases b <;> simp [guardQ, Q.val]
end
section
variable {P : Program} {w : World} {F : Nat → Prop} {g : Nat → Loc} {ob : Nat → Option Ob} {mine : Nat → Prop} {σ : St} {a : Act}
mutual
theorem ofVal_rel : ∀ v : Value, R w F g ob (AV.ofVal v) v
  | .int _ _ => rfl
  | .bool _ => rfl
  | .string _ => rfl
  | .pointer none => rfl
  | .pointer (some _) => trivial
  | .slice none 0 0 => rfl
  | .slice none 0 (_ + 1) => trivial
  | .slice none (_ + 1) _ => trivial
  | .slice (some _) _ _ => trivial
  | .nilFunc => rfl
  | .func (.func f) ⟨[]⟩ ⟨cs⟩ => ⟨⟨cs⟩, rfl, ofVals_rel cs⟩
  | .func (.func f) ⟨_ :: _⟩ _ => trivial
  | .func (.method _) _ _ => trivial
  | .func (.methodOf _ _) _ _ => trivial
  | .func (.via _ _ _ _) _ _ => trivial
  | .func (.yield _) _ _ => trivial
  | .agg ⟨cs⟩ => ⟨⟨cs⟩, rfl, ofVals_rel cs⟩
  | .tuple ⟨cs⟩ => ⟨⟨cs⟩, rfl, ofVals_rel cs⟩
  | .float .f32 _ => trivial
  | .float .f64 b => by
    simp only [AV.ofVal]
    split
    · rename_i n hn; exact ⟨b, rfl, wholeOf_fl hn⟩
    · trivial
  | .complex .f32 _ _ => trivial
  | .complex .f64 a b => by
    simp only [AV.ofVal]
    split
    · rename_i n m hn hm; exact ⟨a, b, rfl, wholeOf_fl hn, wholeOf_fl hm⟩
    · trivial
  | .map _ => trivial
  | .chan _ => trivial
  | .iface _ _ => trivial
  | .nilIface => trivial
theorem ofVals_rel : ∀ vs : List Value, RAll w F g ob (AV.ofVals vs) vs
  | [] => rfl
  | v :: r => ⟨v, r, rfl, ofVal_rel v, ofVals_rel r⟩
end
theorem opnd_rel (h : Rel w F g mine σ a) : ∀ x : Operand, R w F g σ.ob (opnd σ x) (a.eval x)
  | .tmp t => h.tm t
  | .const v => ofVal_rel v
  | .func f => ⟨#[], rfl, rfl⟩
  | .global _ => trivial
theorem cells_rel {v : AV} {x : Value} (hs : v.solid = true) (h : R w F g ob v x) : RAll w F g ob v.cells x.cells.toList := by
  cases v with
  | top => cases hs
  | tup _ => cases hs
  | agg cs => obtain ⟨vs, rfl, h⟩ := h; exact h
  | int k n => cases (show _ = _ from h); exact ⟨_, _, rfl, rfl, rfl⟩
  | bool b => cases (show _ = _ from h); exact ⟨_, _, rfl, rfl, rfl⟩
  | str s => cases (show _ = _ from h); exact ⟨_, _, rfl, rfl, rfl⟩
  | flt n => have h' := h; obtain ⟨b, rfl, _⟩ := h'; exact ⟨_, _, rfl, h, rfl⟩
  | cpx x y => have h' := h; obtain ⟨a, b, rfl, _⟩ := h'; exact ⟨_, _, rfl, h, rfl⟩
  | nilp => cases (show _ = _ from h); exact ⟨_, _, rfl, rfl, rfl⟩
  | nils => cases (show _ = _ from h); exact ⟨_, _, rfl, rfl, rfl⟩
  | nilf => cases (show _ = _ from h); exact ⟨_, _, rfl, rfl, rfl⟩
  | any => have h' := h; obtain ⟨A, n, c, rfl⟩ := h'; exact ⟨_, _, rfl, h, rfl⟩
  | ptr id off => have h' := h; obtain ⟨b, _, rfl⟩ := h'; exact ⟨_, _, rfl, h, rfl⟩
  | eptr id i off => have h' := h; obtain ⟨b, _, rfl⟩ := h'; exact ⟨_, _, rfl, h, rfl⟩
  | fptr t x off => have h' := h; obtain ⟨b, rfl, _⟩ := h'; exact ⟨_, _, rfl, h, rfl⟩
  | sl id off len => have h' := h; obtain ⟨A, rfl, _⟩ := h'; exact ⟨_, _, rfl, h, rfl⟩
  | ow id => have h' := h; obtain ⟨⟨A, n, c, rfl⟩, _⟩ := h'; exact ⟨_, _, rfl, h, rfl⟩
  | fz e l full nn => have h' := h; obtain ⟨⟨A, n, c, e1, _⟩, _⟩ := h'; simp only [List.cons.injEq, and_true] at e1; subst e1; exact ⟨_, _, rfl, h, rfl⟩
  | func f cs => have h' := h; obtain ⟨vs, rfl, _⟩ := h'; exact ⟨_, _, rfl, h, rfl⟩
  | bnd f cs => have h' := h; obtain ⟨vs, rfl, _⟩ := h'; exact ⟨_, _, rfl, h, rfl⟩
theorem one_rel {v : AV} {x : Value} (hs : v.one = true) (h : R w F g ob v x) : x.oneCell' = true := by
  cases v with
  | top => cases hs
  | tup _ => cases hs
  | agg cs => cases hs
  | int k n => cases (show _ = _ from h); rfl
  | bool b => cases (show _ = _ from h); rfl
  | str s => cases (show _ = _ from h); rfl
  | flt n => obtain ⟨b, rfl, _⟩ := h; rfl
  | cpx x y => obtain ⟨a, b, rfl, _⟩ := h; rfl
  | nilp => cases (show _ = _ from h); rfl
  | nils => cases (show _ = _ from h); rfl
  | nilf => cases (show _ = _ from h); rfl
  | any => obtain ⟨A, n, c, rfl⟩ := h; rfl
  | ptr id off => obtain ⟨b, _, rfl⟩ := h; rfl
  | eptr id i off => obtain ⟨b, _, rfl⟩ := h; rfl
  | fptr t x off => obtain ⟨b, rfl, _⟩ := h; rfl
  | sl id off len => obtain ⟨A, rfl, _⟩ := h; rfl
  | ow id => obtain ⟨⟨A, n, c, rfl⟩, _⟩ := h; rfl
  | fz e l full nn => obtain ⟨⟨A, n, c, e1, _⟩, _⟩ := h; simp only [List.cons.injEq, and_true] at e1; subst e1; rfl
  | func f cs => obtain ⟨vs, rfl, _⟩ := h; rfl
  | bnd f cs => obtain ⟨vs, rfl, _⟩ := h; rfl
/-- What only computes changes one slot. -/
theorem Rel.val (h : Rel w F g mine σ a) {v : AV} {x : Value} (hv : R w F g σ.ob v x) (d : Option Nat) (hd : ∀ e, d = some e → e < a.tmps.size) : Rel w F g mine (({ v := v } : Upd).app σ d) (a.put d x) := by
  have e : ({ v := v } : Upd).app σ d = σ.put d v := by cases σ; rfl
  rw [e]
  exact ⟨fun t => by rw [put_ob]; exact Rel.dst h.tm hv d hd t, fun id o => by rw [put_ob]; exact h.ob id o, fun i j o p b => by rw [put_ob]; exact h.uniq i j o p b, h.low, h.up⟩
end
end Go.Proofs.YtdbenenonfldkaaDoor.PE
