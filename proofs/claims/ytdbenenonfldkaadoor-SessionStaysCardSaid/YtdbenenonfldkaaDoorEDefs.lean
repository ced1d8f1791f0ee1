/- An evaluator over the model's own code, on abstract values: its definitions. -/
import Derived.Test.YtdbenenonfldkaaDoorProg
namespace Go.Proofs.YtdbenenonfldkaaDoor.PE
set_option linter.unusedVariables false
/-- What plain data there is: whole numbers, truths, texts, slices, and pairs (structs and arrays, cell behind cell). -/
inductive Ty where
  | int (k : IntKind) | bool | str | slice (e : Ty) | unit | pair (a b : Ty) | fn (f : FuncId) (t : Ty) | ref (t : Ty) | cpx
  deriving DecidableEq
@[reducible] def Ty.den : Ty → Type
  | .int _ => Int
  | .bool => Bool
  | .str => ByteArray
  | .slice e => List e.den
  | .unit => Unit
  | .pair a b => a.den × b.den
  | .fn _ t => t.den
  | .ref t => t.den
  | .cpx => Int × Int
def Ty.cells : Ty → Nat
  | .unit => 0
  | .pair a b => a.cells + b.cells
  | _ => 1
/-- Does a datum of this kind hold an address? -/
def Ty.flat : Ty → Bool
  | .slice _ => false
  | .pair a b => a.flat && b.flat
  | .fn _ t => t.flat
  | .ref _ => false
  | _ => true
/-- Abstract values. -/
inductive AV where
  | top
  | int (k : IntKind) (n : Int)
  | bool (b : Bool)
  | str (s : ByteArray)
  | flt (n : Int)
  | cpx (x y : Int)
  | nilp
  | ptr (id off : Nat)
  | eptr (id i off : Nat)
  | fptr (t : Ty) (x : t.den) (off : Nat)
  | nils
  | sl (id off len : Nat)
  | ow (id : Nat)
  | fz (e : Ty) (l : List e.den) (full nn : Bool)
  | nilf
  | any
  | func (f : FuncId) (caps : List AV)
  | bnd (f : FuncId) (first : List AV)
  | agg (cs : List AV)
  | tup (vs : List AV)
/-- What an abstract address leads to: a variable's cells, or a row of data. -/
inductive Ob where
  | cells (cs : List AV)
  | row (e : Ty) (l : List e.den) (cm : Nat) (frz : Bool)
/-- The slots, the objects, and which names were given anew. -/
structure St where
  tm : Nat → AV
  ob : Nat → Option Ob
  kl : List Nat := []
/-- A computation that may ask for objects, branch, and fail. -/
inductive Q (α : Type) : Type 1 where
  | ret (a : α)
  | fail
  | ask (id : Nat) (k : Option Ob → Q α)
  | br (c : Bool) (a b : Q α)
  | opt (β : Type) (o : Option β) (k : β → Q α)
def Q.bind {α β : Type} : Q α → (α → Q β) → Q β
  | .ret a, f => f a
  | .fail, _ => .fail
  | .ask id k, f => .ask id fun o => (k o).bind f
  | .br c a b, f => .br c (a.bind f) (b.bind f)
  | .opt γ o k, f => .opt γ o fun x => (k x).bind f
/-- Run with a continuation; 'T' are the objects that were asked for. -/
def Q.cps {α β : Type} (H : Nat → Option Ob) : Q α → List Nat → (α → List Nat → Option β) → Option β
  | .ret a, T, k => k a T
  | .fail, _, _ => none
  | .ask id g, T, k => (g (H id)).cps H (id :: T) k
  | .br c a b, T, k => bif c then a.cps H T k else b.cps H T k
  | .opt _ o g, T, k => o.bind fun x => (g x).cps H T k
/-- What an operation does. -/
structure Upd where
  v : AV
  sets : List (Nat × Option Ob) := []
  kills : List Nat := []
mutual
def AV.kill (ids : List Nat) : AV → AV
  | .ptr id off => bif ids.any (Nat.beq id) then .top else .ptr id off
  | .eptr id i off => bif ids.any (Nat.beq id) then .top else .eptr id i off
  | .sl id off len => bif ids.any (Nat.beq id) then .top else .sl id off len
  | .ow id => bif ids.any (Nat.beq id) then .top else .ow id
  | .func f cs => .func f (AV.killAll ids cs)
  | .bnd f cs => .bnd f (AV.killAll ids cs)
  | .agg cs => .agg (AV.killAll ids cs)
  | .tup cs => .tup (AV.killAll ids cs)
  | v => v
def AV.killAll (ids : List Nat) : List AV → List AV
  | [] => []
  | v :: r => v.kill ids :: AV.killAll ids r
end
mutual
/-- The objects that a value names. -/
def AV.refs : AV → List Nat
  | .ptr id _ => [id]
  | .eptr id _ _ => [id]
  | .sl id _ _ => [id]
  | .ow id => [id]
  | .func _ cs => AV.refsAll cs
  | .bnd _ cs => AV.refsAll cs
  | .agg cs => AV.refsAll cs
  | .tup cs => AV.refsAll cs
  | _ => []
def AV.refsAll : List AV → List Nat
  | [] => []
  | v :: r => v.refs ++ AV.refsAll r
end
def Ob.kill (ids : List Nat) : Ob → Ob
  | .cells cs => .cells (AV.killAll ids cs)
  | o => o
def setOb (ob : Nat → Option Ob) : List (Nat × Option Ob) → (Nat → Option Ob)
  | [] => ob
  | (id, o) :: r => setOb (fun i => bif Nat.beq i id then o else ob i) r
def St.kill (σ : St) : List Nat → St
  | [] => σ
  | x :: r => { σ with tm := fun t => (σ.tm t).kill (x :: r), ob := fun i => (σ.ob i).map (Ob.kill (x :: r)) }
def St.set (σ : St) (d : Nat) (v : AV) : St := { σ with tm := fun t => bif Nat.beq t d then v else σ.tm t }
def St.put (σ : St) (d : Option Nat) (v : AV) : St := match d with | none => σ | some d => σ.set d v
def Upd.app (u : Upd) (σ : St) (dst : Option Nat) : St :=
  let σ1 := σ.kill u.kills
  ({ σ1 with ob := setOb σ1.ob u.sets, kl := u.kills ++ σ.kl } : St).put dst u.v
/-- A datum as abstract cells. -/
def Ty.exp : (t : Ty) → t.den → List AV
  | .int k, n => [.int k n]
  | .bool, b => [.bool b]
  | .str, s => [.str s]
  | .slice e, l => [.fz e l false false]
  | .unit, _ => []
  | .pair a b, x => a.exp x.1 ++ b.exp x.2
  | .fn f t, x => [.func f (t.exp x)]
  | .ref t, x => [.fptr t x 0]
  | .cpx, x => [.cpx x.1 x.2]
def castRow {e e' : Ty} (h : e = e') (l : List e.den) : List e'.den := h ▸ l
/-- A length, as a whole number. -/
def ilen {β : Type} (l : List β) : Int := l.foldr (fun _ n => n + 1) 0
def isize (s : ByteArray) : Int := ilen s.data.toList
/-- A slice's elements. -/
def Q.elems (e : Ty) : AV → Q (List e.den)
  | .nils => .ret []
  | .fz e' l _ _ => match decEq e' e with | .isTrue h => .ret (castRow h l) | .isFalse _ => .fail
  | .sl id off len => .ask id fun
    | some (.row e' l _ _) => match decEq e' e with
      | .isTrue h => .br (Nat.ble (off + len) l.length) (.ret (castRow h ((l.drop off).take len))) .fail
      | .isFalse _ => .fail
    | _ => .fail
  | .ow id => .ask id fun
    | some (.row e' l _ _) => match decEq e' e with
      | .isTrue h => .ret (castRow h l)
      | .isFalse _ => .fail
    | _ => .fail
  | _ => .fail
/-- Abstract cells as a datum, and the cells behind it. -/
def Q.imp : (t : Ty) → List AV → Q (t.den × List AV)
  | .int k, .int k' n :: r => match decEq k' k with | .isTrue _ => .ret (n, r) | .isFalse _ => .fail
  | .bool, .bool b :: r => .ret (b, r)
  | .str, .str s :: r => .ret (s, r)
  | .cpx, .cpx x y :: r => .ret ((x, y), r)
  | .slice e, v :: r => (Q.elems e v).bind fun l => .ret (l, r)
  | .unit, r => .ret ((), r)
  | .pair a b, r => (Q.imp a r).bind fun x => (Q.imp b x.2).bind fun y => .ret ((x.1, y.1), y.2)
  | _, _ => .fail
def Q.impAll (t : Ty) (cs : List AV) : Q t.den := (Q.imp t cs).bind fun x => match x.2 with | [] => .ret x.1 | _ => .fail
def castDen {e e' : Ty} (h : e = e') (x : e.den) : e'.den := h ▸ x
/-- What a function has captured, as data; the variables among them are lent; and what is behind. -/
def Q.caps : (t : Ty) → List AV → Q (t.den × List Nat × List AV)
  | .ref t, .ptr id 0 :: r => .ask id fun
    | some (.cells cs) => match AV.refsAll cs with
      | [] => (Q.impAll t cs).bind fun x => .ret (x, [id], r)
      | _ => .fail
    | _ => .fail
  | .ref t, .fptr t' x 0 :: r => match decEq t' t with | .isTrue h => .ret (castDen (e := t') (e' := t) h x, [], r) | .isFalse _ => .fail
  | .pair a b, r => (Q.caps a r).bind fun x => (Q.caps b x.2.2).bind fun y => .ret ((x.1, y.1), x.2.1 ++ y.2.1, y.2.2)
  | .unit, r => .ret ((), [], r)
  | _, _ => .fail
def AV.cells : AV → List AV
  | .agg cs => cs
  | v => [v]
/-- The whole number that a word of a float holds, if it has fewer than 54 binary digits. -/
def wholeOf (b : Nat) : Option Int := match (FloatKind.f64.decode b).toInt .zero with
  | some n => bif Nat.blt n.natAbs 9007199254740992 && Nat.beq (FloatKind.f64.nearest n) b then some n else none
  | none => none
def whole (n : Int) : Bool := decide (-9007199254740992 < n) && decide (n < 9007199254740992)
mutual
def AV.ofVal : Value → AV
  | .int k n => .int k n
  | .bool b => .bool b
  | .string s => .str s
  | .float .f64 b => match wholeOf b with | some n => .flt n | none => .top
  | .complex .f64 a b => match wholeOf a, wholeOf b with | some n, some m => .cpx n m | _, _ => .top
  | .pointer none => .nilp
  | .slice none 0 0 => .nils
  | .nilFunc => .nilf
  | .func (.func f) ⟨[]⟩ ⟨cs⟩ => .func f (AV.ofVals cs)
  | .agg ⟨cs⟩ => .agg (AV.ofVals cs)
  | .tuple ⟨cs⟩ => .tup (AV.ofVals cs)
  | _ => .top
def AV.ofVals : List Value → List AV
  | [] => []
  | v :: r => AV.ofVal v :: AV.ofVals r
end
def arr (t : Ty) : Nat → Ty
  | 0 => .unit
  | 1 => t
  | n + 2 => .pair t (arr t (n + 1))
mutual
/-- A type as data; none: it is no plain data. -/
def tyOf (P : Program) : Nat → TypeId → Option Ty
  | 0, _ => none
  | n + 1, t => match P.underlying t with
    | some (.int k) => some (.int k)
    | some .bool => some .bool
    | some .string => some .str
    | some (.complex .f64) => some .cpx
    | some (.slice e) => (tyOf P n e).map .slice
    | some (.array len e) => (tyOf P n e).map fun x => arr x len
    | some (.struct fs) => tysOf P n (fs.toList.map (·.type))
    | _ => none
def tysOf (P : Program) : Nat → List TypeId → Option Ty
  | 0, _ => none
  | _ + 1, [] => some .unit
  | n + 1, t :: r => match r with
    | [] => tyOf P n t
    | _ => match tyOf P n t, tysOf P n r with
      | some a, some b => some (.pair a b)
      | _, _ => none
end
structure DV where
  t : Ty
  x : t.den
/-- The answer of a function that is called by its contract. -/
inductive Cl : Type 1 where
  | no
  | yes (β : Type) (o : Option β) (mk : β → List DV)
/-- Of a parameter or result: is it a struct or array; and of each cell, is it a row that is handed over, and what it is. -/
abbrev Mode := Bool × List (Bool × Ty)
structure Sig where
  pm : List Mode
  rm : List Mode
  f : List DV → Cl
  /-- Are the data of what comes back let go? -/
  dr : Bool := false
def Ty.size (P : Program) (t : TypeId) : Nat := P.cellsOf t
def isAggT (P : Program) (t : TypeId) : Bool := match P.underlying t with
  | some (.struct _) => true
  | some (.array _ _) => true
  | _ => false
def guardQ (b : Bool) {α : Type} (q : Q α) : Q α := bif b then q else .fail
def isSomeT (P : Program) (t : TypeId) : Bool := match P.underlying t with
  | some _ => true
  | none => false
/-- May a value be stored into a cell? -/
def AV.one : AV → Bool
  | .top => false
  | .agg _ => false
  | .tup _ => false
  | _ => true
/-- Are a value's cells known, one by one? -/
def AV.solid : AV → Bool
  | .top => false
  | .tup _ => false
  | _ => true
/-- Cells as the value of a type. -/
def part (P : Program) (t : TypeId) (cs : List AV) (off : Nat) : Q AV :=
  guardQ (isSomeT P t && Nat.ble (off + P.cellsOf t) cs.length) <|
  bif isAggT P t then .ret (.agg ((cs.drop off).take (P.cellsOf t)))
  else match (cs.drop off) with
    | v :: _ => .ret v
    | [] => .fail
def putCells (cs : List AV) (off : Nat) (vs : List AV) : List AV := cs.take off ++ vs ++ cs.drop (off + vs.length)
def bytesList (s : ByteArray) : List Int := s.data.toList.map fun b => (b.toNat : Int)
def strOf (l : List Int) : ByteArray := ⟨(l.map fun n => UInt8.ofNat n.toNat).toArray⟩
def zeroAV (P : Program) (t : TypeId) : Option AV := ((P.info? t).bind (·.zero)).map AV.ofVal
def zeroOf : (t : Ty) → t.den
  | .int _ => 0
  | .bool => false
  | .str => ByteArray.empty
  | .slice _ => []
  | .unit => ()
  | .pair a b => (zeroOf a, zeroOf b)
  | .fn _ t => zeroOf t
  | .ref t => zeroOf t
  | .cpx => (0, 0)
/-- Are cells a datum's zero? What is behind them. -/
def zeroOk : Ty → List Value → Option (List Value)
  | .int k, .int k' n :: r => match decEq k' k with | .isTrue _ => bif n == 0 then some r else none | .isFalse _ => none
  | .bool, .bool false :: r => some r
  | .str, .string ⟨⟨[]⟩⟩ :: r => some r
  | .slice _, .slice none 0 0 :: r => some r
  | .unit, r => some r
  | .pair a b, r => (zeroOk a r).bind (zeroOk b)
  | _, _ => none
/-- Does a type of elements lie in memory as its datum says? -/
def okEl (P : Program) (el : TypeId) (e : Ty) : Bool := isSomeT P el && Nat.beq (P.cellsOf el) e.cells && Nat.ble 1 e.cells && (match (P.info? el).bind (·.zero) with | some z => Nat.beq z.cells.size e.cells && (match zeroOk e z.cells.toList with | some [] => true | _ => false) | none => false)
def elemTy (P : Program) (t : TypeId) : Option (TypeId × Ty) := match P.underlying t with
  | some (.slice e) => match tyOf P 60 e with
    | some x => bif okEl P e x then some (e, x) else none
    | none => none
  | _ => none
def room : Int := 140737488351232
mutual
/-- Equality of two values without addresses. -/
def eqA (P : Program) : Nat → TypeId → AV → AV → Q Bool
  | 0, _, _, _ => .fail
  | n + 1, t, x, y => match P.underlying t, x, y with
    | some .bool, .bool a, .bool b => .ret (a == b)
    | some (.int _), .int k a, .int k' b => match decEq k k' with | .isTrue _ => .ret (a == b) | .isFalse _ => .fail
    | some .string, .str a, .str b => .ret (a.toList == b.toList)
    | some (.struct fs), .agg xs, .agg ys => guardQ (!P.stoodInHeld t) (eqFs P n xs ys fs.toList)
    | some (.array len e), .agg xs, .agg ys => guardQ (isSomeT P e) (eqIs P n e xs ys (List.range len))
    | _, _, _ => .fail
def eqFs (P : Program) : Nat → List AV → List AV → List Field → Q Bool
  | 0, _, _, _ => .fail
  | _ + 1, _, _, [] => .ret true
  | n + 1, xs, ys, f :: r => guardQ (f.name != "_") <| (part P f.type xs f.offset).bind fun a => (part P f.type ys f.offset).bind fun b => (eqA P n f.type a b).bind fun p => (eqFs P n xs ys r).bind fun q => .ret (p && q)
def eqIs (P : Program) : Nat → TypeId → List AV → List AV → List Nat → Q Bool
  | 0, _, _, _, _ => .fail
  | _ + 1, _, _, _, [] => .ret true
  | n + 1, e, xs, ys, i :: r => (part P e xs (i * P.cellsOf e)).bind fun a => (part P e ys (i * P.cellsOf e)).bind fun b => (eqA P n e a b).bind fun p => (eqIs P n e xs ys r).bind fun q => .ret (p && q)
end
/-- Equality of two values. -/
def eqQ (P : Program) (t : TypeId) (x y : AV) : Q Bool :=
  match P.underlying t, x, y with
  | some .bool, .bool a, .bool b => .ret (a == b)
  | some (.slice _), .nils, .nils => .ret true
  | some (.slice _), .nils, .fz _ _ _ true => .ret false
  | some (.slice _), .fz _ _ _ true, .nils => .ret false
  | _, .agg xs, .agg ys => guardQ (!P.eqGuardType P.depth t) (eqA P 20 t (.agg xs) (.agg ys))
  | _, _, _ => .fail
def binQ (P : Program) (op : BinOp) (t : TypeId) (x y : AV) : Q AV :=
  match x, y with
  | .int k a, .int k' b =>
    match op with
    | .shl => .br (decide (b < 0)) .fail (.ret (.int k (k.wrap (a * 2 ^ (min b.toNat k.bits)))))
    | .shr => .br (decide (b < 0)) .fail (.ret (.int k (a.fdiv (2 ^ (min b.toNat k.bits)))))
    | _ => match decEq k k' with
      | .isFalse _ => .fail
      | .isTrue _ => match op with
        | .add => .ret (.int k (k.wrap (a + b)))
        | .sub => .ret (.int k (k.wrap (a - b)))
        | .mul => .ret (.int k (k.wrap (a * b)))
        | .quo => .br (decide (b = 0)) .fail (.ret (.int k (k.wrap (a.tdiv b))))
        | .rem => .br (decide (b = 0)) .fail (.ret (.int k (a.tmod b)))
        | .and => .ret (.int k (k.wrap (BitVec.ofInt k.bits a &&& BitVec.ofInt k.bits b).toNat))
        | .or => .ret (.int k (k.wrap (BitVec.ofInt k.bits a ||| BitVec.ofInt k.bits b).toNat))
        | .xor => .ret (.int k (k.wrap (BitVec.ofInt k.bits a ^^^ BitVec.ofInt k.bits b).toNat))
        | .andNot => .ret (.int k (k.wrap (BitVec.ofInt k.bits a &&& ~~~ BitVec.ofInt k.bits b).toNat))
        | .eql => .ret (.bool (a == b))
        | .neq => .ret (.bool (a != b))
        | .lss => .ret (.bool (decide (a < b)))
        | .leq => .ret (.bool (decide (a ≤ b)))
        | .gtr => .ret (.bool (decide (a > b)))
        | .geq => .ret (.bool (decide (a ≥ b)))
        | _ => .fail
  | .str a, .str b =>
    match op with
    | .add => .br (decide (isize a + isize b ≤ room)) (.ret (.str (a ++ b))) .fail
    | .eql => .ret (.bool (a.toList == b.toList))
    | .neq => .ret (.bool (!(a.toList == b.toList)))
    | .lss => .ret (.bool (Op.bytesLess a.toList b.toList))
    | .geq => .ret (.bool (!Op.bytesLess a.toList b.toList))
    | _ => .fail
  | .flt a, .flt b =>
    match op with
    | .add => .br (whole (a + b)) (.ret (.flt (a + b))) .fail
    | .sub => .br (whole (a - b)) (.ret (.flt (a - b))) .fail
    | .mul => .br (whole (a * b)) (.ret (.flt (a * b))) .fail
    | .eql => .ret (.bool (decide (a = b)))
    | .neq => .ret (.bool (!decide (a = b)))
    | .lss => .ret (.bool (decide (a < b)))
    | .leq => .ret (.bool (decide (a ≤ b)))
    | .gtr => .ret (.bool (decide (b < a)))
    | .geq => .ret (.bool (decide (b ≤ a)))
    | _ => .fail
  | .cpx a b, .cpx c d =>
    match op with
    | .mul => .br (whole (a * c) && whole (b * d) && whole (a * c - b * d) && whole (a * d) && whole (b * c) && whole (a * d + b * c)) (.ret (.cpx (a * c - b * d) (a * d + b * c))) .fail
    | .eql => .ret (.bool (decide (a = c) && decide (b = d)))
    | .neq => .ret (.bool (!(decide (a = c) && decide (b = d))))
    | _ => .fail
  | x, y =>
    match op with
    | .eql => (eqQ P t x y).bind fun b => .ret (.bool b)
    | .neq => (eqQ P t x y).bind fun b => .ret (.bool (!b))
    | _ => .fail
def unQ (op : UnOp) (x : AV) : Q AV :=
  match op, x with
  | .neg, .int k n => .ret (.int k (k.wrap (0 - n)))
  | .neg, .flt n => .ret (.flt (-n))
  | .xor, .int k n => .ret (.int k (k.wrap (BitVec.ofInt k.bits (bif k.signed then -1 else k.max) ^^^ BitVec.ofInt k.bits n).toNat))
  | .not, .bool b => .ret (.bool (!b))
  | _, _ => .fail
def plainUpd (q : Q AV) : Q Upd := q.bind fun v => .ret { v := v }
/-- The content of a row object that is nobody else's. -/
def Q.own (e : Ty) (id : Nat) (k : List e.den → Nat → Q Upd) : Q Upd := .ask id fun
  | some (.row e' l cm false) => match decEq e' e with
    | .isTrue h => k (castRow h l) cm
    | .isFalse _ => .fail
  | _ => .fail
def inRange (i : Int) (n : Nat) (q : Q AV) : Q AV := .br (decide (0 ≤ i)) (.br (decide (i < n)) q .fail) .fail
/-- Reading the cells behind an address. -/
def Q.cellsAt : AV → Q (List AV × Nat)
  | .ptr id off => .ask id fun
    | some (.cells cs) => .ret (cs, off)
    | _ => .fail
  | .eptr id i off => .ask id fun
    | some (.row e l _ _) => .opt _ l[i]? fun x => .ret (e.exp x, off)
    | _ => .fail
  | .fptr t x off => .ret (t.exp x, off)
  | _ => .fail
/-- The objects that cells name, which no one may write from now on. -/
def Q.freeze : List AV → Q (List (Nat × Option Ob))
  | [] => .ret []
  | .ow id :: r => .ask id fun
    | some (.row e l cm _) => (Q.freeze r).bind fun s => .ret ((id, some (.row e l cm true)) :: s)
    | _ => .fail
  | .sl id _ _ :: r => .ask id fun
    | some (.row e l cm _) => (Q.freeze r).bind fun s => .ret ((id, some (.row e l cm true)) :: s)
    | _ => .fail
  | _ :: r => Q.freeze r
def storeQ (P : Program) (t : TypeId) (a v : AV) : Q Upd :=
  guardQ (isSomeT P t && Nat.beq v.cells.length (P.cellsOf t) && v.cells.all AV.one) <|
  match a with
  | .ptr id off => .ask id fun
    | some (.cells cs) => guardQ (Nat.ble (off + v.cells.length) cs.length) (.ret { v := .top, sets := [(id, some (.cells (putCells cs off v.cells)))] })
    | _ => .fail
  | .eptr id i off => .ask id fun
    | some (.row e l cm false) => .opt _ l[i]? fun x =>
      guardQ (Nat.ble (off + v.cells.length) (e.exp x).length) <|
      (Q.impAll e (putCells (e.exp x) off v.cells)).bind fun y =>
      (Q.freeze v.cells).bind fun s => guardQ (!(s.any fun p => Nat.beq p.1 id)) (.ret { v := .top, sets := s ++ [(id, some (.row e (l.set i y) cm false))] })
    | _ => .fail
  | _ => .fail
def addOff (a : AV) (n : Nat) : Q AV := match a with
  | .ptr id off => .ret (.ptr id (off + n))
  | .eptr id i off => .ret (.eptr id i (off + n))
  | .fptr t x off => .ret (.fptr t x (off + n))
  | _ => .fail
def asNat (n : Int) : Nat := n.toNat
def indexAddrQ (P : Program) (t : TypeId) (x i : AV) : Q AV :=
  match P.underlying t, x, i with
  | some (.slice el), .fz e l _ _, .int _ n => guardQ (isSomeT P el && Nat.beq (P.cellsOf el) e.cells) <| .br (decide (0 ≤ n)) (.opt _ l[n.toNat]? fun y => .ret (.fptr e y 0)) .fail
  | some (.slice el), .sl id off len, .int _ n => guardQ (isSomeT P el && true) <| .br (decide (0 ≤ n)) (.br (decide (n < (len : Int))) (.ask id fun
      | some (.row e _ _ _) => guardQ (Nat.beq (P.cellsOf el) e.cells) (.ret (.eptr id (off + n.toNat) 0))
      | some (.cells cs) => guardQ (Nat.beq (P.cellsOf el) 1) (.ret (.ptr id (off + n.toNat)))
      | none => .fail) .fail) .fail
  | some (.slice el), .ow id, .int _ n => guardQ (isSomeT P el && true) <| .br (decide (0 ≤ n)) (.ask id fun
      | some (.row e l _ _) => guardQ (Nat.beq (P.cellsOf el) e.cells) (.br (decide (n < ilen l)) (.ret (.eptr id n.toNat 0)) .fail)
      | _ => .fail) .fail
  | some (.array len el), x, .int _ n => guardQ (isSomeT P el && true) <| .br (decide (0 ≤ n)) (.br (decide (n < (len : Int))) (addOff x (n.toNat * P.cellsOf el)) .fail) .fail
  | _, _, _ => .fail
def indexQ (P : Program) (t : TypeId) (x i : AV) : Q AV :=
  match P.underlying t, x, i with
  | some .string, .str s, .int _ n => .br (decide (0 ≤ n)) (.opt _ s.data[n.toNat]? fun b => .ret (.int .u8 (b.toNat : Int))) .fail
  | some (.array len el), .agg cs, .int _ n => guardQ (isSomeT P el) <| .br (decide (0 ≤ n)) (.br (decide (n < (len : Int))) (part P el cs (n.toNat * P.cellsOf el)) .fail) .fail
  | _, _, _ => .fail
/-- A cut's bound: what is not said is the default. -/
def boundOf (d : Int) : Option AV → Option Int
  | none => some d
  | some (.int _ n) => some n
  | some _ => none
def sliceQ (P : Program) (t : TypeId) (x : AV) (lo hi mx : Option AV) : Q AV :=
  match P.underlying t, x, mx with
  | some .string, .str s, none => match boundOf 0 lo, boundOf (isize s) hi with
    | some a, some b => .br (decide (0 ≤ a)) (.br (decide (a ≤ b)) (.br (decide (b ≤ isize s)) (.ret (.str (s.extract a.toNat b.toNat))) .fail) .fail) .fail
    | _, _ => .fail
  | some (.slice el), .fz e l full nn, none => match boundOf 0 lo, boundOf (ilen l) hi with
    | some a, some b => guardQ (isSomeT P el && Nat.beq (P.cellsOf el) e.cells) <| .br (decide (0 ≤ a)) (.br (decide (a ≤ b)) (.br (decide (b ≤ ilen l)) (.ret (.fz e ((l.take b.toNat).drop a.toNat) (full && hi.isNone) nn)) .fail) .fail) .fail
    | _, _ => .fail
  | some (.slice el), .fz e l _ nn, some m => match boundOf 0 lo, boundOf (ilen l) hi, boundOf 0 (some m) with
    | some a, some b, some c => guardQ (isSomeT P el && Nat.beq (P.cellsOf el) e.cells && hi.isSome) <| .br (decide (0 ≤ a)) (.br (decide (a ≤ b)) (.br (decide (b ≤ c)) (.br (decide (c ≤ ilen l)) (.ret (.fz e ((l.take b.toNat).drop a.toNat) (decide (b = c)) nn)) .fail) .fail) .fail) .fail
    | _, _, _ => .fail
  | some (.slice el), .nils, none => match boundOf 0 lo, boundOf 0 hi with
    | some a, some b => guardQ (isSomeT P el) <| .br (decide (a = 0)) (.br (decide (b = 0)) (.ret .nils) .fail) .fail
    | _, _ => .fail
  | some (.slice el), .sl id off len, none => match boundOf 0 lo, boundOf len hi with
    | some a, some b => guardQ (isSomeT P el && true) <| .ask id fun
      | some (.row e _ cm _) => guardQ (Nat.beq (P.cellsOf el) e.cells) <| .br (decide (0 ≤ a)) (.br (decide (a ≤ b)) (.br (decide (b ≤ len)) (.ret (.sl id (off + a.toNat) (b.toNat - a.toNat)))
          (.br (decide (((off : Int) + b) ≤ cm)) (.ret (.sl id (off + a.toNat) (b.toNat - a.toNat))) .fail)) .fail) .fail
      | _ => .fail
    | _, _ => .fail
  | some (.slice el), .ow id, none => .ask id fun
    | some (.row e l cm _) => match boundOf 0 lo, boundOf (ilen l) hi with
      | some a, some b => guardQ (isSomeT P el && Nat.beq (P.cellsOf el) e.cells) <| .br (decide (0 ≤ a)) (.br (decide (a ≤ b)) (.br (decide (b ≤ ilen l)) (.ret (.sl id a.toNat (b.toNat - a.toNat))) (.br (decide (b ≤ cm)) (.ret (.sl id a.toNat (b.toNat - a.toNat))) .fail)) .fail) .fail
      | _, _ => .fail
    | _ => .fail
  | some (.slice el), .ow id, some m => .ask id fun
    | some (.row _ l _ _) => match boundOf 0 lo, boundOf (ilen l) hi, boundOf 0 (some m) with
      | some a, some b, some c => guardQ (isSomeT P el && hi.isSome) <| .br (decide (0 ≤ a)) (.br (decide (a ≤ b)) (.br (decide (b ≤ c)) (.br (decide (c ≤ ilen l)) (.ret .top) .fail) .fail) .fail) .fail
      | _, _, _ => .fail
    | _ => .fail
  | some (.slice el), .sl _ _ len, some m => match boundOf 0 lo, boundOf len hi, boundOf 0 (some m) with
    | some a, some b, some c => guardQ (isSomeT P el && hi.isSome) <| .br (decide (0 ≤ a)) (.br (decide (a ≤ b)) (.br (decide (b ≤ c)) (.br (decide (c ≤ len)) (.ret .top) .fail) .fail) .fail) .fail
    | _, _, _ => .fail
  | _, _, _ => .fail
def convQ (P : Program) (src dst : TypeId) (nid : Nat) (x : AV) : Q Upd :=
  match P.underlying src, P.underlying dst, x with
  | some (.int _), some (.int k), .int _ n => .ret { v := .int k (k.wrap n) }
  | some (.int _), some (.float .f64), .int _ n => .br (whole n) (.ret { v := .flt n }) .fail
  | some (.float .f64), some (.int k), .flt n => .br (decide (k.min ≤ n) && decide (n ≤ k.max)) (.ret { v := .int k n }) .fail
  | some .string, some .string, .str s => .ret { v := .str s }
  | some .string, some (.slice e), .str s => match P.underlying e with
    | some (.int .u8) => .ret { v := .ow nid, sets := [(nid, some (.row (.int .u8) (bytesList s) s.size false))], kills := [nid] }
    | _ => .fail
  | some (.slice e), some .string, x => match P.underlying e with
    | some (.int .u8) => (Q.elems (.int .u8) x).bind fun l => .ret { v := .str (strOf l) }
    | _ => .fail
  | _, _, _ => .fail
def lenQ (P : Program) (t : TypeId) (x : AV) : Q AV :=
  match P.underlying t, x with
  | some .string, .str s => .ret (.int .i64 (isize s))
  | some (.slice _), .fz _ l _ _ => .ret (.int .i64 (ilen l))
  | some (.slice _), .sl _ _ len => .ret (.int .i64 (len : Int))
  | some (.slice _), .ow id => .ask id fun
    | some (.row _ l _ _) => .ret (.int .i64 (ilen l))
    | some (.cells _) => .fail
    | none => .fail
  | some (.slice _), .nils => .ret (.int .i64 0)
  | some (.array n _), _ => .ret (.int .i64 (n : Int))
  | _, _ => .fail
/-- What is appended: a text's bytes, or a slice's elements. -/
def Q.src (P : Program) (e : Ty) (t : TypeId) (x : AV) : Q (List e.den) :=
  match P.underlying t, x with
  | some .string, .str s => match decEq (.int .u8) e with | .isTrue h => .ret (castRow (e := .int .u8) h (bytesList s)) | .isFalse _ => .fail
  | some (.slice _), x => Q.elems e x
  | _, _ => .fail
/-- The objects that a source of elements names: what is stored of them is data from now on. -/
def appendQ (P : Program) (nid : Nat) (t u : TypeId) (s x : AV) (mv : Bool := false) : Q Upd :=
  match elemTy P t with
  | none => .fail
  | some (el, e) => guardQ (Nat.ble 1 (P.bytesOf el)) <| (Q.src P e u x).bind fun vs =>
    let more (id : Nat) (l : List e.den) (cm : Nat) (kills : List Nat) : Q Upd :=
      .br (decide ((ilen l + ilen vs) * (P.bytesOf el : Int) ≤ room))
        (.ret { v := .ow id, sets := [(id, some (.row e (l ++ vs) (max cm (l.length + vs.length)) false))], kills := kills }) .fail
    match s with
    | .nils => more nid [] 0 [nid]
    | .ow id => Q.own e id fun l cm => bif mv && !Nat.beq id nid && !(x.refs.any (Nat.beq id)) && !(x.refs.any (Nat.beq nid))
      then .br (decide ((ilen l + ilen vs) * (P.bytesOf el : Int) ≤ room))
        (.ret { v := .ow nid, sets := [(id, none), (nid, some (.row e (l ++ vs) (max (max cm l.length) (l.length + vs.length)) false))], kills := [nid] }) .fail
      else more id l (max cm l.length) [id]
    | .sl id 0 n => Q.own e id fun l cm => bif mv && !Nat.beq id nid && !(x.refs.any (Nat.beq id)) && !(x.refs.any (Nat.beq nid))
      then .br (Nat.ble n l.length) (.br (decide ((ilen (l.take n) + ilen vs) * (P.bytesOf el : Int) ≤ room))
        (.ret { v := .ow nid, sets := [(id, none), (nid, some (.row e (l.take n ++ vs) (max (max cm l.length) ((l.take n).length + vs.length)) false))], kills := [nid] }) .fail) .fail
      else .br (Nat.ble n l.length) (more id (l.take n) (max cm l.length) [id]) .fail
    | _ => .fail
def copyQ (P : Program) (t u : TypeId) (d x : AV) : Q Upd :=
  match elemTy P t, d with
  | some (_, e), .sl id off len => (Q.src P e u x).bind fun vs => Q.own e id fun l cm => .br (Nat.ble (off + len) l.length)
      (.ret { v := .int .i64 (if ilen vs < (len : Int) then ilen vs else (len : Int)), sets := [(id, some (.row e (l.take off ++ vs.take len ++ l.drop (off + min vs.length len)) cm false))] }) .fail
  | some (_, e), .ow id => (Q.src P e u x).bind fun vs => Q.own e id fun l cm =>
      .ret { v := .int .i64 (if ilen vs < ilen l then ilen vs else ilen l), sets := [(id, some (.row e (vs.take l.length ++ l.drop vs.length) cm false))] }
  | _, _ => .fail
def clearQ (P : Program) (t : TypeId) (d : AV) : Q Upd :=
  match elemTy P t, d with
  | some (_, e), .sl id off len => Q.own e id fun l cm => .br (Nat.ble (off + len) (max cm l.length))
      (.ret { v := .top, sets := [(id, some (.row e (l.take off ++ (List.replicate (min len (l.length - off)) (zeroOf e)) ++ l.drop (off + len)) cm false))] }) .fail
  | _, _ => .fail
def minMaxQ (mx : Bool) : List AV → Q AV
  | [.int k a, .int k' b] => match decEq k k' with
    | .isTrue _ => .ret (.int k (bif mx then (if b > a then b else a) else (if b < a then b else a)))
    | .isFalse _ => .fail
  | _ => .fail
end Go.Proofs.YtdbenenonfldkaaDoor.PE
