/- An evaluator over the model's own code, on abstract values: operations, regions, code. -/
import Derived.Test.YtdbenenonfldkaaDoorEDefs
namespace Go.Proofs.YtdbenenonfldkaaDoor.PE
set_option linter.unusedVariables false
/-- What a run is given: the program, the contracts of its functions, and of each loop and region what its state is restricted to. -/
structure Hint where
  tmps : List Nat
  obs : List Nat
  nils : List (Nat × Nat × Ty) := []
  kl : List Nat := []
  cn : List (Nat × Nat × Nat × Ty) := []
  whole : Bool := false
  /-- Slots whose rows are known by their length alone from now on. -/
  slim : List Nat := []
structure Cfg where
  P : Program
  sig : FuncId → Option Sig
  hb : FuncId → Nat → Option Hint
  hr : FuncId → Nat → Option Hint
  un : FuncId → Nat → Nat := fun _ _ => 0
  ps : FuncId → List AV → Option Sig := fun _ _ => none
  mv : Bool := false
def opnd (σ : St) : Operand → AV
  | .tmp t => σ.tm t
  | .const v => AV.ofVal v
  | .func f => .func f []
  | .global _ => .top
/-- What is said of cells that become data: the data, the rows that are lent, and, for each row that is handed over, which one (none: nil), and an element's cells. -/
structure Given where
  dvs : List DV
  lent : List Nat
  given : List (Option Nat × Nat)
/-- One cell of a call's argument: a datum that is lent, or a row that is handed over. -/
def argCell (own : Bool) (t : Ty) (v : AV) : Q Given :=
  match own, t, v with
  | true, .slice e, .sl id 0 n => .ask id fun
    | some (.row e' l _ false) => match decEq e' e with
      | .isTrue h => .br (Nat.ble n l.length) (.ret ⟨[⟨.slice e, castRow h (l.take n)⟩], [], [(some id, e.cells)]⟩) .fail
      | .isFalse _ => .fail
    | _ => .fail
  | true, .slice e, .ow id => .ask id fun
    | some (.row e' l _ false) => match decEq e' e with
      | .isTrue h => .ret ⟨[⟨.slice e, castRow h l⟩], [], [(some id, e.cells)]⟩
      | .isFalse _ => .fail
    | _ => .fail
  | true, .slice e, .nils => .ret ⟨[⟨.slice e, ([] : List e.den)⟩], [], [(none, e.cells)]⟩
  | true, _, _ => .fail
  | false, t, .sl id off n => .ask id fun
    | some (.row _ _ _ _) => (Q.impAll t [.sl id off n]).bind fun x => .ret ⟨[⟨t, x⟩], [id], []⟩
    | _ => .fail
  | false, t, .ow id => .ask id fun
    | some (.row _ _ _ _) => (Q.impAll t [.ow id]).bind fun x => .ret ⟨[⟨t, x⟩], [id], []⟩
    | _ => .fail
  | false, .fn f t, .func f' cs => match decEq f' f with
    | .isTrue _ => (Q.caps t cs).bind fun x => match x.2.2 with
      | [] => .ret ⟨[⟨.fn f t, x.1⟩], x.2.1, []⟩
      | _ => .fail
    | .isFalse _ => .fail
  | false, t, v => (Q.impAll t [v]).bind fun x => .ret ⟨[⟨t, x⟩], [], []⟩
def Given.app (x y : Given) : Given := ⟨x.dvs ++ y.dvs, x.lent ++ y.lent, x.given ++ y.given⟩
/-- The cells of a call's argument as data. -/
def argCells : List AV → List (Bool × Ty) → Q Given
  | [], [] => .ret ⟨[], [], []⟩
  | v :: r, m :: ms => (argCell m.1 m.2 v).bind fun x => (argCells r ms).bind fun y => .ret (x.app y)
  | _, _ => .fail
def AV.isAgg : AV → Bool
  | .agg _ => true
  | _ => false
def argsCells : List AV → List Mode → Q Given
  | [], [] => .ret ⟨[], [], []⟩
  | v :: r, m :: ps => guardQ (v.solid && (v.isAgg == m.1)) <| (argCells v.cells m.2).bind fun x => (argsCells r ps).bind fun y => .ret (x.app y)
  | _, _ => .fail
/-- Data as abstract cells: the rows that are handed over get names from 'nid' on. -/
def avCells : Nat → List (Bool × Ty) → List DV → List AV × List (Nat × Option Ob) × Nat × List DV
  | nid, (true, _) :: ms, ⟨.slice e, l⟩ :: ds => let y := avCells (nid + 1) ms ds; (.ow nid :: y.1, (nid, some (.row e l 0 false)) :: y.2.1, y.2.2.1, y.2.2.2)
  | nid, (_, _) :: ms, ⟨t, x⟩ :: ds => let y := avCells nid ms ds; (t.exp x ++ y.1, y.2.1, y.2.2.1, y.2.2.2)
  | nid, _, ds => ([], [], nid, ds)
def oneAV : List AV → AV
  | [v] => v
  | _ => .top
def avVals : Nat → List Mode → List DV → List AV × List (Nat × Option Ob)
  | nid, m :: ms, ds =>
    let y := avCells nid m.2 ds
    let z := avVals y.2.2.1 ms y.2.2.2
    ((bif m.1 then .agg y.1 else oneAV y.1) :: z.1, y.2.1 ++ z.2)
  | _, [], _ => ([], [])
mutual
/-- Leads a value to no data? -/
def AV.light : AV → Bool
  | .fz _ _ _ _ => false
  | .fptr _ _ _ => false
  | .func _ cs => AV.lightAll cs
  | .bnd _ cs => AV.lightAll cs
  | .agg cs => AV.lightAll cs
  | .tup cs => AV.lightAll cs
  | _ => true
def AV.lightAll : List AV → Bool
  | [] => true
  | v :: r => v.light && AV.lightAll r
end
mutual
/-- A value, without the data that it leads to. -/
def AV.drop : AV → AV
  | .fz _ _ _ _ => .any
  | .fptr _ _ _ => .top
  | .agg cs => .agg (AV.dropAll cs)
  | v => v
def AV.dropAll : List AV → List AV
  | [] => []
  | v :: r => v.drop :: AV.dropAll r
end
def lightOb : Nat × Option Ob → Bool
  | (_, some (.row e _ _ _)) => e.flat
  | _ => false
/-- The objects that were lent are no one's from now on. -/
def freezeIds : List Nat → Q (List (Nat × Option Ob))
  | [] => .ret []
  | id :: r => .ask id fun
    | some (.row e l cm frz) => (freezeIds r).bind fun s => .ret (bif frz then s else (id, some (.row e l cm true)) :: s)
    | some (.cells _) => (freezeIds r).bind fun s => .ret ((id, none) :: s)
    | none => .fail
def resOf : List AV → AV
  | [v] => v
  | vs => .tup vs
def distinct : List Nat → Bool
  | [] => true
  | x :: r => !(r.any (Nat.beq x)) && distinct r
def callQ (s : Sig) (nid : Nat) (args : List AV) : Q Upd :=
  (argsCells args s.pm).bind fun a =>
  match s.f a.dvs with
  | .no => .fail
  | .yes β o mk => .opt β o fun r =>
    let res := avVals nid s.rm (mk r)
    let vs := bif s.dr then AV.dropAll res.1 else res.1
    let gone := a.given.filterMap (·.1)
    (bif AV.lightAll vs && res.2.all lightOb then .ret [] else freezeIds a.lent).bind fun fr =>
    guardQ (!(gone.any fun i => a.lent.any (Nat.beq i)) && distinct gone) <|
    .ret { v := resOf vs, sets := fr ++ (gone.map (fun i => (i, none)) ++ res.2), kills := res.2.map (·.1) }
def argOf : List AV → Nat → AV
  | [], _ => .top
  | v :: _, 0 => v
  | _ :: r, n + 1 => argOf r n
def builtinQ (P : Program) (mv : Bool) (nid : Nat) (b : Builtin) (ts : List TypeId) (args : List AV) : Q Upd :=
  match b, ts, args with
  | .len, [t], [x] => plainUpd (lenQ P t x)
  | .append, [t, u], [s, x] => appendQ P nid t u s x mv
  | .copy, [t, u], [d, x] => copyQ P t u d x
  | .clear, [t], [d] => clearQ P t d
  | .min, _, [x, y] => plainUpd (minMaxQ false [x, y])
  | .max, _, [x, y] => plainUpd (minMaxQ true [x, y])
  | .complex, _, [.flt a, .flt b] => .ret { v := .cpx a b }
  | .real, _, [.cpx a _] => .ret { v := .flt a }
  | .imag, _, [.cpx _ b] => .ret { v := .flt b }
  | _, _, _ => .fail
def buildParts (place : Nat → Option (Nat × Nat)) : List AV → List (Nat × AV) → Q (List AV)
  | cs, [] => .ret cs
  | cs, (i, v) :: r => match place i with
    | some (off, size) => guardQ (v.solid && Nat.beq v.cells.length size && Nat.ble (off + size) cs.length) (buildParts place (putCells cs off v.cells) r)
    | none => .fail
def fieldsPlace (P : Program) (fs : List Field) (i : Nat) : Option (Nat × Nat) := match fs[i]? with
  | some f => some (f.offset, P.cellsOf f.type)
  | none => none
def impMany (e : Ty) (sz : Nat) : Nat → List AV → Q (List e.den)
  | 0, _ => .ret []
  | n + 1, cs => (Q.impAll e (cs.take sz)).bind fun x => (impMany e sz n (cs.drop sz)).bind fun r => .ret (x :: r)
def buildSliceQ (P : Program) (nid : Nat) (t : TypeId) (len : Nat) (parts : List (Nat × AV)) : Q Upd :=
  match P.underlying t with
  | some (.slice el) => match zeroAV P el with
    | none => .fail
    | some z =>
      let sz := P.cellsOf el
      guardQ (z.solid && Nat.beq z.cells.length sz && Nat.ble (len * sz) 16777216 && Nat.ble 1 sz) <|
      (buildParts (fun i => some (i * sz, sz)) ((List.replicate len z.cells).flatten) parts).bind fun cs =>
      match tyOf P 60 el with
      | some e => guardQ (Nat.beq e.cells sz) <| (impMany e sz len cs).bind fun l => (Q.freeze cs).bind fun fr =>
        .ret { v := .ow nid, sets := fr ++ [(nid, some (.row e l len false))], kills := [nid] }
      | none => guardQ (Nat.beq sz 1) <| .ret { v := .sl nid 0 len, sets := [(nid, some (.cells (AV.killAll [nid] cs)))], kills := [nid] }
  | _ => .fail
def makeSliceQ (P : Program) (nid : Nat) (t : TypeId) (len cap : AV) : Q Upd :=
  match elemTy P t, len, cap with
  | some (el, e), .int _ n, .int _ m => .br (decide (n = m)) (.br (decide (0 ≤ n)) (.br (decide (n * (P.bytesOf el : Int) ≤ room ∧ n ≤ room))
      (.ret { v := .ow nid, sets := [(nid, some (.row e (List.replicate n.toNat (zeroOf e)) n.toNat false))], kills := [nid] }) .fail) .fail) .fail
  | _, _, _ => .fail
/-- An operation that calls nothing. -/
def opQ (P : Program) (nid : Nat) (ρ : Operand → AV) : Op → Q Upd
  | .move x => .ret { v := ρ x }
  | .assign x => .ret { v := ρ x }
  | .pick c a b => match ρ c with
    | .bool t => .br t (.ret { v := ρ a }) (.ret { v := ρ b })
    | _ => .fail
  | .alloc e => match zeroAV P e with
    | some z => guardQ z.solid (.ret { v := .ptr nid 0, sets := [(nid, some (.cells (AV.killAll [nid] z.cells)))], kills := [nid] })
    | none => .fail
  | .box _ x => guardQ (ρ x).solid <| .ret { v := .ptr nid 0, sets := [(nid, some (.cells (AV.killAll [nid] (ρ x).cells)))], kills := [nid] }
  | .build t parts => match zeroAV P t, P.underlying t with
    | some z, some (.struct fs) => plainUpd <| guardQ (z.solid && fs.toList.all fun f => isSomeT P f.type) ((buildParts (fieldsPlace P fs.toList) z.cells (parts.toList.map fun p => (p.1, ρ p.2))).bind fun cs => .ret (.agg cs))
    | some z, some (.array _ e) => plainUpd <| guardQ (z.solid && isSomeT P e) ((buildParts (fun i => some (i * P.cellsOf e, P.cellsOf e)) z.cells (parts.toList.map fun p => (p.1, ρ p.2))).bind fun cs => .ret (.agg cs))
    | _, _ => .fail
  | .buildSlice t len parts => buildSliceQ P nid t len (parts.toList.map fun p => (p.1, ρ p.2))
  | .load t a => plainUpd ((Q.cellsAt (ρ a)).bind fun x => part P t x.1 x.2)
  | .store t a v => storeQ P t (ρ a) (ρ v)
  | .nilCheck x => match ρ x with
    | .ptr id off => .ret { v := .ptr id off }
    | .eptr id i off => .ret { v := .eptr id i off }
    | .fptr t x off => .ret { v := .fptr t x off }
    | .func f cs => .ret { v := .func f cs }
    | .bnd f cs => .ret { v := .bnd f cs }
    | _ => .fail
  | .binOp op t x y _ => plainUpd (binQ P op t (ρ x) (ρ y))
  | .unOp op _ x => plainUpd (unQ op (ρ x))
  | .convert s d x => convQ P s d nid (ρ x)
  | .makeFunc (.func f) ⟨[]⟩ caps => .ret { v := .func f (caps.toList.map ρ) }
  | .makeFunc (.func f) first ⟨[]⟩ => .ret { v := .bnd f (first.toList.map ρ) }
  | .makeSlice t l c => makeSliceQ P nid t (ρ l) (ρ c)
  | .slice t x lo hi mx => plainUpd (sliceQ P t (ρ x) (lo.map ρ) (hi.map ρ) (mx.map ρ))
  | .fieldAddr s x f => match P.underlying s with
    | some (.struct fs) => match fs.toList[f]? with
      | some fd => plainUpd (guardQ (isSomeT P fd.type && !(Nat.beq (P.cellsOf fd.type) 0)) (addOff (ρ x) fd.offset))
      | none => .fail
    | _ => .fail
  | .field s x f => match P.underlying s, ρ x with
    | some (.struct fs), .agg cs => match fs.toList[f]? with
      | some fd => plainUpd (part P fd.type cs fd.offset)
      | none => .fail
    | _, _ => .fail
  | .indexAddr t x i => plainUpd (indexAddrQ P t (ρ x) (ρ i))
  | .index t x i => plainUpd (indexQ P t (ρ x) (ρ i))
  | .extract x i => match ρ x with
    | .tup vs => match vs[i]? with
      | some v => .ret { v := v }
      | none => .fail
    | _ => .fail
  | .call c => match c.callee with
    | .builtin b => builtinQ P false nid b c.argTypes.toList (c.args.toList.map ρ)
    | _ => .fail
  | _ => .fail
/-- A footprint: what was asked for or named, and what was written. -/
structure Fp where
  t : List Nat
  w : List Nat
  z : List Nat
  a : List Nat
/-- How a run leaves a piece of code. -/
inductive Ex where
  | normal
  | exit (id : Nat)
  | ret
  | jump (l : Nat)
def newName : List (Nat × Nat) → Nat → Nat
  | [], i => i
  | p :: r, i => bif Nat.beq p.1 i then p.2 else newName r i
mutual
def AV.rename (ns : List (Nat × Nat)) : AV → AV
  | .sl id off len => .sl (newName ns id) off len
  | .ow id => .ow (newName ns id)
  | .agg cs => .agg (AV.renameAll ns cs)
  | .tup cs => .tup (AV.renameAll ns cs)
  | .ptr id off => .ptr (newName ns id) off
  | .eptr id i off => .eptr (newName ns id) i off
  | .func f cs => .func f (AV.renameAll ns cs)
  | .bnd f cs => .bnd f (AV.renameAll ns cs)
  | v => v
def AV.renameAll (ns : List (Nat × Nat)) : List AV → List AV
  | [] => []
  | v :: r => v.rename ns :: AV.renameAll ns r
end
def Ob.rename (ns : List (Nat × Nat)) : Ob → Ob
  | .cells cs => .cells (AV.renameAll ns cs)
  | o => o
def refsOb : Option Ob → List Nat
  | some (.cells cs) => AV.refsAll cs
  | _ => []
def dedup : List Nat → List Nat
  | [] => []
  | x :: r => bif r.any (Nat.beq x) then dedup r else x :: dedup r
def nameAll (nid : Nat) : List Nat → List (Nat × Nat)
  | [] => []
  | x :: r => (x, nid) :: nameAll (nid + 1) r
def isRow : Option Ob → Bool
  | some (.row _ _ _ _) => true
  | _ => false
/-- The objects that can be come to. -/
def reachQ : Nat → List Nat → List Nat → Q (List Nat)
  | 0, _, _ => .fail
  | _ + 1, [], seen => .ret seen
  | n + 1, ids, seen => (expand ids seen).bind fun x => reachQ n x.1 x.2
where
  expand : List Nat → List Nat → Q (List Nat × List Nat)
    | [], seen => .ret ([], seen)
    | id :: r, seen => bif seen.any (Nat.beq id) then expand r seen else .ask id fun
      | some (.cells cs) => (expand r (id :: seen)).bind fun x => .ret (AV.refsAll cs ++ x.1, x.2)
      | some _ => expand r (id :: seen)
      | none => .fail
section
variable {α : Type}
abbrev Kt (α : Type) := Ex → St → Option α
/-- A call that is run in place: the function, the number from which its objects are named, its arguments, the state, and what comes behind. -/
abbrev Inl (α : Type) := FuncId → Nat → List AV → (Nat → Option Ob) → (AV → (Nat → Option Ob) → List Nat → Option α) → Option α
def idOf (base : Nat) (o : Oper) : Nat := base + 8 * (o.dst.getD 0)
/-- What an update names and what it writes, when so much was asked for. -/
def Upd.fp (u : Upd) (t a : List Nat) : Fp := { t := a ++ (t ++ (u.v.refs ++ u.sets.flatMap fun p => refsOb p.2)), w := u.kills ++ u.sets.map (·.1), z := u.kills, a := a }
def quietC (q : Q Upd) (refs : List Nat) (o : Oper) (σ : St) (k : St → Fp → Option α) : Option α := q.cps σ.ob [] fun u T => k (u.app σ o.dst) (u.fp refs T)
/-- What a call that was run in place did. -/
def inlUpd (nid : Nat) (ids : List Nat) (v : AV) (ob : Nat → Option Ob) (kl : List Nat) : List (Nat × Nat) × Upd :=
  let outs := dedup ((v.refs ++ ids.flatMap fun i => refsOb (ob i)).filter fun i => !(ids.any (Nat.beq i)))
  let ns := nameAll nid outs
  (ns, { v := v.rename ns, sets := ids.map (fun i => (i, (ob i).map (Ob.rename ns))) ++ ns.map (fun p => (p.2, ob p.1)), kills := ids.filter (fun i => kl.any (Nat.beq i)) ++ ns.map (·.2) })
/-- What a function value calls: the function, what stands ahead of the arguments, what it has captured. -/
def calleeOf : AV → Option (FuncId × List AV × List AV)
  | .func f cs => some (f, [], cs)
  | .bnd f fs => some (f, fs, [])
  | _ => none
/-- One operation of a region, wanted. -/
def operC (C : Cfg) (inl : Inl α) (base : Nat) (o : Oper) (σ : St) (k : St → Fp → Option α) : Option α :=
  match o.op with
  | .call c => match c.callee with
    | .value f => match calleeOf (opnd σ f) with
      | some (g, first, caps) =>
        let args := first ++ c.args.toList.map (opnd σ) ++ caps
        match C.sig g with
        | some s => quietC (callQ s (idOf base o) args) (AV.refsAll args) o σ k
        | none => (reachQ 4 (AV.refsAll args) []).cps σ.ob [] fun ids T => inl g base args (fun i => bif ids.any (Nat.beq i) then σ.ob i else none) fun v ob kl =>
          let x := inlUpd (idOf base o) ids v ob kl
          bif x.1.all (fun p => isRow (ob p.1) && !(ids.any (Nat.beq p.2))) then k (x.2.app σ o.dst) (x.2.fp [] (ids ++ T)) else none
      | none => none
    | .builtin b => quietC (builtinQ C.P C.mv (idOf base o) b c.argTypes.toList (c.args.toList.map (opnd σ))) (AV.refsAll (c.args.toList.map (opnd σ))) o σ k
    | _ => none
  | op => quietC (opQ C.P (idOf base o) (opnd σ) op) (AV.refsAll (op.operands.toList.map (opnd σ))) o σ k
def dstOf (ops : List Oper) (j : Nat) : Option Nat := match ops[j]? with | some o => o.dst | none => none
/-- One operation of a region, with its guard. -/
def stepC (C : Cfg) (inl : Inl α) (base : Nat) (all : List Oper) (o : Oper) (σ : St) (k : St → Fp → Option α) : Option α := match o.guard with
  | none => operC C inl base o σ k
  | some (j, want) => match dstOf all j with
    | none => none
    | some d => match σ.tm d with
      | .bool b => bif b
        then (bif want then operC C inl base o (σ.set d (.bool true)) k else k ((σ.set d (.bool true)).put o.dst (.tup [])) ⟨[], [], [], []⟩)
        else (bif want then k ((σ.set d (.bool false)).put o.dst (.tup [])) ⟨[], [], [], []⟩ else operC C inl base o (σ.set d (.bool false)) k)
      | .tup [] => k ((σ.set d (.tup [])).put o.dst (.tup [])) ⟨[], [], [], []⟩
      | _ => none
/-- A region's operations, in their order. -/
def opsC (C : Cfg) (inl : Inl α) (base : Nat) (all : List Oper) : Nat → List Oper → St → List (Nat × Fp) → (St → List (Nat × Fp) → Option α) → Option α
  | _, [], σ, fs, k => k σ fs
  | i, o :: r, σ, fs, k => stepC C inl base all o σ fun σ' f => opsC C inl base all (i + 1) r σ' ((i, f) :: fs) k
def meets (a b : List Nat) : Bool := a.any fun i => b.any (Nat.beq i)
def Fp.apart (a b : Fp) : Bool := !meets a.w b.a && !meets a.w b.w && !meets b.w a.a && !meets a.z b.t && !meets b.z a.t
/-- The slots that an operation looks at. -/
def looks (all : List Oper) (o : Oper) : List Nat := (o.op.operands.toList.filterMap fun | .tmp t => some t | _ => none) ++ (match o.guard with | some (j, _) => (dstOf all j).toList | none => [])
def tmpApart (all : List Oper) (x y : Oper) : Bool := (x.dst.toList.all fun d => !((looks all y).any (Nat.beq d)) && !(y.dst.toList.any (Nat.beq d))) && y.dst.toList.all fun d => !((looks all x).any (Nat.beq d))
/-- Only what is new was named. -/
def light (base : Nat) (o : Oper) (f : Fp) : Bool := f.z.all fun i => Nat.ble (idOf base o) i && Nat.blt i (idOf base o + 8)
def newNames (base : Nat) (ops : List Oper) : List Nat := ops.flatMap fun o => List.range' (idOf base o) 8
/-- May an operation change places with another one? -/
def moves (n : Nat) (bs : List Nat) (j : Nat) : Bool := (List.range n).any fun i => (Nat.blt i j && !Nat.testBit (bs.getD j 0) i) || (Nat.blt j i && !Nat.testBit (bs.getD i 0) j)
/-- Two operations of a region that draws its order, the first of which stands first in the text. -/
def pairOk (all : List Oper) (bs : List Nat) (i : Nat) (f : Fp) (j : Nat) (f' : Fp) : Bool := (!moves all.length bs j || !meets f'.z f.t) && (Nat.testBit (bs.getD j 0) i || match all[i]?, all[j]? with
  | some x, some y => Fp.apart f f' && tmpApart all x y && moves all.length bs i && moves all.length bs j
  | _, _ => false)
def pairsOk (all : List Oper) (bs : List Nat) : List (Nat × Fp) → Bool
  | [] => true
  | (j, f) :: r => r.all (fun x => pairOk all bs x.1 x.2 j f) && pairsOk all bs r
def lightsOk (base : Nat) (all : List Oper) (bs : List Nat) (fs : List (Nat × Fp)) : Bool := fs.all fun x => !moves all.length bs x.1 || match all[x.1]? with
  | some o => light base o x.2
  | none => false
/-- The bit sets that say what stands ahead of what: no more than the edges say. -/
def bitsOk (bs : List Nat) (i : Nat) : List Oper → Bool
  | [] => true
  | o :: r => (o.after.toList.all fun e => !Region.binds .any e || Nat.blt e.on i) && ((List.range i).all fun j => !Nat.testBit (bs.getD i 0) j || o.after.toList.any fun e => Region.binds .any e && (Nat.beq e.on j || (Nat.blt j e.on && Nat.testBit (bs.getD e.on 0) j))) && bitsOk bs (i + 1) r
def drawOk (P : Program) (base : Nat) (ops : Array Oper) (fs : List (Nat × Fp)) : Bool :=
  let b := (Region.before ops).toList
  P.follows .mixedOrders && bitsOk b 0 ops.toList && pairsOk ops.toList b fs && lightsOk base ops.toList b fs
def restrictOb (ids : List Nat) (ob : Nat → Option Ob) : List (Nat × Option Ob) := ids.map fun i => (i, ob i)
def St.ofLists (ts : List (Nat × AV)) (os : List (Nat × Option Ob)) (kl : List Nat := []) : St :=
  { tm := fun t => match ts.find? (fun p => Nat.beq p.1 t) with | some p => p.2 | none => .top,
    ob := fun i => match os.find? (fun p => Nat.beq p.1 i) with | some p => p.2 | none => none, kl := kl }
/-- A row gets another name. -/
def renameSt (σ : St) (i id : Nat) : St :=
  let σ1 := σ.kill [id]
  { tm := fun t => (σ1.tm t).rename [(i, id)], ob := fun j => bif Nat.beq j id then σ1.ob i else bif Nat.beq j i then none else (σ1.ob j).map (Ob.rename [(i, id)]), kl := i :: id :: σ.kl }
def emptyRow (id : Nat) (e : Ty) : Upd := { v := .ow id, sets := [(id, some (.row e [] 0 false))], kills := [id] }
/-- A nil slice in a slot becomes a row of one's own that is empty; a row gets the name that it is to have. -/
def ownNils (σ : St) : List (Nat × Nat × Ty) → St
  | [] => σ
  | (t, id, e) :: r => match σ.tm t with
    | .nils => ownNils ((emptyRow id e).app σ (some t)) r
    | .ow i => bif !Nat.beq i id && isRow (σ.ob i) then ownNils (renameSt σ i id) r else ownNils σ r
    | _ => ownNils σ r
/-- The same in a variable's cell. -/
def ownCells (σ : St) : List (Nat × Nat × Nat × Ty) → St
  | [] => σ
  | (c, j, id, e) :: r => match σ.ob c with
    | some (.cells cs) => match cs[j]? with
      | some .nils =>
        let σ1 := (emptyRow id e).app σ none
        match σ1.ob c with
        | some (.cells ds) => ownCells { σ1 with ob := fun i => bif Nat.beq i c then some (.cells (ds.set j (.ow id))) else σ1.ob i } r
        | _ => σ
      | some (.ow i) => bif !Nat.beq i id && isRow (σ.ob i) then ownCells (renameSt σ i id) r else ownCells σ r
      | _ => ownCells σ r
    | _ => ownCells σ r
/-- Nothing is known any more of a row's capacity. -/
def noCap : Option Ob → Option Ob
  | some (.row e l _ frz) => some (.row e l 0 frz)
  | o => o
/-- Slots that hold a whole row hold a slice of it, of its length as it is. -/
def slimSt (σ : St) : List Nat → St
  | [] => σ
  | t :: r => { σ with tm := fun i => bif (t :: r).any (Nat.beq i) then (match σ.tm i with
      | .ow id => (match σ.ob id with | some (.row _ l _ _) => .sl id 0 l.length | _ => .ow id)
      | v => v) else σ.tm i }
def Hint.app (h : Hint) (σ : St) : St :=
  let σ1 := slimSt (ownCells (ownNils σ h.nils) h.cn) h.slim
  bif h.whole then σ1 else St.ofLists (h.tmps.map fun t => (t, σ1.tm t)) (h.obs.map fun i => (i, noCap (σ1.ob i))) (bif σ1.kl.all (fun i => h.kl.any (Nat.beq i)) then h.kl else σ1.kl)
def hinted (h : Option Hint) (σ : St) : St := match h with | some h => h.app σ | none => σ
end
section
variable {α : Type}
def thenK (b : St → Kt α → Option α) (k : Kt α) : Kt α := fun e σ => match e with
  | .normal => b σ k
  | e => k e σ
def blockK (id : Nat) (k : Kt α) : Kt α := fun e σ => match e with
  | .exit i => bif Nat.beq i id then k .normal σ else k (.exit i) σ
  | e => k e σ
def againK (again : St → Option α) (k : Kt α) : Kt α := fun e σ => match e with
  | .normal => again σ
  | e => k e σ
/-- Jumps back to a label are the next round of what stands behind it. -/
def jumpK (l : Nat) (k : Kt α) : Kt α := fun e σ => match e with
  | .jump l' => bif Nat.beq l' l then k .normal σ else none
  | .normal => none
  | e => k e σ
/-- No jump leads out. -/
def shutK (k : Kt α) : Kt α := fun e σ => match e with
  | .jump _ => none
  | e => k e σ
/-- A loop's rounds, so many at most. -/
def iterN (h : Option Hint) (body : St → Kt α → Option α) (k : Kt α) : Nat → St → Option α
  | 0, _ => none
  | n + 1, σ => body σ (againK (fun σ' => iterN h body k n (hinted h σ')) k)
open Classical in
/-- A loop: what it comes to with rounds enough. -/
noncomputable def loopL (h : Option Hint) (body : St → Kt α → Option α) (σ : St) (k : Kt α) : Option α :=
  if h : ∃ n r, iterN h body k n σ = some r then some h.choose_spec.choose else none
open Classical in
/-- A piece that is looked at apart: the same as the piece. -/
noncomputable def cutL (_ _ : Nat) (b : St → Kt α → Option α) (σ : St) (k : Kt α) : Option α := if h : ∃ r, b σ k = some r then some h.choose else none
/-- A loop; or so many rounds of it at most. -/
noncomputable def loopU (n : Nat) (h : Option Hint) (body : St → Kt α → Option α) (σ : St) (k : Kt α) : Option α := match n with
  | 0 => loopL h body σ k
  | n + 1 => iterN h body k (n + 1) σ
/-- A region. -/
def regC (C : Cfg) (inl : Inl α) (base : Nat) (ops : Array Oper) (draw : Bool) (σ : St) (k : Kt α) : Option α := bif draw
    then opsC C inl base ops.toList 0 ops.toList (σ.kill (newNames base ops.toList)) [] fun σ' fs => bif drawOk C.P base ops fs then k .normal σ' else none
    else opsC C inl base ops.toList 0 ops.toList σ [] fun σ' _ => k .normal σ'
/-- A piece of code, run on an abstract state. -/
noncomputable def runC (C : Cfg) (inl : Inl α) (fn base : Nat) : Code → Nat → St → Kt α → Option α
  | .skip, _, σ, k => k .normal σ
  | .label _, _, σ, k => k .normal σ
  | .ret, _, σ, k => k .ret σ
  | .exit id, _, σ, k => k (.exit id) σ
  | .seq a b, cur, σ, k => runC C inl fn base a cur σ (thenK (fun σ' k' => runC C inl fn base b cur σ' k') k)
  | .cond c a b, cur, σ, k => match opnd σ c with
    | .bool t => bif t then runC C inl fn base a cur σ k else runC C inl fn base b cur σ k
    | _ => none
  | .block id c, _, σ, k => runC C inl fn base c id σ (blockK id k)
  | .scope c, cur, σ, k => match c with
    | .seq r1 (.seq r2 (.seq (.label l) b)) => bif (findLabel r1 l).isNone && (findLabel r2 l).isNone then
        runC C inl fn base r1 cur σ (thenK (fun σ' k' => runC C inl fn base r2 cur σ' (thenK (fun σ2 k2 =>
          loopL (C.hb fn (90000 + l)) (fun σ k => runC C inl fn base b cur σ (jumpK l k)) (hinted (C.hb fn (90000 + l)) σ2) k2) k')) (shutK k)) else none
    | c => runC C inl fn base c cur σ (shutK k)
  | .goto l, _, σ, k => k (.jump l) σ
  | .loop c, cur, σ, k => loopU (C.un fn cur) (C.hb fn cur) (fun σ' k' => runC C inl fn base c cur σ' k') (hinted (C.hb fn cur) σ) k
  | .region id ops draw, _, σ, k => match C.hr fn id with
    | none => regC C inl base ops draw σ k
    | some h => match h.slim with
      | [] => cutL fn id (fun σ' k' => regC C inl base ops draw σ' k') (h.app σ) k
      | _ :: _ => regC C inl base ops draw (h.app σ) k
  | _, _, _, _ => none
/-- Is each slot that is written there? -/
def dstsBelow (n : Nat) : Code → Bool
  | .region _ ops _ => ops.toList.all fun o => match o.dst with | some d => Nat.blt d n | none => true
  | .seq a b => dstsBelow n a && dstsBelow n b
  | .cond _ a b => dstsBelow n a && dstsBelow n b
  | .block _ c => dstsBelow n c
  | .loop c => dstsBelow n c
  | .scope c => dstsBelow n c
  | _ => true
/-- What a function hands back. -/
def resultsQ (P : Program) (σ : St) : List ResultVar → Q (List AV)
  | [] => .ret []
  | .tmp t :: r => (resultsQ P σ r).bind fun vs => .ret (σ.tm t :: vs)
  | .cell a t :: r => ((Q.cellsAt (σ.tm a)).bind fun x => part P t x.1 x.2).bind fun v => (resultsQ P σ r).bind fun vs => .ret (v :: vs)
def retK (P : Program) (fn : Func) (k : AV → (Nat → Option Ob) → List Nat → Option α) : Kt α := fun e σ => match e with
  | .exit _ => none
  | .jump _ => none
  | _ => (resultsQ P σ fn.results.toList).cps σ.ob [] fun vs _ => k (resOf vs) σ.ob σ.kl
def enter (args : List AV) (ob : Nat → Option Ob) : St := { tm := argOf args, ob := ob }
def callable (P : Program) (f : FuncId) : Option (Func × Code) := match P.funcs[f]? with
  | some fn => match fn.body with
    | some c => bif fn.name == "runtime.NumGoroutine" || !dstsBelow fn.ntmps c then none else some (fn, c)
    | none => none
  | none => none
/-- A call of a method by what it makes of the cells that its receiver points to: they go ahead of its arguments, and of its results. -/
def psC (s : Sig) (args : List AV) (ob : Nat → Option Ob) (k : AV → (Nat → Option Ob) → List Nat → Option α) : Option α := match args with
  | .ptr id 0 :: rest => match ob id with
    | some (.cells cs) => (argsCells (.agg cs :: rest) s.pm).cps ob [] fun G _ => match s.f G.dvs with
      | .no => none
      | .yes _ o mk => o.bind fun r => match avVals 0 s.rm (mk r) with
        | (.agg cs' :: vs, []) => bif G.given.isEmpty && !(G.lent.any (Nat.beq id)) then k (resOf vs) (fun i => bif Nat.beq i id then some (.cells cs') else none) [] else none
        | _ => none
    | _ => none
  | _ => none
/-- A call, run in place, so many deep. -/
noncomputable def inlN (C : Cfg) : Nat → Inl α
  | 0 => fun _ _ _ _ _ => none
  | d + 1 => fun f base args ob k => match C.ps f args with
    | some s => psC s args ob k
    | none => match callable C.P f with
      | some (fn, c) => runC C (inlN C d) f (base + 10000) c 0 (enter args ob) (retK C.P fn k)
      | none => none
def noOb : Nat → Option Ob := fun _ => none
/-- What a method hands back: what its receiver (object 50) holds, and its results, as data. -/
def retP (P : Program) (fn : Func) (rm : List Mode) (un : List DV → Option α) : Kt α := fun e σ => match e with
  | .exit _ => none
  | .jump _ => none
  | _ => (resultsQ P σ fn.results.toList).cps σ.ob [] fun vs _ => match σ.ob 50 with
    | some (.cells cs) => (argsCells (.agg cs :: vs) rm).cps σ.ob [] fun G _ => bif G.given.isEmpty && !(G.lent.any (Nat.beq 50)) && !(σ.kl.any (Nat.beq 50)) then un G.dvs else none
    | _ => none
/-- A method, run on data. -/
noncomputable def pRun (C : Cfg) (d : Nat) (f : FuncId) (pm rm : List Mode) (un : List DV → Option α) (dvs : List DV) : Option α :=
  match callable C.P f with
  | some (fn, c) => match (avVals 0 pm dvs).1 with
    | .agg cs :: vs => runC C (inlN C d) f 100 c 0 (enter (.ptr 50 0 :: vs) (setOb noOb [(50, some (.cells cs))])) (retP C.P fn rm un)
    | _ => none
  | none => none
/-- What a function hands back, as data. -/
def retD (P : Program) (fn : Func) (rm : List Mode) (un : List DV → Option α) : Kt α := fun e σ => match e with
  | .exit _ => none
  | .jump _ => none
  | _ => (resultsQ P σ fn.results.toList).cps σ.ob [] fun vs _ => (argsCells vs rm).cps σ.ob [] fun G _ =>
    bif !((G.given.filterMap (·.1)).any fun i => G.lent.any (Nat.beq i)) && distinct (G.given.filterMap (·.1)) then un G.dvs else none
/-- A function, run on data. -/
noncomputable def funRun (C : Cfg) (d : Nat) (f : FuncId) (pm rm : List Mode) (un : List DV → Option α) (dvs : List DV) : Option α :=
  match callable C.P f with
  | some (fn, c) => runC C (inlN C d) f 100 c 0 (enter (avVals 0 pm dvs).1 (setOb noOb (avVals 0 pm dvs).2)) (retD C.P fn rm un)
  | none => none
/-- Where a path leads in a piece of code, and what comes behind. -/
noncomputable def goTo {γ : Type} (C : Cfg) (inl : Inl α) (fn base : Nat) (f : Code → Nat → Kt α → γ) (z : γ) : List Bool → Code → Nat → Kt α → γ
  | [], c, cur, k => f c cur k
  | x :: p, .seq a b, cur, k => bif x then goTo C inl fn base f z p b cur k else goTo C inl fn base f z p a cur (thenK (fun σ' k' => runC C inl fn base b cur σ' k') k)
  | x :: p, .cond _ a b, cur, k => bif x then goTo C inl fn base f z p b cur k else goTo C inl fn base f z p a cur k
  | _ :: p, .block id c, _, k => goTo C inl fn base f z p c id (blockK id k)
  | _ :: p, .scope c, cur, k => goTo C inl fn base f z p c cur k
  | _ :: p, .loop c, cur, k => goTo C inl fn base f z p c cur (againK (fun σ' => loopL (C.hb fn cur) (fun σ k => runC C inl fn base c cur σ k) (hinted (C.hb fn cur) σ') k) k)
  | _, _, _, _ => z
/-- A function's loop, from a state at its head. -/
noncomputable def loopAt (C : Cfg) (d fn : Nat) (rm : List Mode) (un : List DV → Option α) (path : List Bool) (σ : St) : Option α :=
  match callable C.P fn with
  | some (f, c) => goTo C (inlN C d) fn 100 (fun c cur k => match c with
    | .loop c => loopL (C.hb fn cur) (fun σ k => runC C (inlN C d) fn 100 c cur σ k) σ k
    | .scope (.seq _ (.seq _ (.seq (.label l) b))) => loopL (C.hb fn (90000 + l)) (fun σ k => runC C (inlN C d) fn 100 b cur σ (jumpK l k)) σ (shutK k)
    | _ => none) none path c 0 (retD C.P f rm un)
  | none => none
/-- .. by its first round. -/
noncomputable def roundAt (C : Cfg) (d fn : Nat) (rm : List Mode) (un : List DV → Option α) (path : List Bool) (σ : St) : Option α :=
  match callable C.P fn with
  | some (f, c) => goTo C (inlN C d) fn 100 (fun c cur k => match c with
    | .loop c => runC C (inlN C d) fn 100 c cur σ (againK (fun σ' => loopL (C.hb fn cur) (fun σ k => runC C (inlN C d) fn 100 c cur σ k) (hinted (C.hb fn cur) σ') k) k)
    | .scope (.seq _ (.seq _ (.seq (.label l) b))) => runC C (inlN C d) fn 100 b cur σ (jumpK l (againK (fun σ' => loopL (C.hb fn (90000 + l)) (fun σ k => runC C (inlN C d) fn 100 b cur σ (jumpK l k)) (hinted (C.hb fn (90000 + l)) σ') (shutK k)) (shutK k)))
    | _ => none) none path c 0 (retD C.P f rm un)
  | none => none
/-- A function, run on given abstract values. -/
noncomputable def avRun (C : Cfg) (d : Nat) (f : FuncId) (rm : List Mode) (un : List DV → Option α) (args : List AV) : Option α :=
  match callable C.P f with
  | some (fn, c) => runC C (inlN C d) f 100 c 0 (enter args noOb) (retD C.P fn rm un)
  | none => none
/-- A method's loop, from a state at its head. -/
noncomputable def ploopAt (C : Cfg) (d fn : Nat) (rm : List Mode) (un : List DV → Option α) (path : List Bool) (σ : St) : Option α :=
  match callable C.P fn with
  | some (f, c) => goTo C (inlN C d) fn 100 (fun c cur k => match c with
    | .loop c => loopL (C.hb fn cur) (fun σ k => runC C (inlN C d) fn 100 c cur σ k) σ k
    | .scope (.seq _ (.seq _ (.seq (.label l) b))) => loopL (C.hb fn (90000 + l)) (fun σ k => runC C (inlN C d) fn 100 b cur σ (jumpK l k)) σ (shutK k)
    | _ => none) none path c 0 (retP C.P f rm un)
  | none => none
/-- .. by its first round. -/
noncomputable def proundAt (C : Cfg) (d fn : Nat) (rm : List Mode) (un : List DV → Option α) (path : List Bool) (σ : St) : Option α :=
  match callable C.P fn with
  | some (f, c) => goTo C (inlN C d) fn 100 (fun c cur k => match c with
    | .loop c => runC C (inlN C d) fn 100 c cur σ (againK (fun σ' => loopL (C.hb fn cur) (fun σ k => runC C (inlN C d) fn 100 c cur σ k) (hinted (C.hb fn cur) σ') k) k)
    | .scope (.seq _ (.seq _ (.seq (.label l) b))) => runC C (inlN C d) fn 100 b cur σ (jumpK l (againK (fun σ' => loopL (C.hb fn (90000 + l)) (fun σ k => runC C (inlN C d) fn 100 b cur σ (jumpK l k)) (hinted (C.hb fn (90000 + l)) σ') (shutK k)) (shutK k)))
    | _ => none) none path c 0 (retP C.P f rm un)
  | none => none
/-- A method from a region on, from a state ahead of it. -/
noncomputable def pregAt (C : Cfg) (d fn : Nat) (rm : List Mode) (un : List DV → Option α) (path : List Bool) (σ : St) : Option α :=
  match callable C.P fn with
  | some (f, c) => goTo C (inlN C d) fn 100 (fun c _ k => match c with
    | .region id ops draw => cutL fn id (fun σ' k' => regC C (inlN C d) 100 ops draw σ' k') σ k
    | _ => none) none path c 0 (retP C.P f rm un)
  | none => none
/-- .. and what that comes to. -/
noncomputable def pregRun (C : Cfg) (d fn : Nat) (rm : List Mode) (un : List DV → Option α) (path : List Bool) (σ : St) : Option α :=
  match callable C.P fn with
  | some (f, c) => goTo C (inlN C d) fn 100 (fun c _ k => match c with
    | .region _ ops draw => regC C (inlN C d) 100 ops draw σ k
    | _ => none) none path c 0 (retP C.P f rm un)
  | none => none
/-- Contracts, by number. -/
def lookSig : List (Nat × Sig) → FuncId → Option Sig
  | [], _ => none
  | p :: r, f => bif Nat.beq p.1 f then some p.2 else lookSig r f
/-- Are the functions that are handed over those that the contract is about? -/
def fits : List Mode → List AV → Bool
  | (_, [(_, .fn g _)]) :: ms, .func g' _ :: vs => Nat.beq g g' && fits ms vs
  | _ :: ms, _ :: vs => fits ms vs
  | _, _ => true
/-- Methods' contracts: by number, and by what functions are handed over. -/
def lookP : List (Nat × Sig) → FuncId → List AV → Option Sig
  | [], _, _ => none
  | p :: r, f, a => bif Nat.beq p.1 f && fits p.2.pm a then some p.2 else lookP r f a
/-- A function from a region on, from a state ahead of it. -/
noncomputable def regAt (C : Cfg) (d fn : Nat) (rm : List Mode) (un : List DV → Option α) (path : List Bool) (σ : St) : Option α :=
  match callable C.P fn with
  | some (f, c) => goTo C (inlN C d) fn 100 (fun c _ k => match c with
    | .region id ops draw => cutL fn id (fun σ' k' => regC C (inlN C d) 100 ops draw σ' k') σ k
    | _ => none) none path c 0 (retD C.P f rm un)
  | none => none
/-- .. and what that comes to. -/
noncomputable def regRun (C : Cfg) (d fn : Nat) (rm : List Mode) (un : List DV → Option α) (path : List Bool) (σ : St) : Option α :=
  match callable C.P fn with
  | some (f, c) => goTo C (inlN C d) fn 100 (fun c _ k => match c with
    | .region _ ops draw => regC C (inlN C d) 100 ops draw σ k
    | _ => none) none path c 0 (retD C.P f rm un)
  | none => none
end
end Go.Proofs.YtdbenenonfldkaaDoor.PE
