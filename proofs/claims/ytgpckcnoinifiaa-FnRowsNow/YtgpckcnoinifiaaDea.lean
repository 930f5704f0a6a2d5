/- A part of the proof: what a function of plain data and slices does, told without the machine, and that the machine does so. -/
import Derived.Calls
import Derived.Below
import Derived.Laws.Tables
section
namespace Go.Den
open Go
inductive RD where
  | lit (v : Value)
  | sl (t : Bool) (els : List (List RD))
  | pt (cells : List RD)
  | fn (g : Nat) (caps : List RD)
  deriving Inhabited
inductive AV where
  | rd (d : RD)
  | nil
  | aref (id : Nat) (t : Bool)
  | sref (id off n : Nat) (t : Bool)
  | bref (id j : Nat)
  | eref (id i j : Nat)
  | mref (id : Nat)
  | fnv (g : Nat) (caps : List AV)
  | agg (xs : List AV)
  | tup (xs : List AV)
  | bad
  deriving Inhabited
inductive AObj where
  | box (ty : Nat) (cells : List AV)
  | arr (k : Nat) (deep : Bool) (els : List (List RD))
  | map (ents : List (Int × Value))
inductive DV where
  | ro (d : RD)
  | own (k : Nat) (t : Bool) (els : List (List RD))
  | shal (k : Nat) (t : Bool) (els : List (List RD))
  | mut (cells : List DV)
  | agg (xs : List DV)
  | tup (xs : List DV)
  deriving Inhabited
structure St where
  tm : Nat → AV
  ob : Nat → Option AObj
  pm : Nat → Bool
  nx : Nat
inductive TK where
  | int (k : IntKind)
  | str
  | bool
  | slice (e k eb : Nat)
  | struct (fs : List (Nat × Nat × Nat × Bool))
  | map (kk : IntKind) (z : Value)
  | other
structure TInfo where
  size : Nat
  bytes : Nat
  zero : List Value
  ct : List Nat
  tk : TK
def TInfo.agg (t : TInfo) : Bool := match t.tk with | .struct _ => true | _ => false
abbrev Sm := List DV → Option (List (List DV) × DV)
structure Env where
  tt : Nat → Option TInfo
  cs : Nat → Option Sm
  eqs : Nat → List Nat → Bool
inductive Upd where
  | ob (id : Nat) (o : Option AObj)
  | wax (id : Nat)
def Upd.key : Upd → Nat
  | .ob id _ => 3 * id
  | .wax id => 3 * id + 1
def St.upd (st : St) : Upd → St
  | .ob id o => { st with ob := fun i => bif Nat.beq i id then o else st.ob i }
  | .wax id => { st with pm := fun i => bif Nat.beq i id then true else st.pm i }
def St.upds (st : St) : List Upd → St
  | [] => st
  | u :: us => (st.upd u).upds us
def St.set (st : St) : Option Tmp → AV → St
  | some d, v => { st with tm := fun t => bif Nat.beq t d then v else st.tm t }
  | none, _ => st
inductive Rq (α : Type) : Type where
  | ret (a : α)
  | fail
  | tm (t : Nat) (k : AV → Rq α)
  | ob (id : Nat) (k : Option AObj → Rq α)
  | pm (id : Nat) (k : Bool → Rq α)
  | call (f : Nat) (args : List DV) (k : List (List DV) → DV → Rq α)
  | ite (b : Bool) (x y : Rq α)
def Rq.bind {α β : Type} : Rq α → (α → Rq β) → Rq β
  | .ret a, f => f a
  | .fail, _ => .fail
  | .tm t k, f => .tm t fun v => (k v).bind f
  | .ob id k, f => .ob id fun v => (k v).bind f
  | .pm id k, f => .pm id fun v => (k v).bind f
  | .call g args k, f => .call g args fun m r => (k m r).bind f
  | .ite b x y, f => .ite b (x.bind f) (y.bind f)
instance : Monad Rq where
  pure := .ret
  bind := Rq.bind
def Rq.run {α R : Type} (E : Env) (st : St) : Rq α → (α → List Nat → Option R) → List Nat → Option R
  | .ret a, K, l => K a l
  | .fail, _, _ => none
  | .tm t k, K, l => (k (st.tm t)).run E st K ((3 * t + 2) :: l)
  | .ob id k, K, l => (k (st.ob id)).run E st K ((3 * id) :: l)
  | .pm id k, K, l => (k (st.pm id)).run E st K ((3 * id + 1) :: l)
  | .call f args k, K, l => match E.cs f with
    | some F => match F args with
      | some (m, r) => (k m r).run E st K l
      | none => none
    | none => none
  | .ite b x y, K, l => match b with
    | true => x.run E st K l
    | false => y.run E st K l
def scal : Value → Bool
  | .bool _ | .int _ _ | .string _ => true
  | _ => false
def cst : Value → AV
  | .slice none 0 0 => .nil
  | .bool b => .rd (.lit (.bool b))
  | .int k n => .rd (.lit (.int k n))
  | .string s => .rd (.lit (.string s))
  | _ => .bad
def opd : Operand → Rq AV
  | .tmp t => .tm t .ret
  | .const v => .ret (cst v)
  | .func f => .ret (.rd (.fn f []))
  | .global _ => .ret .bad
def getB : AV → Rq Bool
  | .rd (.lit (.bool b)) => .ret b
  | _ => .fail
def getI : AV → Rq (IntKind × Int)
  | .rd (.lit (.int k n)) => .ret (k, n)
  | _ => .fail
def tt (E : Env) (t : Nat) : Rq TInfo := match E.tt t with | some ti => .ret ti | none => .fail
def need (b : Bool) : Rq Unit := .ite b (.ret ()) .fail
def isCell : AV → Bool
  | .agg _ | .tup _ | .bad => false
  | _ => true
def cellsOf : AV → List AV
  | .agg xs => xs
  | v => [v]
def agv (ag : Bool) (cs : List AV) : AV := match ag with
  | true => .agg cs
  | false => match cs with | [c] => c | _ => .bad
def splice {α : Type} (c : List α) (j : Nat) (ds : List α) : List α := c.take j ++ (ds ++ c.drop (j + ds.length))
def isLit : RD → Bool
  | .lit _ => true
  | _ => false
def allLit (els : List (List RD)) : Bool := els.all fun e => e.all isLit
def litIf (sc : Bool) (els : List (List RD)) : Bool := match sc with
  | true => allLit els
  | false => true
def nodupB : List Nat → Bool
  | [] => true
  | x :: r => !(r.any fun y => Nat.beq x y) && nodupB r
def foldC : AV → Rq (RD × Bool × List Nat)
  | .rd d => .ret (d, isLit d, [])
  | .nil => .ret (.sl true [], true, [])
  | .aref id t => .ob id fun
    | some (.arr _ deep els) => .pm id fun s => .ret (.sl t els, deep && !s, [id])
    | _ => .fail
  | .sref id off n t => .ob id fun
    | some (.arr _ _ els) => .ret (.sl t ((els.drop off).take n), false, [id])
    | _ => .fail
  | _ => .fail
def foldCs : List AV → Rq (List RD × Bool × List Nat)
  | [] => .ret ([], true, [])
  | c :: cs => do
    let (d, b, s) ← foldC c
    let (ds, b', s') ← foldCs cs
    .ret (d :: ds, b && b', s ++ s')
def lstOf (k : Nat) (sc : Bool) : AV → Rq (List (List RD) × Bool × List Nat)
  | .nil => .ret ([], true, [])
  | .rd (.sl _ els) => do
    need (els.all fun e => Nat.beq e.length k)
    need (litIf sc els)
    .ret (els, sc, [])
  | .aref id _ => .ob id fun
    | some (.arr k' deep els) => .pm id fun s => do
      need (Nat.beq k k')
      .ret (els, deep && !s, [id])
    | _ => .fail
  | .sref id off n _ => .ob id fun
    | some (.arr k' _ els) => do
      need (Nat.beq k k')
      need (litIf sc ((els.drop off).take n))
      .ret ((els.drop off).take n, sc, [id])
    | _ => .fail
  | _ => .fail
def lenOf : AV → Rq Nat
  | .nil => .ret 0
  | .rd (.sl _ els) => .ret els.length
  | .rd (.lit (.string s)) => .ret s.size
  | .aref id _ => .ob id fun
    | some (.arr _ _ els) => .ret els.length
    | _ => .fail
  | .sref id _ n _ => .ob id fun
    | some (.arr _ _ _) => .ret n
    | _ => .fail
  | _ => .fail
def unNil (E : Env) (nb : Nat) : Nat → List AV → List Nat → Rq (List AV × List Upd)
  | _, [], _ => .ret ([], [])
  | c, .nil :: vs, t :: ts => do
    let ti ← tt E t
    match ti.tk with
    | .slice _ k _ =>
      let (vs', us) ← unNil E nb (c + 1) vs ts
      .ret (.aref (nb + c) true :: vs', .ob (nb + c) (some (.arr k true [])) :: us)
    | _ => .fail
  | c, v :: vs, _ :: ts => do
    need (isCell v)
    let (vs', us) ← unNil E nb (c + 1) vs ts
    .ret (v :: vs', us)
  | _, _ :: _, [] => .fail
def importCells (nb c : Nat) : List DV → Option (List AV × List Upd × Nat)
  | [] => some ([], [], c)
  | .ro d :: r => match importCells nb c r with
    | some (vs, us, c') => some (.rd d :: vs, us, c')
    | none => none
  | .own k t els :: r => match importCells nb (c + 1) r with
    | some (vs, us, c') => some (.aref (nb + c) t :: vs, .ob (nb + c) (some (.arr k true els)) :: us, c')
    | none => none
  | .shal k t els :: r => match importCells nb (c + 1) r with
    | some (vs, us, c') => some (.aref (nb + c) t :: vs, .ob (nb + c) (some (.arr k false els)) :: us, c')
    | none => none
  | _ => none
def importOne (nb c : Nat) : DV → Option (AV × List Upd × Nat)
  | .ro d => some (.rd d, [], c)
  | .own k t els => some (.aref (nb + c) t, [.ob (nb + c) (some (.arr k true els))], c + 1)
  | .shal k t els => some (.aref (nb + c) t, [.ob (nb + c) (some (.arr k false els))], c + 1)
  | .mut cells => match importCells nb (c + 1) cells with
    | some (vs, us, c') => some (.bref (nb + c) 0, .ob (nb + c) (some (.box 0 vs)) :: us, c')
    | none => none
  | .agg xs => match importCells nb c xs with
    | some (vs, us, c') => some (.agg vs, us, c')
    | none => none
  | .tup _ => none
def importMany (nb c : Nat) : List DV → Option (List AV × List Upd × Nat)
  | [] => some ([], [], c)
  | d :: r => match importOne nb c d with
    | some (v, us, c') => match importMany nb c' r with
      | some (vs, us', c'') => some (v :: vs, us ++ us', c'')
      | none => none
    | none => none
def importRes (nb c : Nat) : DV → Option (AV × List Upd × Nat)
  | .tup xs => match importMany nb c xs with
    | some (vs, us, c') => some (.tup vs, us, c')
    | none => none
  | d => importOne nb c d
def aliasR : RD → Bool
  | .lit _ => false
  | _ => true
def aliasL : List DV → Bool
  | [] => false
  | .ro d :: r => aliasR d || aliasL r
  | .own _ _ _ :: r => aliasL r
  | _ => true
def alias1 : DV → Bool
  | .ro d => aliasR d
  | .own _ _ _ => false
  | .shal _ _ _ => true
  | .mut cells => aliasL cells
  | .agg xs => aliasL xs
  | .tup _ => true
def aliasM : List DV → Bool
  | [] => false
  | d :: r => alias1 d || aliasM r
def alias : DV → Bool
  | .tup xs => aliasM xs
  | d => alias1 d
def expC : AV → Rq (RD × List Nat)
  | .rd d => .ret (d, [])
  | .nil => .ret (.sl true [], [])
  | .aref id t => .ob id fun
    | some (.arr _ _ els) => .ret (.sl t els, [id])
    | _ => .fail
  | .sref id off n t => .ob id fun
    | some (.arr _ _ els) => .ret (.sl t ((els.drop off).take n), [id])
    | _ => .fail
  | _ => .fail
def expCs : List AV → Rq (List RD × List Nat)
  | [] => .ret ([], [])
  | c :: cs => do
    let (d, s) ← expC c
    let (ds, s') ← expCs cs
    .ret (d :: ds, s ++ s')
def expCap : AV → Rq (RD × List Nat)
  | .bref id 0 => .ob id fun
    | some (.box _ cells) => do
      let (ds, s) ← expCs cells
      .ret (.pt ds, id :: s)
    | _ => .fail
  | v => expC v
def expCaps : List AV → Rq (List RD × List Nat)
  | [] => .ret ([], [])
  | c :: cs => do
    let (d, s) ← expCap c
    let (ds, s') ← expCaps cs
    .ret (d :: ds, s ++ s')
def expM : AV → Rq (DV × List Nat)
  | .rd d => .ret (.ro d, [])
  | .aref id t => .ob id fun
    | some (.arr k deep els) => .pm id fun s => .ite (deep && !s) (.ret (.own k t els, [id])) .fail
    | _ => .fail
  | _ => .fail
def expMs : List AV → Rq (List DV × List Nat)
  | [] => .ret ([], [])
  | c :: cs => do
    let (d, s) ← expM c
    let (ds, s') ← expMs cs
    .ret (d :: ds, s ++ s')
structure Exp where
  ds : List DV
  seals : List Nat
  muts : List (Nat × Nat)
  gone : List Nat
def expArg : AV → Rq Exp
  | .bref id 0 => .ob id fun
    | some (.box ty cells) => .pm id fun s => .ite (!s) (do
      let (ds, g) ← expMs cells
      .ret ⟨[.mut ds], [], [(id, ty)], g⟩) .fail
    | _ => .fail
  | .agg xs => do
    let (ds, s) ← expCs xs
    .ret ⟨[.agg (ds.map .ro)], s, [], []⟩
  | .fnv g caps => do
    let (ds, s) ← expCaps caps
    .ret ⟨[.ro (.fn g ds)], s, [], []⟩
  | v => do
    let (d, s) ← expC v
    .ret ⟨[.ro d], s, [], []⟩
def expArgs : List AV → Rq Exp
  | [] => .ret ⟨[], [], [], []⟩
  | v :: vs => do
    let x ← expArg v
    let y ← expArgs vs
    .ret ⟨x.ds ++ y.ds, x.seals ++ y.seals, x.muts ++ y.muts, x.gone ++ y.gone⟩
def importMuts (nb c : Nat) : List (Nat × Nat) → List (List DV) → Option (List Upd × Nat)
  | [], [] => some ([], c)
  | (id, ty) :: r, cells :: ms => match importCells nb c cells with
    | some (vs, us, c') => match importMuts nb c' r ms with
      | some (us', c'') => some (.ob id (some (.box ty vs)) :: (us ++ us'), c'')
      | none => none
    | none => none
  | _, _ => none
def callF (nb f : Nat) (x : Exp) (extra : List DV) : Rq (AV × List Upd) := do
  need (nodupB (x.muts.map (·.1) ++ x.gone ++ (bif x.muts.isEmpty && x.gone.isEmpty then [] else x.seals)))
  .call f (x.ds ++ extra) fun ms r =>
    match importMuts nb 0 x.muts ms with
    | some (us, c) => match importRes nb c r with
      | some (v, us', c') => .ite (Nat.ble c' 64) (.ret (v, (bif alias r || ms.any aliasL then x.seals.map .wax else []) ++ (x.gone.map (fun id => .ob id none) ++ (us ++ us')))) .fail
      | none => .fail
    | none => .fail
def binI (op : BinOp) (k : IntKind) (a b : Int) : Rq Value :=
  match op with
  | .add => .ret (.int k (k.wrap (a + b)))
  | .sub => .ret (.int k (k.wrap (a - b)))
  | .mul => .ret (.int k (k.wrap (a * b)))
  | .quo => .ite (b == 0) .fail (.ret (.int k (k.wrap (a.tdiv b))))
  | .rem => .ite (b == 0) .fail (.ret (.int k (a.tmod b)))
  | .and => .ret (.int k (k.wrap (BitVec.ofInt k.bits a &&& BitVec.ofInt k.bits b).toNat))
  | .or => .ret (.int k (k.wrap (BitVec.ofInt k.bits a ||| BitVec.ofInt k.bits b).toNat))
  | .xor => .ret (.int k (k.wrap (BitVec.ofInt k.bits a ^^^ BitVec.ofInt k.bits b).toNat))
  | .andNot => .ret (.int k (k.wrap (BitVec.ofInt k.bits a &&& ~~~(BitVec.ofInt k.bits b)).toNat))
  | .shl | .shr => .fail
  | .eql => .ret (.bool (a == b))
  | .neq => .ret (.bool (a != b))
  | .lss => .ret (.bool (a < b))
  | .leq => .ret (.bool (a ≤ b))
  | .gtr => .ret (.bool (a > b))
  | .geq => .ret (.bool (a ≥ b))
def binS (op : BinOp) (x y : ByteArray) : Rq Value :=
  let eq := x.toList == y.toList
  let lt := Op.bytesLess x.toList y.toList
  match op with
  | .add => .ite (decide (x.size + y.size ≤ 140737488355328)) (.ret (.string (x ++ y))) .fail
  | .eql => .ret (.bool eq)
  | .neq => .ret (.bool !eq)
  | .lss => .ret (.bool lt)
  | .leq => .ret (.bool (lt || eq))
  | .gtr => .ret (.bool !(lt || eq))
  | .geq => .ret (.bool !lt)
  | _ => .fail
def vKind : Value → Nat
  | .int .i64 _ => 0
  | .string _ => 1
  | .bool _ => 2
  | _ => 9
def aKind : AV → Nat
  | .rd (.lit v) => vKind v
  | _ => 9
def eqCells : List AV → List AV → Rq Bool
  | [], [] => .ret true
  | .rd (.lit (.int k a)) :: r, .rd (.lit (.int k' b)) :: r' => do
    need (k == k')
    let e ← eqCells r r'
    .ret ((a == b) && e)
  | .rd (.lit (.string a)) :: r, .rd (.lit (.string b)) :: r' => do
    let e ← eqCells r r'
    .ret ((a == b) && e)
  | .rd (.lit (.bool a)) :: r, .rd (.lit (.bool b)) :: r' => do
    let e ← eqCells r r'
    .ret ((a == b) && e)
  | _, _ => .fail
def fill (fs : List (Nat × Nat × Nat × Bool)) (cells : List AV) : List (Nat × AV) → Rq (List AV)
  | [] => .ret cells
  | (i, v) :: r => match fs[i]? with
    | some (off, _, size, ag) => do
      let cs := cellsOf v
      need (Nat.beq cs.length size && Nat.ble (off + size) cells.length && cs.all isCell && (ag == (match v with | .agg _ => true | _ => false)))
      fill fs (splice cells off cs) r
    | none => .fail
def zeroC (v : Value) : AV := cst v
def parts : List (Nat × Operand) → Rq (List (Nat × AV))
  | [] => .ret []
  | (i, x) :: r => do
    let v ← opd x
    let vs ← parts r
    .ret ((i, v) :: vs)
def opds : List Operand → Rq (List AV)
  | [] => .ret []
  | x :: r => do
    let v ← opd x
    let vs ← opds r
    .ret (v :: vs)
def foldEls (k : Nat) : List AV → Rq (List (List RD) × Bool × List Nat)
  | [] => .ret ([], true, [])
  | v :: vs => do
    let cs := cellsOf v
    need (Nat.beq cs.length k && cs.all isCell)
    let (d, b, s) ← foldCs cs
    let (ds, b', s') ← foldEls k vs
    .ret (d :: ds, b && b', s ++ s')
def zeroR (v : Value) : RD := match v with
  | .slice none 0 0 => .sl true []
  | v => .lit v
def zeroOk (v : Value) : Bool := match v with
  | .slice none 0 0 => true
  | v => scal v
def bound (x : Option Operand) (dflt : Nat) : Rq Int := match x with
  | none => .ret dflt
  | some o => do
    let (_, n) ← opd o >>= getI
    .ret n
def sealU (s : List Nat) : List Upd := s.map .wax
def sliceOf (k : Nat) (v : AV) (lo hi mx : Option Operand) : Rq AV := do
    let n ← lenOf v
    let m ← bound mx n
    let h ← bound hi n
    let l ← bound lo 0
    need (decide (0 ≤ l ∧ l ≤ h ∧ h ≤ n ∧ m = n) && (mx.isNone || hi.isSome))
    match v with
    | .nil => .ret .nil
    | .rd (.sl t els) =>
      .ite (lo.isNone && decide (h = n)) (.ret (.rd (.sl (t || mx.isSome) els)))
        (.ite lo.isNone (.ret (.rd (.sl ((mx.isSome || t) && decide (h = n)) (els.take h.toNat))))
          (.ite (els.all fun e => Nat.beq e.length k) (.ret (.rd (.sl ((mx.isSome || t) && decide (h = n)) ((els.drop l.toNat).take (h.toNat - l.toNat))))) .fail))
    | .aref id t => .ob id fun
      | some (.arr k' _ _) => do
        need (Nat.beq k k')
        .ite (lo.isNone && decide (h = n)) (.ret (.aref id (t || mx.isSome)))
          (.ret (.sref id l.toNat (h.toNat - l.toNat) ((mx.isSome || t) && decide (h = n))))
      | _ => .fail
    | .sref id off _ t => .ob id fun
      | some (.arr k' _ _) => do
        need (Nat.beq k k')
        .ret (.sref id (off + l.toNat) (h.toNat - l.toNat) ((mx.isSome || t) && decide (h = n)))
      | _ => .fail
    | _ => .fail
def entLook (n : Int) : List (Int × Value) → Option Value
  | [] => none
  | (k, v) :: r => bif n == k then some v else entLook n r
def entPut (n : Int) (v : Value) : List (Int × Value) → List (Int × Value)
  | [] => [(n, v)]
  | (k, u) :: r => bif n == k then (n, v) :: r else (k, u) :: entPut n v r
def getS : AV → Rq Value
  | .rd (.lit v) => .ret v
  | _ => .fail
def mapPut (E : Env) (t : Nat) (m k x : Operand) : Rq (AV × List Upd) := do
  let ti ← tt E t
  let mv ← opd m
  let (ik, n) ← opd k >>= getI
  let v ← opd x >>= getS
  match ti.tk, mv with
  | .map kk _, .mref id => .ob id fun
    | some (.map ents) => .pm id fun s => do
      need (!s && (ik == .i64 && kk == .i64))
      .ret (.tup [], [.ob id (some (.map (entPut n v ents)))])
    | _ => .fail
  | _, _ => .fail
def maxGo (k : IntKind) : Int → List AV → Rq (IntKind × Int)
  | a, [] => .ret (k, a)
  | a, w :: r => do
    let (_, b) ← getI w
    maxGo k (if b > a then b else a) r
def maxI : List AV → Rq (IntKind × Int)
  | [] => .fail
  | v :: r => do
    let (k, a) ← getI v
    maxGo k a r
def minGo (k : IntKind) : Int → List AV → Rq (IntKind × Int)
  | a, [] => .ret (k, a)
  | a, w :: r => do
    let (_, b) ← getI w
    minGo k (if b < a then b else a) r
def minI : List AV → Rq (IntKind × Int)
  | [] => .fail
  | v :: r => do
    let (k, a) ← getI v
    minGo k a r
def bytesOf : List (List RD) → Option (List UInt8)
  | [] => some []
  | [.lit (.int .u8 n)] :: r => match bytesOf r with | some b => some (UInt8.ofNat n.toNat :: b) | none => none
  | _ => none
def stepOp (E : Env) (nb : Nat) (o : Oper) : Rq (AV × List Upd) :=
  match o.op with
  | .move x | .assign x => do
    let v ← opd x
    .ret (v, [])
  | .pick c a b => do
    let c ← opd c >>= getB
    .ite c (do let v ← opd a; .ret (v, [])) (do let v ← opd b; .ret (v, []))
  | .alloc t => do
    let ti ← tt E t
    need (Nat.ble ti.zero.length 60 && ti.zero.all zeroOk)
    let (cs, us) ← unNil E nb 1 (ti.zero.map zeroC) ti.ct
    .ret (.bref nb 0, us ++ [.ob nb (some (.box t cs))])
  | .box t x => do
    let ti ← tt E t
    let v ← opd x
    let cs := cellsOf v
    need (Nat.beq cs.length ti.size && Nat.ble cs.length 60 && cs.all isCell)
    let (cs, us) ← unNil E nb 1 cs ti.ct
    .ret (.bref nb 0, us ++ [.ob nb (some (.box t cs))])
  | .build t ps => do
    let ti ← tt E t
    let vs ← parts ps.toList
    match ti.tk with
    | .struct fs =>
      need (ti.zero.all zeroOk)
      let cs ← fill fs (ti.zero.map zeroC) vs
      .ret (.agg cs, [])
    | _ => .fail
  | .buildSlice t n ps => do
    let ti ← tt E t
    match ti.tk with
    | .slice e k _ =>
      let ei ← tt E e
      let vs ← opds (ps.toList.map (·.2))
      need (Nat.beq n ps.size && (ps.toList.map (·.1) == List.range n) && Nat.ble (n * k) 16777216 && Nat.beq ei.zero.length k)
      let (els, deep, s) ← foldEls k vs
      .ret (.aref nb true, sealU s ++ [.ob nb (some (.arr k (deep && nodupB s) els))])
    | _ => .fail
  | .load t a => do
    let ti ← tt E t
    let v ← opd a
    match v with
    | .rd (.pt cells) =>
      need (Nat.ble ti.size cells.length)
      .ret (agv ti.agg ((cells.take ti.size).map .rd), [])
    | .bref id j => .ob id fun
      | some (.box _ cells) => do
        need (Nat.ble (j + ti.size) cells.length)
        .ret (agv ti.agg ((cells.drop j).take ti.size), [])
      | _ => .fail
    | .eref id i j => .ob id fun
      | some (.arr _ _ els) => match els[i]? with
        | some c => do
          need (Nat.ble (j + ti.size) c.length)
          .ret (agv ti.agg (((c.drop j).take ti.size).map .rd), [])
        | none => .fail
      | _ => .fail
    | _ => .fail
  | .store t a x => do
    let ti ← tt E t
    let p ← opd a
    let v ← opd x
    let cs := cellsOf v
    need (Nat.beq cs.length ti.size && Nat.ble cs.length 60 && cs.all isCell)
    match p with
    | .bref id j => .ob id fun
      | some (.box ty cells) => .pm id fun s => do
        need (!s && Nat.ble (j + ti.size) cells.length)
        let (cs, us) ← unNil E nb 0 cs ti.ct
        .ret (.tup [], us ++ [.ob id (some (.box ty (splice cells j cs)))])
      | _ => .fail
    | .eref id i j => .ob id fun
      | some (.arr k deep els) => .pm id fun s => match els[i]? with
        | some c => do
          need (!s && Nat.ble (j + ti.size) c.length)
          let (ds, b, sl) ← foldCs cs
          need (nodupB (id :: sl))
          .ret (.tup [], sealU sl ++ [.ob id (some (.arr k (deep && b) (els.set i (splice c j ds))))])
        | none => .fail
      | _ => .fail
    | _ => .fail
  | .nilCheck x => do
    let v ← opd x
    match v with
    | .bref id j => .ob id fun
      | some (.box _ _) => .ret (.bref id j, [])
      | _ => .fail
    | .eref id i j => .ob id fun
      | some (.arr _ _ _) => .ret (.eref id i j, [])
      | _ => .fail
    | .rd (.pt cs) => .ret (.rd (.pt cs), [])
    | .rd (.fn g cs) => .ret (.rd (.fn g cs), [])
    | .fnv g cs => .ret (.fnv g cs, [])
    | _ => .fail
  | .binOp op t x y _ => do
    let v ← opd x
    let u ← opd y
    match v, u with
    | .rd (.lit (.int k a)), .rd (.lit (.int k' b)) => do
      need (k == k')
      let r ← binI op k a b
      .ret (.rd (.lit r), [])
    | .rd (.lit (.string a)), .rd (.lit (.string b)) => do
      let r ← binS op a b
      .ret (.rd (.lit r), [])
    | .rd (.lit (.bool a)), .rd (.lit (.bool b)) => do
      let ti ← tt E t
      match ti.tk, op with
      | .bool, .eql => .ret (.rd (.lit (.bool (a == b))), [])
      | .bool, .neq => .ret (.rd (.lit (.bool (!(a == b)))), [])
      | _, _ => .fail
    | .agg xs, .agg ys => do
      need (E.eqs t (xs.map aKind))
      let e ← eqCells xs ys
      match op with
      | .eql => .ret (.rd (.lit (.bool e)), [])
      | .neq => .ret (.rd (.lit (.bool !e)), [])
      | _ => .fail
    | _, _ => .fail
  | .unOp op _ x => do
    let v ← opd x
    match op, v with
    | .not, .rd (.lit (.bool b)) => .ret (.rd (.lit (.bool !b)), [])
    | .neg, .rd (.lit (.int k n)) => .ret (.rd (.lit (.int k (k.wrap (0 - n)))), [])
    | _, _ => .fail
  | .convert src dst x => do
    let ti ← tt E dst
    let si ← tt E src
    let v ← opd x
    match si.tk, ti.tk, v with
    | .int _, .int k, .rd (.lit (.int _ n)) => .ret (.rd (.lit (.int k (k.wrap n))), [])
    | .str, .str, .rd (.lit (.string s)) => .ret (.rd (.lit (.string s)), [])
    | .str, .slice e _ _, .rd (.lit (.string s)) => do
      let ei ← tt E e
      match ei.tk with
      | .int .u8 => .ret (.rd (.sl false (s.data.toList.map fun b => [.lit (.int .u8 b.toNat)])), [])
      | _ => .fail
    | .slice e _ _, .str, v => do
      let ei ← tt E e
      match ei.tk with
      | .int .u8 => do
        let (xs, _, _) ← lstOf 1 false v
        match bytesOf xs with
        | some b => .ret (.rd (.lit (.string ⟨b.toArray⟩)), [])
        | none => .fail
      | _ => .fail
    | _, _, _ => .fail
  | .makeFunc (.func g) first captured => do
    need first.isEmpty
    let vs ← opds captured.toList
    .ret (.fnv g vs, [])
  | .makeSlice t l c => do
    let ti ← tt E t
    match ti.tk with
    | .slice e k eb =>
      let ei ← tt E e
      let (_, n) ← opd l >>= getI
      let (_, m) ← opd c >>= getI
      need (decide (0 ≤ n ∧ n = m ∧ n * eb ≤ 140737488355328 ∧ n ≤ 4611686018427387904) && ei.zero.all zeroOk && Nat.beq ei.zero.length k)
      .ret (.aref nb true, [.ob nb (some (.arr k true (List.replicate n.toNat (ei.zero.map zeroR))))])
    | _ => .fail
  | .makeMap t none => do
    let ti ← tt E t
    match ti.tk with
    | .map _ _ => .ret (.mref nb, [.ob nb (some (.map []))])
    | _ => .fail
  | .mapUpdate t m k x | .insert t m k x => mapPut E t m k x
  | .lookup t x i false => do
    let ti ← tt E t
    let mv ← opd x
    let (ik, n) ← opd i >>= getI
    match ti.tk, mv with
    | .map kk z, .mref id => do
      need (ik == kk && kk == .i64)
      .ob id fun
      | some (.map ents) => match entLook n ents with
        | some v => .ret (.rd (.lit v), [])
        | none => .ret (.rd (.lit z), [])
      | _ => .fail
    | _, _ => .fail
  | .slice t x lo hi mx => do
    let ti ← tt E t
    let v ← opd x
    match ti.tk, v with
    | .str, .rd (.lit (.string s)) => do
      need mx.isNone
      let h ← bound hi s.size
      let l ← bound lo 0
      need (decide (0 ≤ l ∧ l ≤ h ∧ h ≤ s.size))
      .ret (.rd (.lit (.string (s.extract l.toNat h.toNat))), [])
    | .slice _ _ _, .rd (.lit _) => .fail
    | .slice _ k _, v => do
      let r ← sliceOf k v lo hi mx
      .ret (r, [])
    | _, _ => .fail
  | .fieldAddr t x f => do
    let ti ← tt E t
    let v ← opd x
    match ti.tk with
    | .struct fs => match fs[f]?, v with
      | some (off, _, _, _), .rd (.pt cells) => do
        need (Nat.ble off cells.length)
        .ret (.rd (.pt (cells.drop off)), [])
      | some (off, _, _, _), .bref id j => .ob id fun
        | some (.box _ _) => .ret (.bref id (j + off), [])
        | _ => .fail
      | some (off, _, _, _), .eref id i j => .ob id fun
        | some (.arr _ _ _) => .ret (.eref id i (j + off), [])
        | _ => .fail
      | _, _ => .fail
    | _ => .fail
  | .field t x f => do
    let ti ← tt E t
    let v ← opd x
    match ti.tk, v with
    | .struct fs, .agg xs => match fs[f]? with
      | some (off, _, size, ag) => do
        need (Nat.ble (off + size) xs.length && (ag || Nat.beq size 1))
        .ret (agv ag ((xs.drop off).take size), [])
      | none => .fail
    | _, _ => .fail
  | .indexAddr t x i => do
    let ti ← tt E t
    let v ← opd x
    let (_, i) ← opd i >>= getI
    match ti.tk with
    | .slice _ k _ => match v with
      | .rd (.sl _ els) => do
        need (decide (0 ≤ i ∧ i < els.length))
        match els[i.toNat]? with
        | some c => do
          need (Nat.beq c.length k)
          .ret (.rd (.pt c), [])
        | none => .fail
      | .aref id _ => .ob id fun
        | some (.arr k' _ els) => do
          need (Nat.beq k k' && decide (0 ≤ i ∧ i < els.length))
          .ret (.eref id i.toNat 0, [])
        | _ => .fail
      | .sref id off n _ => .ob id fun
        | some (.arr k' _ _) => do
          need (Nat.beq k k' && decide (0 ≤ i ∧ i < n))
          .ret (.eref id (off + i.toNat) 0, [])
        | _ => .fail
      | _ => .fail
    | _ => .fail
  | .index t x i => do
    let ti ← tt E t
    let v ← opd x
    let (_, i) ← opd i >>= getI
    match ti.tk, v with
    | .str, .rd (.lit (.string s)) => do
      need (decide (0 ≤ i))
      match s[i.toNat]? with
      | some b => .ret (.rd (.lit (.int .u8 b.toNat)), [])
      | none => .fail
    | _, _ => .fail
  | .extract x i => do
    let v ← opd x
    match v with
    | .tup xs => match xs[i]? with
      | some v => .ret (v, [])
      | none => .fail
    | _ => .fail
  | .call c => match c.callee with
    | .builtin .len => do
      let ti ← tt E (c.argTypes.getD 0 0)
      let v ← opd (c.args.getD 0 (.global 0))
      need (Nat.beq c.args.size 1 && Nat.beq c.argTypes.size 1)
      match ti.tk, v with
      | .str, .rd (.lit (.string s)) => .ret (.rd (.lit (.int .i64 s.size)), [])
      | .slice .., .rd (.lit _) => .fail
      | .slice .., v => do
        let n ← lenOf v
        .ret (.rd (.lit (.int .i64 n)), [])
      | _, _ => .fail
    | .builtin .max => do
      let vs ← opds c.args.toList
      let (k, n) ← maxI vs
      .ret (.rd (.lit (.int k n)), [])
    | .builtin .min => do
      let vs ← opds c.args.toList
      let (k, n) ← minI vs
      .ret (.rd (.lit (.int k n)), [])
    | .builtin .append => do
      need (Nat.beq c.args.size 2 && Nat.beq c.argTypes.size 2)
      let ti ← tt E (c.argTypes.getD 0 0)
      let t2 ← tt E (c.argTypes.getD 1 0)
      let d ← opd (c.args.getD 0 (.global 0))
      let s ← opd (c.args.getD 1 (.global 0))
      match ti.tk, t2.tk with
      | .slice e k eb, .slice e' _ _ => do
        need (Nat.beq e e')
        let ei ← tt E e
        need (Nat.beq ei.zero.length k)
        let (xs, sd, si) ← lstOf k (ei.zero.all scal) s
        match d with
        | .nil => do
          need (decide (2 * xs.length * eb ≤ 140737488355328 ∧ xs.length ≤ 4611686018427387904))
          .ret (.aref nb false, sealU si ++ [.ob nb (some (.arr k sd xs))])
        | .rd (.sl true ys) => do
          need (litIf (ei.zero.all scal) ys && (ys.all fun e => Nat.beq e.length k) && decide (0 < xs.length ∧ 2 * (ys.length + xs.length) * eb ≤ 140737488355328 ∧ ys.length + xs.length ≤ 4611686018427387904))
          .ret (.aref nb false, sealU si ++ [.ob nb (some (.arr k (sd && ei.zero.all scal) (ys ++ xs)))])
        | .aref id _ => .ob id fun
          | some (.arr k' deep ys) => .pm id fun p => do
            need (!p && Nat.beq k k' && nodupB (id :: si) && decide (2 * (ys.length + xs.length) * eb ≤ 140737488355328 ∧ ys.length + xs.length ≤ 4611686018427387904))
            .ret (.aref nb false, sealU si ++ [.ob id none, .ob nb (some (.arr k (sd && deep) (ys ++ xs)))])
          | _ => .fail
        | .sref id 0 n _ => .ob id fun
          | some (.arr k' deep ys) => .pm id fun p => do
            need (!p && Nat.beq k k' && nodupB (id :: si) && decide (2 * (n + xs.length) * eb ≤ 140737488355328 ∧ n + xs.length ≤ 4611686018427387904))
            .ret (.aref nb false, sealU si ++ [.ob id none, .ob nb (some (.arr k (sd && deep) (ys.take n ++ xs)))])
          | _ => .fail
        | _ => .fail
      | _, _ => .fail
    | .value fo => do
      let fv ← opd fo
      let vs ← opds c.args.toList
      let x ← expArgs vs
      match fv with
      | .rd (.fn g caps) => callF nb g x (caps.map .ro)
      | .fnv g caps => do
        let (ds, s) ← expCaps caps
        callF nb g { x with seals := x.seals ++ s } (ds.map .ro)
      | _ => .fail
    | _ => .fail
  | _ => .fail
structure Lg where
  i : Nat
  rs : List Nat
  ws : List Nat
def clash (a b : List Nat) : Bool := a.any fun x => b.any fun y => Nat.beq x y
def Lg.apart (x y : Lg) : Bool := !clash x.ws y.rs && !clash x.ws y.ws && !clash x.rs y.ws
def logOk (before : List Nat) : List Lg → Bool
  | [] => true
  | y :: r => (r.all fun x => (before.getD y.i 0).testBit x.i || x.apart y) && logOk before r
variable {R : Type}
def wsOf (dst : Option Tmp) (us : List Upd) : List Nat := match dst with
  | some d => (3 * d + 2) :: us.map (·.key)
  | none => us.map (·.key)
def befL : List Oper → List Nat → List Nat
  | [], acc => acc
  | o :: r, acc => befL r (acc ++ [o.after.toList.foldl (fun s e => bif Region.binds .any e then s ||| (2 ^ e.on ||| acc.getD e.on 0) else s) 0])
def eqB (want b : Bool) : Bool := match want with
  | true => b
  | false => !b
def runOps (E : Env) (ops : Array Oper) (nb : Nat) : List (Oper × Nat) → St → List Lg → (St → List Lg → Option R) → Option R
  | [], st, l, K => K st l
  | (o, i) :: r, st, l, K => match o.guard with
    | none => (stepOp E (nb + 64 * i) o).run E st (fun (v, us) rs => runOps E ops nb r ((st.upds us).set o.dst v) (⟨i, rs, wsOf o.dst us⟩ :: l) K) []
    | some (g, want) => match (ops[g]?).bind (·.dst) with
      | some t => match st.tm t with
        | .rd (.lit (.bool b)) => match eqB want b with
          | true => (stepOp E (nb + 64 * i) o).run E st (fun (v, us) rs => runOps E ops nb r ((st.upds us).set o.dst v) (⟨i, rs, wsOf o.dst us⟩ :: l) K) [3 * t + 2]
          | false => runOps E ops nb r (st.set o.dst (.tup [])) (⟨i, [3 * t + 2], wsOf o.dst []⟩ :: l) K
        | .tup _ => runOps E ops nb r (st.set o.dst (.tup [])) (⟨i, [3 * t + 2], wsOf o.dst []⟩ :: l) K
        | _ => none
      | none => none
def denRegion (E : Env) (ops : Array Oper) (draw : Bool) (st : St) (K : St → Option R) : Option R :=
  runOps E ops st.nx ops.toList.zipIdx st [] fun st' l => match draw with
    | false => K { st' with nx := st.nx + 64 * ops.size }
    | true => match logOk (befL ops.toList []) l with
      | true => K { st' with nx := st.nx + 64 * ops.size }
      | false => none
def idsOf : Nat → (Nat → Option AObj) → List AV → List Nat → List Nat
  | 0, _, _, acc => acc
  | _ + 1, _, [], acc => acc
  | n + 1, ob, v :: vs, acc => match v with
    | .aref id _ | .sref id _ _ _ | .eref id _ _ | .mref id => idsOf n ob vs (bif acc.any (Nat.beq id) then acc else acc ++ [id])
    | .bref id _ => bif acc.any (Nat.beq id) then idsOf n ob vs acc else match ob id with
      | some (.box _ cells) => idsOf n ob (cells ++ vs) (acc ++ [id])
      | _ => idsOf n ob vs (acc ++ [id])
    | .agg xs => idsOf n ob (xs ++ vs) acc
    | .fnv _ xs => idsOf n ob (xs ++ vs) acc
    | _ => idsOf n ob vs acc
def place (ids : List Nat) (id : Nat) : Option Nat := match ids with
  | [] => none
  | x :: r => bif Nat.beq x id then some 0 else match place r id with | some n => some (n + 1) | none => none
mutual
def ren (ids : List Nat) : AV → AV
  | .aref id t => match place ids id with | some n => .aref n t | none => .bad
  | .sref id off n t => match place ids id with | some m => .sref m off n t | none => .bad
  | .bref id j => match place ids id with | some n => .bref n j | none => .bad
  | .eref id i j => match place ids id with | some n => .eref n i j | none => .bad
  | .mref id => match place ids id with | some n => .mref n | none => .bad
  | .fnv g xs => .fnv g (rens ids xs)
  | .agg xs => match (rens ids xs).all isCell with
    | true => .agg (rens ids xs)
    | false => .bad
  | .tup xs => .tup (rens ids xs)
  | .rd d => .rd d
  | .nil => .nil
  | .bad => .bad
def rens (ids : List Nat) : List AV → List AV
  | [] => []
  | x :: r => ren ids x :: rens ids r
end
def renO (ids : List Nat) : AObj → Option AObj
  | .box ty cells => match (rens ids cells).all isCell with
    | true => some (.box ty (rens ids cells))
    | false => none
  | .arr k deep els => some (.arr k deep els)
  | .map ents => some (.map ents)
def pickTm (ids : List Nat) (st : St) : List (Nat × Nat) → Nat → AV
  | [], _ => .bad
  | (x, _) :: r, t => bif Nat.beq t x then ren ids (st.tm x) else pickTm ids st r t
def St.ren (st : St) (live : List (Nat × Nat)) (ids : List Nat) : St where
  tm := pickTm ids st live
  ob n := match ids[n]? with
    | some id => match st.ob id with | some o => renO ids o | none => none
    | none => none
  pm n := match ids[n]? with
    | some id => st.pm id
    | none => false
  nx := ids.length
def nilFix (E : Env) : List (Nat × Nat) → St → Option St
  | [], st => some st
  | (t, ty) :: r, st => match st.tm t with
    | .nil => match E.tt ty with
      | some { tk := .slice _ k _, .. } => nilFix E r { st with tm := fun x => bif Nat.beq x t then .aref st.nx true else st.tm x, ob := fun x => bif Nat.beq x st.nx then some (.arr k true []) else st.ob x, nx := st.nx + 1 }
      | _ => none
    | _ => nilFix E r st
abbrev OB := Option AObj × Bool
structure Live where
  ts : List (Nat × Nat)
  low : List (Nat × Nat)
  frz : List (Nat × Nat)
mutual
def fz (id : Nat) (els : List (List RD)) : AV → AV
  | .aref i t => bif Nat.beq i id then .rd (.sl t els) else .aref i t
  | .fnv g xs => .fnv g (fzs id els xs)
  | .agg xs => .agg (fzs id els xs)
  | .tup xs => .tup (fzs id els xs)
  | .rd d => .rd d
  | .nil => .nil
  | .sref i off n t => .sref i off n t
  | .bref i j => .bref i j
  | .eref i x j => .eref i x j
  | .mref i => .mref i
  | .bad => .bad
def fzs (id : Nat) (els : List (List RD)) : List AV → List AV
  | [] => []
  | x :: r => fz id els x :: fzs id els r
end
def fzO (id : Nat) (els : List (List RD)) (o : Option AObj) : Option AObj := match o with
  | some (.box ty cells) => some (.box ty (fzs id els cells))
  | o => o
def St.freeze (st : St) (id : Nat) (els : List (List RD)) : St where
  tm t := fz id els (st.tm t)
  ob i := bif Nat.beq i id then none else fzO id els (st.ob i)
  pm := st.pm
  nx := st.nx
def posAV (st : St) (t c : Nat) : AV := match c with
  | 0 => st.tm t
  | c + 1 => match st.tm t with
    | .agg xs => xs.getD c .bad
    | .bref id _ => match st.ob id with
      | some (.box _ cells) => cells.getD c .bad
      | _ => .bad
    | _ => .bad
def frzAll : List (Nat × Nat) → St → St
  | [], st => st
  | (t, c) :: r, st => match posAV st t c with
    | .aref id _ => match st.ob id with
      | some (.arr _ _ els) => frzAll r (st.freeze id els)
      | _ => frzAll r st
    | _ => frzAll r st
def pickAt : List (Nat × Nat) → List AV → Nat → AV
  | (x, _) :: r, v :: vs, t => bif Nat.beq t x then v else pickAt r vs t
  | _, _, _ => .bad
def obAt : List OB → Nat → OB
  | [], _ => (none, false)
  | o :: _, 0 => o
  | _ :: r, n + 1 => obAt r n
def mkSt (live : Live) (avs : List AV) (obs : List OB) : St where
  tm := pickAt live.ts avs
  ob n := (obAt obs n).1
  pm n := (obAt obs n).2
  nx := obs.length
def obRen (ids : List Nat) (o : Option AObj) : Option AObj := match o with | some o => renO ids o | none => none
def lowAll : List (Nat × Nat) → St → St
  | [], st => st
  | (t, c) :: r, st => match posAV st t c with
    | .aref id _ => match st.ob id with
      | some (.arr k _ els) => lowAll r { st with ob := fun i => bif Nat.beq i id then some (.arr k false els) else st.ob i }
      | _ => lowAll r st
    | _ => lowAll r st
def canonW (live : Live) (st : St) (ids : List Nat) (K : List AV → List OB → Option R) : Option R :=
  match nodupB ids with
  | true => K (live.ts.map fun x => ren ids (st.tm x.1)) (ids.map fun id => (obRen ids (st.ob id), st.pm id))
  | false => none
def canonF (live : Live) (st : St) (K : List AV → List OB → Option R) : Option R := canonW live st (idsOf 1000 st.ob (live.ts.map fun x => st.tm x.1) []) K
def canon (E : Env) (live : Live) (st : St) (K : List AV → List OB → Option R) : Option R :=
  match nilFix E live.ts st with
  | some st => canonF live (lowAll live.low (frzAll live.frz st)) K
  | none => none
inductive Ex where
  | normal
  | exit (id : Nat)
  | ret
structure Hint where
  live : Live
  outs : List (Nat × Live)
abbrev FR := List (List DV) × DV
abbrev Sg := List AV → List OB → (Ex → List AV → List OB → Option FR) → Option FR
inductive ST where
  | o
  | n (h : Option Hint) (s : Option Sg) (a b : ST)
def ST.h : ST → Option Hint
  | .o => none
  | .n h _ _ _ => h
def ST.s : ST → Option Sg
  | .o => none
  | .n _ s _ _ => s
def ST.l : ST → ST
  | .o => .o
  | .n _ _ a _ => a
def ST.r : ST → ST
  | .o => .o
  | .n _ _ _ b => b
def exKey : Ex → Nat
  | .normal => 0
  | .ret => 1
  | .exit i => i + 2
def outAt : List (Nat × Live) → Nat → Option Live
  | [], _ => none
  | (k, l) :: r, n => bif Nat.beq n k then some l else outAt r n
def outK (E : Env) (outs : List (Nat × Live)) (e : Ex) (st : St) (K : List AV → List OB → St → Option R) : Option R :=
  match outAt outs (exKey e) with
  | some live => canon E live st fun avs obs => K avs obs (mkSt live avs obs)
  | none => none
def nodeK (E : Env) (h : Option Hint) (run : St → (Ex → St → Option R) → Option R) (st : St) (K : Ex → St → Option R) : Option R :=
  match h with
  | none => run st K
  | some h => canon E h.live st fun avs obs => run (mkSt h.live avs obs) fun e st2 => outK E h.outs e st2 fun _ _ st3 => K e st3
def hLive (h : Option Hint) : Option Live := match h with | some h => some h.live | none => none
def denLoop (E : Env) (hint : Option Live) (F : St → (Ex → St → Option R) → Option R) : Nat → St → (Ex → St → Option R) → Option R
  | 0, _, _ => none
  | n + 1, st, K => F st fun e st' => match e with
      | .normal => match hint with
        | some live => canon E live st' fun avs obs => denLoop E hint F n (mkSt live avs obs) K
        | none => denLoop E hint F n st' K
      | .exit i => K (.exit i) st'
      | .ret => K .ret st'
def den (E : Env) (n : Nat) : Code → ST → St → (Ex → St → Option R) → Option R
  | .skip, _, st, K => K .normal st
  | .region _ ops draw, _, st, K => denRegion E ops draw st (K .normal)
  | .seq a b, t, st, K => nodeK E t.h (fun st K => den E n a t.l st fun e st' => match e with
    | .normal => den E n b t.r st' K
    | .exit i => K (.exit i) st'
    | .ret => K .ret st') st K
  | .cond c a b, t, st, K => nodeK E t.h (fun st K => (opd c >>= getB).run E st (fun x _ => match x with
    | true => den E n a t.l st K
    | false => den E n b t.r st K) []) st K
  | .block id b, t, st, K => nodeK E t.h (fun st K => den E n b t.l st fun e st' => match e with
    | .exit i => match Nat.beq i id with
      | true => K .normal st'
      | false => K (.exit i) st'
    | .normal => K .normal st'
    | .ret => K .ret st') st K
  | .loop b, t, st, K => nodeK E t.h (fun st K => denLoop E (hLive t.h) (den E n b t.l) n st K) st K
  | .exit id, _, st, K => K (.exit id) st
  | .ret, _, st, K => K .ret st
  | _, _, _, _ => none
def outC (E : Env) (st : St) (used : List Nat) (ty : Nat) : AV → Option (DV × List Nat)
  | .rd d => some (.ro d, used)
  | .nil => match E.tt ty with
    | some { tk := .slice _ k _, .. } => some (.own k true [], used)
    | _ => none
  | .aref id t => match st.ob id with
    | some (.arr k deep els) => match used.any (Nat.beq id) with
      | true => none
      | false => match st.pm id with
        | true => some (.ro (.sl t els), used)
        | false => match deep with
          | true => some (.own k t els, id :: used)
          | false => some (.shal k t els, id :: used)
    | _ => none
  | .sref id off n t => match st.ob id with
    | some (.arr _ _ els) => match used.any (Nat.beq id) with
      | true => none
      | false => some (.ro (.sl t ((els.drop off).take n)), id :: used)
    | _ => none
  | _ => none
def outCs (E : Env) (st : St) (used : List Nat) : List Nat → List AV → Option (List DV × List Nat)
  | _, [] => some ([], used)
  | t :: ts, v :: vs => match outC E st used t v with
    | some (d, u) => match outCs E st u ts vs with
      | some (ds, u') => some (d :: ds, u')
      | none => none
    | none => none
  | [], _ :: _ => none
def out1 (E : Env) (st : St) (used : List Nat) (ty : Nat) : AV → Option (DV × List Nat)
  | .agg xs => match E.tt ty with
    | some ti => match outCs E st used ti.ct xs with
      | some (ds, u) => some (.agg ds, u)
      | none => none
    | none => none
  | .bref id 0 => match st.ob id with
    | some (.box _ cells) => match !st.pm id && !(used.any (Nat.beq id)) with
      | true => match outCs E st (id :: used) (List.replicate cells.length 0) cells with
        | some (ds, u) => some (.mut ds, u)
        | none => none
      | false => none
    | _ => none
  | v => outC E st used ty v
def outs (E : Env) (st : St) (used : List Nat) : List Nat → List AV → Option (List DV × List Nat)
  | _, [] => some ([], used)
  | t :: ts, v :: vs => match out1 E st used t v with
    | some (d, u) => match outs E st u ts vs with
      | some (ds, u') => some (d :: ds, u')
      | none => none
    | none => none
  | [], _ :: _ => none
def outMuts (E : Env) (st : St) : List Nat → List Nat → Option (List (List DV) × List Nat)
  | [], used => some ([], used)
  | id :: r, used => match st.ob id with
    | some (.box _ cells) => match !st.pm id && !(used.any (Nat.beq id)) with
      | true => match outCs E st (id :: used) (List.replicate cells.length 0) cells with
        | some (ds, u) => match outMuts E st r u with
          | some (m, u') => some (ds :: m, u')
          | none => none
        | none => none
      | false => none
    | _ => none
def resAV (E : Env) (st : St) : List ResultVar → Option (List AV)
  | [] => some []
  | .tmp t :: r => match resAV E st r with | some vs => some (st.tm t :: vs) | none => none
  | .cell a t :: r => match st.tm a, E.tt t, resAV E st r with
    | .bref id j, some ti, some vs => match st.ob id with
      | some (.box _ cells) => match Nat.ble (j + ti.size) cells.length with
        | true => some (agv ti.agg ((cells.drop j).take ti.size) :: vs)
        | false => none
      | _ => none
    | _, _, _ => none
def mutIds (st : St) : Nat → List DV → Option (List Nat)
  | _, [] => some []
  | i, .mut _ :: r => match st.tm i with
    | .bref id 0 => match mutIds st (i + 1) r with | some l => some (id :: l) | none => none
    | _ => none
  | i, _ :: r => mutIds st (i + 1) r
def tmOf (vs : List AV) (t : Nat) : AV := match vs[t]? with | some v => v | none => .tup []
def finK (E : Env) (fin : Option Live) (e : Ex) (st : St) (K : Ex → St → Option R) : Option R := match fin with
  | none => K e st
  | some live => canon E live st fun avs obs => K e (mkSt live avs obs)
def endK (E : Env) (fn : Func) (args : List DV) (K : List (List DV) → DV → Option R) (e : Ex) (st : St) : Option R := match e with
  | .exit _ => none
  | _ => match mutIds st 0 args with
    | none => none
    | some ids => match outMuts E st ids [] with
      | none => none
      | some (ms, used) => match resAV E st fn.results.toList with
        | none => none
        | some rs => match rs with
          | [r] => match fn.resultTypes.toList with
            | [t] => match out1 E st used t r with
              | some (d, _) => K ms d
              | none => none
            | _ => none
          | rs => match outs E st used fn.resultTypes.toList rs with
            | some (ds, _) => K ms (.tup ds)
            | none => none
def edgesOk (ops : List Oper) : Bool := ops.zipIdx.all fun (o, i) => o.after.toList.all fun e => !Region.binds .any e || Nat.blt e.on i
def opsOk (lo : List Nat) (N : Nat) (ops : Array Oper) : Bool := ops.toList.all (fun o => match o.dst with | some d => !(lo.any (Nat.beq d)) && Nat.blt d N | none => true) && edgesOk ops.toList
def codeOk (lo : List Nat) (N : Nat) : Code → Bool
  | .region _ ops _ => opsOk lo N ops
  | .seq a b => codeOk lo N a && codeOk lo N b
  | .cond _ a b => codeOk lo N a && codeOk lo N b
  | .block _ b => codeOk lo N b
  | .loop b => codeOk lo N b
  | _ => true
def protOf : Nat → List DV → List Nat
  | _, [] => []
  | i, .mut _ :: r => i :: protOf (i + 1) r
  | i, _ :: r => protOf (i + 1) r
def denF (E : Env) (t : ST) (fin : Option Live) (fn : Func) (n : Nat) : Sm := fun args =>
  match Nat.beq args.length (fn.params.size + fn.nfree) with
  | false => none
  | true => match fn.body with
    | none => none
    | some c => match codeOk (protOf 0 args) fn.ntmps c with
     | false => none
     | true => match importMany 0 0 args with
      | none => none
      | some (vs, us, nx) =>
        den E n c t { ({ tm := tmOf vs, ob := fun _ => none, pm := fun _ => false, nx := nx } : St).upds us with nx := nx } fun e st => finK E fin e st (endK E fn args fun m d => some (m, d))
end Go.Den
end
section
namespace Go.Den
open Go
def aggD : TypeDesc → Bool
  | .struct _ | .array _ _ => true
  | _ => false
mutual
def cellTys (P : Program) : Nat → Nat → List Nat
  | 0, _ => []
  | n + 1, t => match P.underlying t with
    | some (.struct fs) => cellTysL P n (fs.toList.map (·.type))
    | some (.array _ _) => []
    | _ => [t]
def cellTysL (P : Program) : Nat → List Nat → List Nat
  | 0, _ => []
  | _ + 1, [] => []
  | n + 1, t :: r => cellTys P n t ++ cellTysL P n r
end
def isStruct (P : Program) (t : Nat) : Bool := match P.underlying t with
  | some (.struct _) => true
  | _ => false
def fieldOk (P : Program) (t : Nat) : Bool := match P.info? t, P.underlying t with
  | some _, some (.array _ _) => false
  | some i, some _ => !(Nat.beq i.size 0)
  | _, _ => false
def tkOf (P : Program) (t : Nat) : Option TK := match P.underlying t with
  | some .bool => some .bool
  | some .string => some .str
  | some (.int k) => some (.int k)
  | some (.slice e) => match P.info? e with
    | some i => some (.slice e i.size i.bytes)
    | none => none
  | some (.struct fs) => match fs.toList.all (fun f => fieldOk P f.type) with
    | true => some (.struct (fs.toList.map fun f => (f.offset, f.type, P.cellsOf f.type, isStruct P f.type)))
    | false => none
  | some (.array _ _) => none
  | some (.map k e) => match P.underlying k, (P.info? e).bind (·.zero) with
    | some (.int kk), some z => match scal z with
      | true => some (.map kk z)
      | false => none
    | _, _ => none
  | some _ => some .other
  | none => none
def ttOf (P : Program) (t : Nat) : Option TInfo := match P.info? t with
  | none => none
  | some i => match tkOf P t with
    | none => none
    | some tk => match i.zero with
      | none => none
      | some z => match (match tk with | .struct _ => true | _ => Nat.beq i.size 1) with
        | false => none
        | true => some { size := i.size, bytes := i.bytes, zero := z.cells.toList, ct := cellTys P 20 t, tk := tk }
end Go.Den
end
section
namespace Go.Den
open Go
theorem cell_of_heap {w w' : World} {b o : Nat} (h : w'.heap[b]? = w.heap[b]?) : w'.cell? ⟨b, o, none⟩ = w.cell? ⟨b, o, none⟩ := by
  simp only [World.cell?, h]
mutual
def RR (w : World) : RD → Value → List Nat → Prop
  | .lit v, u, fs => u = v ∧ scal v = true ∧ fs = []
  | .sl t els, u, fs => ∃ A c, u = .slice A els.length c ∧ els.length ≤ c ∧ (t = true → c = els.length) ∧
      ((els = [] ∧ fs = []) ∨ ∃ b o k gs, A = some ⟨b, o, none⟩ ∧ els ≠ [] ∧ fs = b :: gs ∧ RE w b o k els gs)
  | .pt cells, u, fs => ∃ b o gs, u = .pointer (some ⟨b, o, none⟩) ∧ fs = b :: gs ∧ RL w b o cells gs
  | .fn g caps, u, fs => ∃ vs, u = .func (.func g) #[] ⟨vs⟩ ∧ RV w caps vs fs
def RL (w : World) (b : Nat) : Nat → List RD → List Nat → Prop
  | _, [], fs => fs = []
  | o, d :: ds, fs => ∃ v f g, w.cell? ⟨b, o, none⟩ = some v ∧ RR w d v f ∧ RL w b (o + 1) ds g ∧ fs = f ++ g
def RE (w : World) (b : Nat) : Nat → Nat → List (List RD) → List Nat → Prop
  | _, _, [], fs => fs = []
  | o, k, e :: es, fs => ∃ f g, e.length = k ∧ RL w b o e f ∧ RE w b (o + k) k es g ∧ fs = f ++ g
def RV (w : World) : List RD → List Value → List Nat → Prop
  | [], vs, fs => vs = [] ∧ fs = []
  | d :: ds, vs, fs => ∃ v us f g, vs = v :: us ∧ RR w d v f ∧ RV w ds us g ∧ fs = f ++ g
end
mutual
theorem RR.keep {w w' : World} : ∀ {d : RD} {v : Value} {fs : List Nat}, RR w d v fs → (∀ b ∈ fs, w'.heap[b]? = w.heap[b]?) → RR w' d v fs
  | .lit _, _, _, h, _ => by simpa only [RR] using h
  | .sl t els, v, fs, h, hk => by
    simp only [RR] at h ⊢
    obtain ⟨A, c, h1, h2, h3, h4⟩ := h
    refine ⟨A, c, h1, h2, h3, h4.imp id ?_⟩
    rintro ⟨b, o, k, gs, hA, hne, rfl, hE⟩
    exact ⟨b, o, k, gs, hA, hne, rfl, RE.keep hE (hk b (by simp)) (fun x hx => hk x (by simp [hx]))⟩
  | .pt cells, v, fs, h, hk => by
    simp only [RR] at h ⊢
    obtain ⟨b, o, gs, h1, rfl, hL⟩ := h
    exact ⟨b, o, gs, h1, rfl, RL.keep hL (hk b (by simp)) (fun x hx => hk x (by simp [hx]))⟩
  | .fn g caps, v, fs, h, hk => by
    simp only [RR] at h ⊢
    obtain ⟨vs, h1, hV⟩ := h
    exact ⟨vs, h1, RV.keep hV hk⟩
theorem RL.keep {w w' : World} {b : Nat} : ∀ {o : Nat} {ds : List RD} {fs : List Nat}, RL w b o ds fs → w'.heap[b]? = w.heap[b]? → (∀ x ∈ fs, w'.heap[x]? = w.heap[x]?) → RL w' b o ds fs
  | _, [], _, h, _, _ => by simpa only [RL] using h
  | o, d :: ds, fs, h, hb, hk => by
    simp only [RL] at h ⊢
    obtain ⟨v, f, g, h1, h2, h3, rfl⟩ := h
    exact ⟨v, f, g, (cell_of_heap hb).trans h1, RR.keep h2 (fun x hx => hk x (by simp [hx])), RL.keep h3 hb (fun x hx => hk x (by simp [hx])), rfl⟩
theorem RE.keep {w w' : World} {b : Nat} : ∀ {o k : Nat} {es : List (List RD)} {fs : List Nat}, RE w b o k es fs → w'.heap[b]? = w.heap[b]? → (∀ x ∈ fs, w'.heap[x]? = w.heap[x]?) → RE w' b o k es fs
  | _, _, [], _, h, _, _ => by simpa only [RE] using h
  | o, k, e :: es, fs, h, hb, hk => by
    simp only [RE] at h ⊢
    obtain ⟨f, g, h1, h2, h3, rfl⟩ := h
    exact ⟨f, g, h1, RL.keep h2 hb (fun x hx => hk x (by simp [hx])), RE.keep h3 hb (fun x hx => hk x (by simp [hx])), rfl⟩
theorem RV.keep {w w' : World} : ∀ {ds : List RD} {vs : List Value} {fs : List Nat}, RV w ds vs fs → (∀ x ∈ fs, w'.heap[x]? = w.heap[x]?) → RV w' ds vs fs
  | [], _, _, h, _ => by simpa only [RV] using h
  | d :: ds, vs, fs, h, hk => by
    simp only [RV] at h ⊢
    obtain ⟨v, us, f, g, rfl, h2, h3, rfl⟩ := h
    exact ⟨v, us, f, g, rfl, RR.keep h2 (fun x hx => hk x (by simp [hx])), RV.keep h3 (fun x hx => hk x (by simp [hx])), rfl⟩
end
def World.bsz (w : World) (b : Nat) : Nat := match w.heap[b]? with
  | some (.cells a _ _) => a.size
  | _ => 0
structure Cs where
  l : List Nat
  bad : Nat → Prop
instance : Membership Nat Cs := ⟨fun c b => b ∈ c.l⟩
structure Gm where
  f : Nat → Option Nat
  bad : Nat → Prop
instance : CoeFun Gm (fun _ => Nat → Option Nat) := ⟨Gm.f⟩
def SlV (m : Gm) (w : World) (id k off n : Nat) (t : Bool) (v : Value) : Prop :=
  ∃ A c, v = .slice A n c ∧ n ≤ c ∧ (t = true → c = n) ∧
    ((n = 0 ∧ c = 0) ∨ ∃ b, m id = some b ∧ A = some ⟨b, off * k, none⟩ ∧ (off + c) * k ≤ World.bsz w b)
structure Mp where
  m : Gm
  ob : Nat → Option AObj
  fr : Nat → Prop
mutual
def AVR (M : Mp) (w : World) : AV → Value → List Nat → Prop
  | .rd d, v, fs => RR w d v fs
  | .nil, v, fs => v = .slice none 0 0 ∧ fs = []
  | .aref id t, v, fs => (fs = [] ∧ v.oneCell' = true) ∧ ¬ M.fr id ∧ ∀ k deep els, M.ob id = some (.arr k deep els) → SlV M.m w id k 0 els.length t v
  | .sref id off n t, v, fs => (fs = [] ∧ v.oneCell' = true) ∧ ¬ M.fr id ∧ ∀ k deep els, M.ob id = some (.arr k deep els) → off + n ≤ els.length ∧ SlV M.m w id k off n t v
  | .bref id j, v, fs => (fs = [] ∧ v.oneCell' = true) ∧ ¬ M.fr id ∧ ∀ ty cells, M.ob id = some (.box ty cells) → ∃ b, M.m id = some b ∧ v = .pointer (some ⟨b, j, none⟩)
  | .eref id i j, v, fs => (fs = [] ∧ v.oneCell' = true) ∧ ¬ M.fr id ∧ ∀ k deep els, M.ob id = some (.arr k deep els) → ∃ b, M.m id = some b ∧ v = .pointer (some ⟨b, i * k + j, none⟩)
  | .mref id, v, fs => (fs = [] ∧ v.oneCell' = true) ∧ ¬ M.fr id ∧ ∀ ents, M.ob id = some (.map ents) → ∃ b, M.m id = some b ∧ v = .map (some b)
  | .fnv g caps, v, fs => ∃ vs, v = .func (.func g) #[] ⟨vs⟩ ∧ AVL M w caps vs fs
  | .agg xs, v, fs => ∃ vs, v = .agg ⟨vs⟩ ∧ AVL M w xs vs fs ∧ xs.all isCell = true
  | .tup xs, v, fs => ∃ vs, v = .tuple ⟨vs⟩ ∧ AVL M w xs vs fs
  | .bad, _, fs => fs = []
def AVL (M : Mp) (w : World) : List AV → List Value → List Nat → Prop
  | [], vs, fs => vs = [] ∧ fs = []
  | x :: xs, vs, fs => ∃ v us f g, vs = v :: us ∧ AVR M w x v f ∧ AVL M w xs us g ∧ fs = f ++ g
end
def shape : AObj → AObj → Prop
  | .box _ _, .box _ _ => True
  | .arr k _ els, .arr k' _ els' => k = k' ∧ els.length = els'.length
  | .map _, .map _ => True
  | _, _ => False
structure Mp.Goes (M M' : Mp) (w w' : World) : Prop where
  fr : ∀ id, M'.fr id → M.fr id
  ob : ∀ id o', ¬ M.fr id → M'.ob id = some o' → ∃ o, M.ob id = some o ∧ shape o o' ∧ M'.m id = M.m id
  bsz : ∀ id b, ¬ M.fr id → (∃ k d els, M.ob id = some (.arr k d els)) → M.m id = some b → M'.ob id ≠ none → World.bsz w b ≤ World.bsz w' b
  bad : M'.m.bad = M.m.bad
theorem SlV.goes {M M' : Mp} {w w' : World} {id k off n : Nat} {t : Bool} {v : Value} (h : SlV M.m w id k off n t v) (hm : M'.m id = M.m id)
    (hb : ∀ b, M.m id = some b → World.bsz w b ≤ World.bsz w' b) : SlV M'.m w' id k off n t v := by
  obtain ⟨A, c, h1, h2, h3, h4⟩ := h
  refine ⟨A, c, h1, h2, h3, h4.imp (fun h => h) ?_⟩
  rintro ⟨b, hmb, hA, hle⟩
  exact ⟨b, hm.trans hmb, hA, Nat.le_trans hle (hb b hmb)⟩
theorem arr_live {ob : Nat → Option AObj} {id : Nat} (h : ∃ k d els, ob id = some (.arr k d els)) : ob id ≠ none := by
  obtain ⟨_, _, _, h⟩ := h; simp [h]
mutual
theorem AVR.goes {M M' : Mp} {w w' : World} (G : M.Goes M' w w') : ∀ {x : AV} {v : Value} {fs : List Nat}, AVR M w x v fs → (∀ b ∈ fs, w'.heap[b]? = w.heap[b]?) → AVR M' w' x v fs
  | .rd d, v, fs, h, hk => by simp only [AVR] at h ⊢; exact RR.keep h hk
  | .nil, v, fs, h, hk => by simpa only [AVR] using h
  | .aref id t, v, fs, h, hk => by
    simp only [AVR] at h ⊢
    refine ⟨h.1, fun hf => h.2.1 (G.fr id hf), fun k deep els ho => ?_⟩
    obtain ⟨o, h1, h2, h3⟩ := G.ob id _ h.2.1 ho
    cases o with
    | arr k0 d0 e0 =>
      obtain ⟨rfl, hl⟩ := h2
      have := (h.2.2 _ _ _ h1).goes h3 (fun b hb => G.bsz id b h.2.1 ⟨_, _, _, h1⟩ hb (by simp [ho]))
      rw [hl] at this; exact this
    | box => exact h2.elim
    | map => exact h2.elim
  | .sref id off n t, v, fs, h, hk => by
    simp only [AVR] at h ⊢
    refine ⟨h.1, fun hf => h.2.1 (G.fr id hf), fun k deep els ho => ?_⟩
    obtain ⟨o, h1, h2, h3⟩ := G.ob id _ h.2.1 ho
    cases o with
    | arr k0 d0 e0 =>
      obtain ⟨rfl, hl⟩ := h2
      obtain ⟨h4, h5⟩ := h.2.2 _ _ _ h1
      exact ⟨by omega, h5.goes h3 (fun b hb => G.bsz id b h.2.1 ⟨_, _, _, h1⟩ hb (by simp [ho]))⟩
    | box => exact h2.elim
    | map => exact h2.elim
  | .bref id j, v, fs, h, hk => by
    simp only [AVR] at h ⊢
    refine ⟨h.1, fun hf => h.2.1 (G.fr id hf), fun ty cells ho => ?_⟩
    obtain ⟨o, h1, h2, h3⟩ := G.ob id _ h.2.1 ho
    cases o with
    | arr => exact h2.elim
    | box ty0 c0 => obtain ⟨b, h4, h5⟩ := h.2.2 _ _ h1; exact ⟨b, h3.trans h4, h5⟩
    | map => exact h2.elim
  | .eref id i j, v, fs, h, hk => by
    simp only [AVR] at h ⊢
    refine ⟨h.1, fun hf => h.2.1 (G.fr id hf), fun k deep els ho => ?_⟩
    obtain ⟨o, h1, h2, h3⟩ := G.ob id _ h.2.1 ho
    cases o with
    | arr k0 d0 e0 =>
      obtain ⟨rfl, hl⟩ := h2
      obtain ⟨b, h4, h5⟩ := h.2.2 _ _ _ h1; exact ⟨b, h3.trans h4, h5⟩
    | box => exact h2.elim
    | map => exact h2.elim
  | .mref id, v, fs, h, hk => by
    simp only [AVR] at h ⊢
    refine ⟨h.1, fun hf => h.2.1 (G.fr id hf), fun ents ho => ?_⟩
    obtain ⟨o, h1, h2, h3⟩ := G.ob id _ h.2.1 ho
    cases o with
    | arr => exact h2.elim
    | box => exact h2.elim
    | map e0 => obtain ⟨b, h4, h5⟩ := h.2.2 _ h1; exact ⟨b, h3.trans h4, h5⟩
  | .fnv g caps, v, fs, h, hk => by
    simp only [AVR] at h ⊢
    obtain ⟨vs, h1, h2⟩ := h
    exact ⟨vs, h1, AVL.goes G h2 hk⟩
  | .agg xs, v, fs, h, hk => by
    simp only [AVR] at h ⊢
    obtain ⟨vs, h1, h2, h3⟩ := h
    exact ⟨vs, h1, AVL.goes G h2 hk, h3⟩
  | .tup xs, v, fs, h, hk => by
    simp only [AVR] at h ⊢
    obtain ⟨vs, h1, h2⟩ := h
    exact ⟨vs, h1, AVL.goes G h2 hk⟩
  | .bad, v, fs, h, hk => by simpa only [AVR] using h
theorem AVL.goes {M M' : Mp} {w w' : World} (G : M.Goes M' w w') : ∀ {xs : List AV} {vs : List Value} {fs : List Nat}, AVL M w xs vs fs → (∀ b ∈ fs, w'.heap[b]? = w.heap[b]?) → AVL M' w' xs vs fs
  | [], _, _, h, _ => by simpa only [AVL] using h
  | x :: xs, vs, fs, h, hk => by
    simp only [AVL] at h ⊢
    obtain ⟨v, us, f, g, rfl, h2, h3, rfl⟩ := h
    exact ⟨v, us, f, g, rfl, AVR.goes G h2 (fun b hb => hk b (by simp [hb])), AVL.goes G h3 (fun b hb => hk b (by simp [hb])), rfl⟩
end
def OBR (M : Mp) (w : World) (id : Nat) : AObj → List Nat → Prop
  | .box _ cells, fs => ∃ b a e, M.m id = some b ∧ w.heap[b]? = some (.cells ⟨a⟩ e (0, 0)) ∧ AVL M w cells a fs ∧ cells.all isCell = true
  | .arr k _ els, fs => (els = [] ∧ M.m id = none ∧ fs = []) ∨ ∃ b a e, M.m id = some b ∧ w.heap[b]? = some (.cells a e (0, 0)) ∧ els.length * k ≤ a.size ∧ RE w b 0 k els fs
  | .map ents, fs => fs = [] ∧ ∃ b es clock, M.m id = some b ∧ w.heap[b]? = some (.map es clock) ∧
      es.toList.map (fun e => (e.key, e.val)) = ents.map (fun x => (.int .i64 x.1, x.2)) ∧ ents.all (fun x => scal x.2) = true
def deepO : AObj → Bool
  | .arr _ d _ => d
  | _ => false
def St.mp (st : St) (m : Gm) (fr : Nat → Prop) : Mp := ⟨m, st.ob, fr⟩
def Froz (m : Gm) (st : St) (w : World) (fs : List Nat) : Prop :=
  ∀ b ∈ fs, (b < w.heap.size ∧ ¬ m.bad b) ∧ ∀ id, st.ob id ≠ none → st.pm id = false → m id ≠ some b
structure Fram (rs : List Nat) (w w' : World) : Prop where
  os : w'.os = w.os
  tape : w'.tape = w.tape
  output : w'.output = w.output
  size : w.heap.size ≤ w'.heap.size
  block : ∀ b, b < w.heap.size → b ∉ rs → w'.heap[b]? = w.heap[b]?
theorem Fram.refl (rs : List Nat) (w : World) : Fram rs w w := ⟨rfl, rfl, rfl, Nat.le_refl _, fun _ _ _ => rfl⟩
structure Rel (w0 : World) (rs : List Nat) (cs : Cs) (m : Gm) (cl : Nat → List Nat) (fr : Nat → Prop) (st : St) (tmps : Array Value) (w : World) : Prop where
  fram : Fram rs w0 w
  tm : ∀ t, ∃ fs, AVR (st.mp m fr) w (st.tm t) (tmps.getD t undef) fs ∧ Froz m st w fs
  ob : ∀ id o, st.ob id = some o → ∃ fs, OBR (st.mp m fr) w id o fs ∧ Froz m st w fs ∧ (deepO o = true → st.pm id = false → fs = cl id)
  inj : ∀ id id' b, st.ob id ≠ none → st.ob id' ≠ none → m id = some b → m id' = some b → id = id'
  mine : ∀ id b, st.ob id ≠ none → m id = some b → b < w.heap.size ∧ (b ∈ rs ∨ w0.heap.size ≤ b)
  cl1 : ∀ id o, st.ob id = some o → deepO o = true → st.pm id = false → (cl id).Nodup ∧ ∀ b ∈ cl id, b ∈ rs ∨ b ∈ cs ∨ w0.heap.size ≤ b
  cl2 : ∀ id id' o o', st.ob id = some o → st.ob id' = some o' → deepO o = true → deepO o' = true → st.pm id = false → st.pm id' = false → id ≠ id' → ∀ b ∈ cl id, b ∉ cl id'
  fr : ∀ id, fr id → st.ob id = none ∧ st.pm id = false
  bad : ∀ b, m.bad b → b < w0.heap.size ∧ b ∉ rs
  badEq : m.bad = cs.bad
end Go.Den
end
section
namespace Go.Den
open Go
set_option linter.unusedSimpArgs false
set_option linter.unusedVariables false
section
variable {P : Program} {w : World}
theorem run_bind {α β : Type} (x : Sem α) (f : α → Sem β) : ∀ (w : World), (x >>= f).run P w = match x.run P w with | .ok a w' => (f a).run P w' | .halt h w' => .halt h w' := by
  show ∀ w, (Sem.bind x f).run P w = _
  induction x with
  | pure a => intro w; rfl
  | load m a k ih =>
    intro w
    simp only [Sem.bind, Sem.run]
    split
    · exact ih _ _
    · split
      · exact ih _ _
      · rfl
  | store m a v k ih =>
    intro w
    cases v
    case agg => rfl
    case tuple => rfl
    all_goals
      simp only [Sem.bind, Sem.run]
      cases h : w.cell? a with
      | some x => cases hf : w.frozen? a <;> simp [ih]
      | none =>
        simp only []
        split
        · exact ih _
        · rfl
  | new o k ih => intro w; simp only [Sem.bind, Sem.run]; exact ih _ _
  | shape r k ih => intro w; simp only [Sem.bind, Sem.run]; exact ih _ _
  | freeze a n k ih => intro w; simp only [Sem.bind, Sem.run]; exact ih _
  | frozen a k ih => intro w; simp only [Sem.bind, Sem.run]; exact ih _ _
  | getObj r k ih =>
    intro w
    simp only [Sem.bind, Sem.run]
    split
    · rfl
    · exact ih _ _
    · rfl
  | setObj r o k ih =>
    intro w
    simp only [Sem.bind, Sem.run]
    split
    · rfl
    · exact ih _
    · rfl
  | choose q k ih =>
    intro w
    simp only [Sem.bind, Sem.run]
    split <;> exact ih _ _
  | sys c k ih => intro w; simp only [Sem.bind, Sem.run]; exact ih _ _
  | program k ih => intro w; simp only [Sem.bind, Sem.run]; exact ih _ _
  | mark m k ih => intro w; simp only [Sem.bind, Sem.run]; exact ih _
  | halt h => intro w; rfl
theorem run_pure {α : Type} (a : α) : (pure a : Sem α).run P w = .ok a w := rfl
theorem run_underlying {t : Nat} {d : TypeDesc} (h : P.underlying t = some d) : (underlying t).run P w = .ok d w := by
  simp [underlying, program, run_bind, Sem.run, h, run_pure]
theorem run_typeInfo {t : Nat} {i : TypeInfo} (h : P.info? t = some i) : (typeInfo t).run P w = .ok i w := by
  simp [typeInfo, program, run_bind, Sem.run, h, run_pure]
theorem run_sizeOf {t : Nat} {i : TypeInfo} (h : P.info? t = some i) : (sizeOf t).run P w = .ok i.size w := by
  simp [sizeOf, run_bind, run_typeInfo h, run_pure]
theorem run_zeroValue {t : Nat} {i : TypeInfo} {z : Value} (h : P.info? t = some i) (hz : i.zero = some z) : (zeroValue t).run P w = .ok z w := by
  simp [zeroValue, run_bind, run_typeInfo h, run_pure, hz]
theorem run_load {a : Addr} {v : Value} (h : w.cell? a = some v) : (load a).run P w = .ok v w := by
  simp [load, Sem.run, h]
theorem run_isAgg {t : Nat} {d : TypeDesc} (h : P.underlying t = some d) : (isAgg t).run P w = .ok (aggD d) w := by
  unfold isAgg
  rw [run_bind, run_underlying h]
  cases d <;> rfl
end
structure TOk (P : Program) (t : Nat) (ti : TInfo) : Prop where
  info : ∃ i z d, P.info? t = some i ∧ i.size = ti.size ∧ i.bytes = ti.bytes ∧ i.zero = some z ∧ z.cells.toList = ti.zero ∧ P.underlying t = some d ∧
    aggD d = ti.agg ∧ tkOf P t = some ti.tk ∧ (ti.agg = false → ti.size = 1)
theorem tok_of {P : Program} {t : Nat} {ti : TInfo} (h : ttOf P t = some ti) : TOk P t ti := by
  unfold ttOf at h
  split at h
  · cases h
  · rename_i i hi
    split at h
    · cases h
    · rename_i tk htk
      split at h
      · cases h
      · rename_i z hz
        split at h
        · cases h
        rename_i hone
        cases h
        have hd : ∃ d, P.underlying t = some d := by
          cases hu : P.underlying t with
          | none => simp [tkOf, hu] at htk
          | some d => exact ⟨d, rfl⟩
        obtain ⟨d, hd⟩ := hd
        refine ⟨i, z, d, hi, rfl, rfl, hz, rfl, hd, ?_, htk, ?_⟩
        rotate_left
        · intro hf
          split at hone
          · simp [TInfo.agg] at hf
          · exact Nat.eq_of_beq_eq_true hone
        unfold tkOf at htk
        rw [hd] at htk
        unfold TInfo.agg
        cases d <;> simp only at htk
        all_goals (try (cases htk))
        all_goals (try rfl)
        all_goals (split at htk <;> first | (cases htk; rfl) | cases htk | skip)
        all_goals (try (split at htk <;> first | (cases htk; rfl) | cases htk))
def Ans {α : Type} (E : Env) (st : St) : Rq α → α → Prop
  | .ret a, b => a = b
  | .fail, _ => False
  | .tm t k, b => Ans E st (k (st.tm t)) b
  | .ob id k, b => Ans E st (k (st.ob id)) b
  | .pm id k, b => Ans E st (k (st.pm id)) b
  | .call f args k, b => ∃ F m r, E.cs f = some F ∧ F args = some (m, r) ∧ Ans E st (k m r) b
  | .ite c x y, b => (c = true ∧ Ans E st x b) ∨ (c = false ∧ Ans E st y b)
section
variable {α β : Type} {E : Env} {st : St}
@[simp] theorem ans_ret (a b : α) : Ans E st (.ret a) b ↔ a = b := Iff.rfl
@[simp] theorem ans_pure (a b : α) : Ans E st (pure a) b ↔ a = b := Iff.rfl
@[simp] theorem ans_fail (b : α) : Ans E st .fail b ↔ False := Iff.rfl
@[simp] theorem ans_tm (t : Nat) (k : AV → Rq α) (b : α) : Ans E st (.tm t k) b ↔ Ans E st (k (st.tm t)) b := Iff.rfl
@[simp] theorem ans_ob (id : Nat) (k : Option AObj → Rq α) (b : α) : Ans E st (.ob id k) b ↔ Ans E st (k (st.ob id)) b := Iff.rfl
@[simp] theorem ans_pm (id : Nat) (k : Bool → Rq α) (b : α) : Ans E st (.pm id k) b ↔ Ans E st (k (st.pm id)) b := Iff.rfl
@[simp] theorem ans_call (f : Nat) (args : List DV) (k : List (List DV) → DV → Rq α) (b : α) : Ans E st (.call f args k) b ↔ ∃ F m r, E.cs f = some F ∧ F args = some (m, r) ∧ Ans E st (k m r) b := Iff.rfl
@[simp] theorem ans_ite (c : Bool) (x y : Rq α) (b : α) : Ans E st (.ite c x y) b ↔ (c = true ∧ Ans E st x b) ∨ (c = false ∧ Ans E st y b) := Iff.rfl
@[simp] theorem ans_bind (q : Rq α) (f : α → Rq β) (b : β) : Ans E st (q >>= f) b ↔ ∃ a, Ans E st q a ∧ Ans E st (f a) b := by
  show Ans E st (Rq.bind q f) b ↔ _
  induction q with
  | ret a => simp [Rq.bind]
  | fail => simp [Rq.bind]
  | tm t k ih => simp [Rq.bind, ih]
  | ob id k ih => simp [Rq.bind, ih]
  | pm id k ih => simp [Rq.bind, ih]
  | call f args k ih =>
    simp only [Rq.bind, ans_call, ih]
    constructor
    · rintro ⟨F, m, r, h1, h2, a, h3, h4⟩; exact ⟨a, ⟨F, m, r, h1, h2, h3⟩, h4⟩
    · rintro ⟨a, ⟨F, m, r, h1, h2, h3⟩, h4⟩; exact ⟨F, m, r, h1, h2, a, h3, h4⟩
  | ite c x y ihx ihy =>
    simp only [Rq.bind, ans_ite, ihx, ihy]
    constructor
    · rintro (⟨h, a, h1, h2⟩ | ⟨h, a, h1, h2⟩)
      · exact ⟨a, .inl ⟨h, h1⟩, h2⟩
      · exact ⟨a, .inr ⟨h, h1⟩, h2⟩
    · rintro ⟨a, ⟨h, h1⟩ | ⟨h, h1⟩, h2⟩
      · exact .inl ⟨h, a, h1, h2⟩
      · exact .inr ⟨h, a, h1, h2⟩
@[simp] theorem ans_need (c : Bool) (u : Unit) : Ans E st (need c) u ↔ c = true := by simp [need]
@[simp] theorem ans_tt (t : Nat) (ti : TInfo) : Ans E st (tt E t) ti ↔ E.tt t = some ti := by
  unfold tt; cases E.tt t <;> simp
@[simp] theorem ans_getB (v : AV) (b : Bool) : Ans E st (getB v) b ↔ v = .rd (.lit (.bool b)) := by
  unfold getB
  split
  · simp
  · rename_i h
    exact ⟨fun h' => h'.elim, fun h' => (h _ h').elim⟩
@[simp] theorem ans_getI (v : AV) (b : IntKind × Int) : Ans E st (getI v) b ↔ v = .rd (.lit (.int b.1 b.2)) := by
  unfold getI
  split
  · simp only [ans_ret, AV.rd.injEq, RD.lit.injEq, Value.int.injEq]
    exact Prod.ext_iff
  · rename_i h
    constructor
    · intro h'; exact h'.elim
    · intro h'; exact (h _ _ h').elim
@[simp] theorem ans_getS (v : AV) (b : Value) : Ans E st (getS v) b ↔ v = .rd (.lit b) := by
  unfold getS; split <;> simp_all
theorem run_ans {R : Type} (q : Rq α) : ∀ (K : α → List Nat → Option R) (l : List Nat) (r : R), q.run E st K l = some r → ∃ a l', Ans E st q a ∧ K a l' = some r := by
  induction q with
  | ret a => intro K l r h; exact ⟨a, l, rfl, h⟩
  | fail => intro K l r h; cases h
  | tm t k ih => intro K l r h; exact ih _ K _ r h
  | ob id k ih => intro K l r h; exact ih _ K _ r h
  | pm id k ih => intro K l r h; exact ih _ K _ r h
  | call f args k ih =>
    intro K l r h
    simp only [Rq.run] at h
    split at h
    · rename_i F hF
      split at h
      · rename_i m r' hr
        obtain ⟨a, l', h1, h2⟩ := ih m r' K l r h
        exact ⟨a, l', ⟨F, m, r', hF, hr, h1⟩, h2⟩
      · cases h
    · cases h
  | ite c x y ihx ihy =>
    intro K l r h
    cases c with
    | true => obtain ⟨a, l', h1, h2⟩ := ihx K l r h; exact ⟨a, l', .inl ⟨rfl, h1⟩, h2⟩
    | false => obtain ⟨a, l', h1, h2⟩ := ihy K l r h; exact ⟨a, l', .inr ⟨rfl, h1⟩, h2⟩
end
section
variable (P : Program) (o : Oper) (ρ : Operand → Value) (w : World)
def Did (post : Value → World → Prop) : Prop :=
  (∃ u w', (execOp ρ o).run P w = .ok (.value u) w' ∧ post u w') ∨ (∃ w', (execOp ρ o).run P w = .ok .skip w' ∧ post undef w') ∨
    ∃ f args, (execOp ρ o).run P w = .ok (.enter f args) w ∧ Calls P f args w fun e w' => ∃ u, e = .returned u ∧ post u w'
end
theorem Did.wp {P : Program} {o : Oper} {a : Act} {w : World} {post : Value → World → Prop} {K : Act → World → Prop} {Q : Exit → Act → World → Prop}
    (h : Did P o a.eval w post) (hK : ∀ u w', post u w' → K (a.put o.dst u) w') : o.wp P a w K Q := by
  unfold Oper.wp
  rcases h with ⟨u, w', hr, hp⟩ | ⟨w', hr, hp⟩ | ⟨f, args, hr, hc⟩
  · rw [hr]; exact hK _ _ hp
  · rw [hr]; exact hK _ _ hp
  · rw [hr]
    refine hc.mono ?_
    rintro e w' ⟨u, rfl, hp⟩
    exact hK _ _ hp
end Go.Den
end
section
namespace Go.Den
open Go
set_option linter.unusedSimpArgs false
set_option linter.unusedVariables false
def Aft (w0 : World) (rs : List Nat) (cs : Cs) (fr : Nat → Prop) (st : St) (tmps : Array Value) (v : AV) (u : Value) (w : World) : Prop :=
  ∃ m cl, Rel w0 rs cs m cl fr st tmps w ∧ ∃ fs, AVR (st.mp m fr) w v u fs ∧ Froz m st w fs
section
variable {P : Program} {E : Env} {w0 w : World} {rs : List Nat} {cs : Cs} {m : Gm} {cl : Nat → List Nat} {fr fr' : Nat → Prop} {st : St} {tmps : Array Value}
theorem shape_refl (o : AObj) : shape o o := by cases o <;> simp [shape]
theorem OBR.goes {M M' : Mp} {w w' : World} {id : Nat} {o : AObj} {fs : List Nat} (G : M.Goes M' w w') (hm : M'.m id = M.m id) (h : OBR M w id o fs)
    (hb : ∀ b, M.m id = some b → w'.heap[b]? = w.heap[b]?) (hk : ∀ b ∈ fs, w'.heap[b]? = w.heap[b]?) : OBR M' w' id o fs := by
  cases o with
  | box ty cells =>
    obtain ⟨b, a, e, h1, h2, h3, h4⟩ := h
    exact ⟨b, a, e, hm.trans h1, (hb b h1).trans h2, AVL.goes G h3 hk, h4⟩
  | arr k d els =>
    rcases h with ⟨h1, h2, h3⟩ | ⟨b, a, e, h1, h2, h3, h4⟩
    · exact .inl ⟨h1, hm.trans h2, h3⟩
    · exact .inr ⟨b, a, e, hm.trans h1, (hb b h1).trans h2, h3, RE.keep h4 (hb b h1) hk⟩
  | map ents =>
    obtain ⟨h0, b, es, c, h1, h2, h3, h4⟩ := h
    exact ⟨h0, b, es, c, hm.trans h1, (hb b h1).trans h2, h3, h4⟩
theorem goes_fr (h : ∀ id, fr' id → fr id) (w : World) : (st.mp m fr).Goes (st.mp m fr') w w :=
  ⟨h, fun id o' _ ho => ⟨o', ho, shape_refl o', rfl⟩, fun _ _ _ _ _ _ => Nat.le_refl _, rfl⟩
theorem Rel.less (R : Rel w0 rs cs m cl fr st tmps w) (h : ∀ id, fr' id → fr id) : Rel w0 rs cs m cl fr' st tmps w where
  fram := R.fram
  tm t := let ⟨fs, h1, h2⟩ := R.tm t; ⟨fs, h1.goes (goes_fr h w) (fun _ _ => rfl), h2⟩
  ob id o ho := let ⟨fs, h1, h2, h3⟩ := R.ob id o ho; ⟨fs, h1.goes (goes_fr h w) rfl (fun _ _ => rfl) (fun _ _ => rfl), h2, h3⟩
  inj := R.inj
  mine := R.mine
  cl1 := R.cl1
  cl2 := R.cl2
  fr id hf := R.fr id (h id hf)
  bad := R.bad
  badEq := R.badEq
theorem Rel.good (R : Rel w0 rs cs m cl fr st tmps w) {id b : Nat} (h : st.ob id ≠ none) (hm : m id = some b) : ¬ m.bad b := by
  intro hb
  obtain ⟨h1, h2⟩ := R.bad b hb
  rcases (R.mine id b h hm).2 with h3 | h3
  · exact h2 h3
  · omega
theorem Rel.good_new (R : Rel w0 rs cs m cl fr st tmps w) {b : Nat} (h : w.heap.size ≤ b) : ¬ m.bad b := by
  intro hb
  have h1 := (R.bad b hb).1
  have h2 := R.fram.size
  omega
theorem aft_pure (R : Rel w0 rs cs m cl fr st tmps w) (hfr : ∀ id, fr' id → fr id) {v : AV} {u : Value} {fs : List Nat} (h : AVR (st.mp m fr) w v u fs) (hF : Froz m st w fs) :
    Aft w0 rs cs fr' (st.upds []) tmps v u w := ⟨m, cl, R.less hfr, fs, h.goes (goes_fr hfr w) (fun _ _ => rfl), hF⟩
theorem froz_nil : Froz m st w [] := fun _ h => by cases h
theorem cst_ok (v : Value) : ∃ fs, AVR (st.mp m fr) w (cst v) v fs ∧ Froz m st w fs := by
  unfold cst
  split
  · exact ⟨[], by simp [AVR], froz_nil⟩
  · exact ⟨[], by simp [AVR, RR, scal], froz_nil⟩
  · exact ⟨[], by simp [AVR, RR, scal], froz_nil⟩
  · exact ⟨[], by simp [AVR, RR, scal], froz_nil⟩
  · exact ⟨[], by simp [AVR], froz_nil⟩
theorem opd_ok {a : Act} {x : Operand} {v : AV} (R : Rel w0 rs cs m cl fr st a.tmps w) (h : Ans E st (opd x) v) : ∃ fs, AVR (st.mp m fr) w v (a.eval x) fs ∧ Froz m st w fs := by
  cases x with
  | tmp t => simp only [opd, ans_tm, ans_ret] at h; subst h; exact R.tm t
  | const c => simp only [opd, ans_ret] at h; subst h; exact cst_ok c
  | global g => simp only [opd, ans_ret] at h; subst h; exact ⟨[], by simp [AVR], froz_nil⟩
  | func f => simp only [opd, ans_ret] at h; subst h; exact ⟨[], by simp [AVR, RR, RV, Act.eval], froz_nil⟩
theorem avr_lit {M : Mp} {v u : Value} {fs : List Nat} (h : AVR M w (.rd (.lit v)) u fs) : u = v ∧ scal v = true ∧ fs = [] := by simpa [AVR, RR] using h
theorem avr_lit_mk (M : Mp) {v : Value} (h : scal v = true) : AVR M w (.rd (.lit v)) v [] := by simp [AVR, RR, h]
theorem getI_ok {a : Act} {x : Operand} {q : IntKind × Int} (R : Rel w0 rs cs m cl fr st a.tmps w) (h : Ans E st (opd x >>= getI) q) : a.eval x = .int q.1 q.2 := by
  simp only [ans_bind, ans_getI] at h
  obtain ⟨v, h1, rfl⟩ := h
  obtain ⟨fs, h2, _⟩ := opd_ok R h1
  exact (avr_lit h2).1
theorem getB_ok {a : Act} {x : Operand} {b : Bool} (R : Rel w0 rs cs m cl fr st a.tmps w) (h : Ans E st (opd x >>= getB) b) : a.eval x = .bool b := by
  simp only [ans_bind, ans_getB] at h
  obtain ⟨v, h1, rfl⟩ := h
  obtain ⟨fs, h2, _⟩ := opd_ok R h1
  exact (avr_lit h2).1
theorem did_val {o : Oper} {ρ : Operand → Value} {post : Value → World → Prop} {u : Value} {w' : World} (h : (execOp ρ o).run P w = .ok (.value u) w') (hp : post u w') : Did P o ρ w post := .inl ⟨u, w', h, hp⟩
variable {a : Act} {o : Oper} {nb : Nat} {v : AV} {us : List Upd}
theorem ok_move (R : Rel w0 rs cs m cl fr st a.tmps w) (hfr : ∀ id, fr' id → fr id) {x : Operand} (ho : o.op = .move x ∨ o.op = .assign x)
    (h : Ans E st (stepOp E nb o) (v, us)) : Did P o a.eval w (Aft w0 rs cs fr' (st.upds us) a.tmps v) := by
  have h' : ∃ y, Ans E st (opd x) y ∧ (y, []) = (v, us) := by
    rcases ho with ho | ho <;> · simp only [stepOp, ho, ans_bind, ans_ret] at h; exact h
  obtain ⟨y, h1, h2⟩ := h'
  cases h2
  obtain ⟨fs, h3, h4⟩ := opd_ok R h1
  refine did_val (u := a.eval x) (w' := w) ?_ (aft_pure R hfr h3 h4)
  rcases ho with ho | ho <;> simp [execOp, ho, run_pure]
theorem ok_pick (R : Rel w0 rs cs m cl fr st a.tmps w) (hfr : ∀ id, fr' id → fr id) {c x y : Operand} (ho : o.op = .pick c x y)
    (h : Ans E st (stepOp E nb o) (v, us)) : Did P o a.eval w (Aft w0 rs cs fr' (st.upds us) a.tmps v) := by
  simp only [stepOp, ho, ans_bind, ans_ite, ans_ret] at h
  obtain ⟨b, hc, h⟩ := h
  have hc' := getB_ok R (by simpa only [ans_bind] using hc)
  have hrun : (execOp a.eval o).run P w = .ok (.value (if b then a.eval x else a.eval y)) w := by
    simp [execOp, ho, hc', asBool, run_bind, run_pure]
  rcases h with ⟨rfl, z, h1, h2⟩ | ⟨rfl, z, h1, h2⟩
  · cases h2; obtain ⟨fs, h3, h4⟩ := opd_ok R h1; exact did_val hrun (aft_pure R hfr (by simpa using h3) h4)
  · cases h2; obtain ⟨fs, h3, h4⟩ := opd_ok R h1; exact did_val hrun (aft_pure R hfr (by simpa using h3) h4)
theorem ok_unOp (R : Rel w0 rs cs m cl fr st a.tmps w) (hfr : ∀ id, fr' id → fr id) {op : UnOp} {t : Nat} {x : Operand} (ho : o.op = .unOp op t x)
    (h : Ans E st (stepOp E nb o) (v, us)) : Did P o a.eval w (Aft w0 rs cs fr' (st.upds us) a.tmps v) := by
  simp only [stepOp, ho, ans_bind] at h
  obtain ⟨y, h1, h2⟩ := h
  obtain ⟨fs, h3, h4⟩ := opd_ok R h1
  split at h2
  · obtain ⟨h3, _, _⟩ := avr_lit h3
    cases h2
    exact did_val (u := _) (w' := w) (by simp [execOp, ho, h3, Op.unary, run_bind, run_pure]) (aft_pure R hfr (avr_lit_mk _ rfl) froz_nil)
  · obtain ⟨h3, _, _⟩ := avr_lit h3
    cases h2
    exact did_val (u := _) (w' := w) (by simp [execOp, ho, h3, Op.unary, Op.intArith, run_bind, run_pure]) (aft_pure R hfr (avr_lit_mk _ rfl) froz_nil)
  · exact h2.elim
theorem ok_nilCheck (R : Rel w0 rs cs m cl fr st a.tmps w) (hfr : ∀ id, fr' id → fr id) {x : Operand} (ho : o.op = .nilCheck x)
    (h : Ans E st (stepOp E nb o) (v, us)) : Did P o a.eval w (Aft w0 rs cs fr' (st.upds us) a.tmps v) := by
  simp only [stepOp, ho, ans_bind] at h
  obtain ⟨y, h1, h2⟩ := h
  obtain ⟨fs, h3, h4⟩ := opd_ok R h1
  split at h2
  · simp only [ans_ob] at h2
    split at h2
    · rename_i hb
      cases h2
      obtain ⟨b, _, h5⟩ := h3.2.2 _ _ hb
      exact did_val (u := a.eval x) (w' := w) (by simp [execOp, ho, h5, run_pure]) (aft_pure R hfr h3 h4)
    · exact h2.elim
  · simp only [ans_ob] at h2
    split at h2
    · rename_i hb
      cases h2
      obtain ⟨b, _, h5⟩ := h3.2.2 _ _ _ hb
      exact did_val (u := a.eval x) (w' := w) (by simp [execOp, ho, h5, run_pure]) (aft_pure R hfr h3 h4)
    · exact h2.elim
  · cases h2
    have h5 := h3
    simp only [AVR, RR] at h5
    obtain ⟨b, off, gs, h5, _⟩ := h5
    exact did_val (u := a.eval x) (w' := w) (by simp [execOp, ho, h5, run_pure]) (aft_pure R hfr h3 h4)
  · cases h2
    have h5 := h3
    simp only [AVR, RR] at h5
    obtain ⟨vs, h5, _⟩ := h5
    exact did_val (u := a.eval x) (w' := w) (by simp [execOp, ho, h5, run_pure]) (aft_pure R hfr h3 h4)
  · cases h2
    have h5 := h3
    simp only [AVR] at h5
    obtain ⟨vs, h5, _⟩ := h5
    exact did_val (u := a.eval x) (w' := w) (by simp [execOp, ho, h5, run_pure]) (aft_pure R hfr h3 h4)
  · exact h2.elim
end
end Go.Den
end
section
namespace Go.Den
open Go
set_option linter.unusedSimpArgs false
set_option linter.unusedVariables false
theorem add_none (b o j : Nat) : (⟨b, o, none⟩ : Addr).add j = ⟨b, o + j, none⟩ := by
  unfold Addr.add
  split
  · rename_i h; subst h; rfl
  · rfl
theorem Froz.sub {m : Gm} {st : St} {w : World} {f g : List Nat} (h : Froz m st w g) (hs : ∀ b ∈ f, b ∈ g) : Froz m st w f := fun b hb => h b (hs b hb)
section
variable {w : World} {M : Mp}
theorem RL_append {b : Nat} : ∀ {xs ys : List RD} {o : Nat} {fs : List Nat}, RL w b o (xs ++ ys) fs ↔ ∃ f g, RL w b o xs f ∧ RL w b (o + xs.length) ys g ∧ fs = f ++ g
  | [], ys, o, fs => by simp [RL]
  | x :: xs, ys, o, fs => by
    simp only [List.cons_append, RL, RL_append (xs := xs), List.length_cons]
    constructor
    · rintro ⟨v, f, g, h1, h2, ⟨f', g', h3, h4, rfl⟩, rfl⟩
      exact ⟨f ++ f', g', ⟨v, f, f', h1, h2, h3, rfl⟩, by rwa [Nat.add_assoc, Nat.add_comm 1] at h4, by simp⟩
    · rintro ⟨f', g', ⟨v, f, g, h1, h2, h3, rfl⟩, h4, rfl⟩
      exact ⟨v, f, g ++ g', h1, h2, ⟨g, g', h3, by rwa [Nat.add_assoc, Nat.add_comm 1], rfl⟩, by simp⟩
theorem RE_append {b k : Nat} : ∀ {xs ys : List (List RD)} {o : Nat} {fs : List Nat}, RE w b o k (xs ++ ys) fs ↔ ∃ f g, RE w b o k xs f ∧ RE w b (o + xs.length * k) k ys g ∧ fs = f ++ g
  | [], ys, o, fs => by simp [RE]
  | x :: xs, ys, o, fs => by
    have e : o + (xs.length + 1) * k = o + k + xs.length * k := by rw [Nat.add_mul]; omega
    simp only [List.cons_append, RE, RE_append (xs := xs), List.length_cons, e]
    constructor
    · rintro ⟨f, g, h1, h2, ⟨f', g', h3, h4, rfl⟩, rfl⟩
      exact ⟨f ++ f', g', ⟨f, f', h1, h2, h3, rfl⟩, h4, by simp⟩
    · rintro ⟨f', g', ⟨f, g, h1, h2, h3, rfl⟩, h4, rfl⟩
      exact ⟨f, g ++ g', h1, h2, ⟨g, g', h3, h4, rfl⟩, by simp⟩
theorem RE_get {b k o : Nat} {es : List (List RD)} {fs : List Nat} (h : RE w b o k es fs) {i : Nat} {e : List RD} (hi : es[i]? = some e) :
    ∃ f g1 g2, RL w b (o + i * k) e f ∧ fs = g1 ++ (f ++ g2) ∧ e.length = k := by
  obtain ⟨hlt, he⟩ := List.getElem?_eq_some_iff.1 hi
  have hs : es = es.take i ++ (e :: es.drop (i + 1)) := by
    rw [← he, List.getElem_cons_drop, List.take_append_drop]
  rw [hs, RE_append] at h
  obtain ⟨g1, g, _, h2, rfl⟩ := h
  simp only [RE] at h2
  obtain ⟨f, g2, h3, h4, _, rfl⟩ := h2
  rw [List.length_take_of_le (by omega)] at h4
  exact ⟨f, g1, g2, h4, rfl, h3⟩
theorem RL_vals (M : Mp) {b : Nat} : ∀ {xs : List RD} {o : Nat} {fs : List Nat}, RL w b o xs fs → ∃ vs : List Value, vs.length = xs.length ∧ AVL M w (xs.map .rd) vs fs ∧ ∀ j (h : j < vs.length), w.cell? ⟨b, o + j, none⟩ = some vs[j]
  | [], o, fs, h => ⟨[], rfl, by simpa [AVL, RL] using h, fun j h => by simp at h⟩
  | x :: xs, o, fs, h => by
    simp only [RL] at h
    obtain ⟨v, f, g, h1, h2, h3, rfl⟩ := h
    obtain ⟨vs, h4, h5, h6⟩ := RL_vals M h3
    refine ⟨v :: vs, by simp [h4], ?_, ?_⟩
    · simp only [List.map_cons, AVL]
      exact ⟨v, vs, f, g, rfl, by simpa [AVR] using h2, h5, rfl⟩
    · intro j hj
      cases j with
      | zero => exact h1
      | succ j => have := h6 j (by simpa using hj); simpa [Nat.add_assoc, Nat.add_comm 1] using this
theorem AVL_append : ∀ {xs ys : List AV} {vs : List Value} {fs : List Nat}, AVL M w (xs ++ ys) vs fs ↔ ∃ v1 v2 f g, AVL M w xs v1 f ∧ AVL M w ys v2 g ∧ vs = v1 ++ v2 ∧ fs = f ++ g
  | [], ys, vs, fs => by
    simp only [List.nil_append, AVL]
    exact ⟨fun h => ⟨[], vs, [], fs, ⟨rfl, rfl⟩, h, rfl, rfl⟩, fun ⟨v1, v2, f, g, ⟨h1, h2⟩, h3, h4, h5⟩ => by subst h1; subst h2; subst h4; subst h5; exact h3⟩
  | x :: xs, ys, vs, fs => by
    simp only [List.cons_append, AVL, AVL_append (xs := xs)]
    constructor
    · rintro ⟨v, us, f, g, rfl, h2, ⟨v1, v2, f', g', h3, h4, rfl, rfl⟩, rfl⟩
      exact ⟨v :: v1, v2, f ++ f', g', ⟨v, v1, f, f', rfl, h2, h3, rfl⟩, h4, rfl, by simp⟩
    · rintro ⟨v1, v2, f', g', ⟨v, us, f, g, rfl, h2, h3, rfl⟩, h4, rfl, rfl⟩
      exact ⟨v, us ++ v2, f, g ++ g', rfl, h2, ⟨us, v2, g, g', h3, h4, rfl, rfl⟩, by simp⟩
theorem AVL_length : ∀ {xs : List AV} {vs : List Value} {fs : List Nat}, AVL M w xs vs fs → vs.length = xs.length
  | [], _, _, h => by simp [AVL] at h; simp [h.1]
  | x :: xs, _, _, h => by
    simp only [AVL] at h
    obtain ⟨v, us, f, g, rfl, _, h3, _⟩ := h
    simp [AVL_length h3]
theorem AVL_part {xs : List AV} {vs : List Value} {fs : List Nat} (h : AVL M w xs vs fs) (j n : Nat) :
    ∃ f, AVL M w ((xs.drop j).take n) ((vs.drop j).take n) f ∧ ∀ b ∈ f, b ∈ fs := by
  have e : xs = xs.take j ++ ((xs.drop j).take n ++ (xs.drop j).drop n) := by rw [List.take_append_drop, List.take_append_drop]
  have hl := AVL_length h
  rw [e, AVL_append] at h
  obtain ⟨v1, v2, f1, g1, h1, h2, e1, rfl⟩ := h
  rw [AVL_append] at h2
  obtain ⟨v3, v4, f2, g2, h3, h4, e2, rfl⟩ := h2
  refine ⟨f2, ?_, fun b hb => by simp [hb]⟩
  have l1 := AVL_length h1
  have l3 := AVL_length h3
  have : (vs.drop j).take n = v3 := by
    subst e2; subst e1
    by_cases hj : j ≤ xs.length
    · rw [List.length_take_of_le hj] at l1
      rw [← l1, List.drop_left]
      by_cases hn : n ≤ (xs.drop j).length
      · rw [List.length_take_of_le hn] at l3
        rw [← l3, List.take_left]
      · have l4 := AVL_length h4
        rw [List.drop_of_length_le (by omega)] at l4
        have : v4 = [] := List.eq_nil_of_length_eq_zero (by simpa using l4)
        subst this
        rw [List.take_of_length_le (by simp at l3 ⊢; simp at hn; omega)]
        simp
    · have z : xs.drop j = [] := List.drop_of_length_le (by omega)
      rw [z] at l3
      have l4 := AVL_length h4
      rw [z] at l4
      simp at l3 l4
      subst l3; subst l4
      rw [List.drop_of_length_le (by simp at hl ⊢; omega)]
      simp
  rw [this]; exact h3
theorem run_loadCellsFrom {P : Program} {b o : Nat} : ∀ (vs : List Value) (i : Nat) (acc : Array Value), (∀ j (h : j < vs.length), w.cell? ⟨b, o + (i + j), none⟩ = some vs[j]) →
    (loadCellsFrom ⟨b, o, none⟩ i vs.length acc).run P w = .ok ⟨acc.toList ++ vs⟩ w
  | [], i, acc, _ => by simp [loadCellsFrom, run_pure]
  | v :: vs, i, acc, h => by
    simp only [List.length_cons, loadCellsFrom]
    have h0 := h 0 (by simp)
    rw [run_bind, add_none, run_load (v := v) (by simpa using h0)]
    simp only []
    rw [run_loadCellsFrom vs (i + 1) (acc.push v) (fun j hj => by have := h (j + 1) (by simpa using hj); simpa [Nat.add_assoc, Nat.add_comm 1] using this)]
    simp
theorem run_loadCells {P : Program} {b o n : Nat} {vs : List Value} (hn : vs.length = n) (h : ∀ j (h : j < vs.length), w.cell? ⟨b, o + j, none⟩ = some vs[j]) :
    (loadCells ⟨b, o, none⟩ n).run P w = .ok ⟨vs⟩ w := by
  subst hn
  unfold loadCells
  rw [run_loadCellsFrom vs 0 #[] (by simpa using h)]
  simp
end
section
variable {P : Program} {t : Nat}
theorem tk_slice {e k eb : Nat} (h : tkOf P t = some (.slice e k eb)) : P.underlying t = some (.slice e) ∧ ∃ i, P.info? e = some i ∧ i.size = k ∧ i.bytes = eb := by
  unfold tkOf at h
  split at h
  all_goals (try (simp at h; done))
  · rename_i e' hu
    split at h
    · rename_i i hi; simp at h; obtain ⟨rfl, rfl, rfl⟩ := h; exact ⟨hu, i, hi, rfl, rfl⟩
    · simp at h
  · split at h <;> simp at h
  · split at h
    · split at h <;> simp at h
    · simp at h
theorem tk_int {k : IntKind} (h : tkOf P t = some (.int k)) : P.underlying t = some (.int k) := by
  unfold tkOf at h
  split at h
  all_goals (try (simp at h; done))
  · rename_i hu; simp at h; rw [← h]; exact hu
  · split at h <;> simp at h
  · split at h <;> simp at h
  · split at h
    · split at h <;> simp at h
    · simp at h
theorem tk_str (h : tkOf P t = some .str) : P.underlying t = some .string := by
  unfold tkOf at h
  split at h
  all_goals (try (simp at h; done))
  · rename_i hu; exact hu
  · split at h <;> simp at h
  · split at h <;> simp at h
  · split at h
    · split at h <;> simp at h
    · simp at h
theorem tk_bool (h : tkOf P t = some .bool) : P.underlying t = some .bool := by
  unfold tkOf at h
  split at h
  all_goals (try (simp at h; done))
  · rename_i hu; exact hu
  · split at h <;> simp at h
  · split at h <;> simp at h
  · split at h
    · split at h <;> simp at h
    · simp at h
theorem tk_map {kk : IntKind} {z : Value} (h : tkOf P t = some (.map kk z)) : ∃ k e i, P.underlying t = some (.map k e) ∧ P.underlying k = some (.int kk) ∧ P.info? e = some i ∧ i.zero = some z ∧ scal z = true := by
  unfold tkOf at h
  split at h
  all_goals (try (simp at h; done))
  · split at h <;> simp at h
  · split at h <;> simp at h
  · rename_i k e hu
    split at h
    · rename_i kk' z' hk hz
      split at h
      · rename_i hs
        simp at h
        obtain ⟨rfl, rfl⟩ := h
        cases hi : P.info? e with
        | none => simp [hi] at hz
        | some i => exact ⟨k, e, i, hu, hk, hi, by simpa [hi] using hz, hs⟩
      · simp at h
    · simp at h
theorem tk_struct {fs : List (Nat × Nat × Nat × Bool)} (h : tkOf P t = some (.struct fs)) : ∃ fields, P.underlying t = some (.struct fields) ∧
    fs = fields.toList.map (fun f => (f.offset, f.type, P.cellsOf f.type, isStruct P f.type)) ∧ fields.toList.all (fun f => fieldOk P f.type) = true := by
  unfold tkOf at h
  split at h
  all_goals (try (simp at h; done))
  · split at h <;> simp at h
  · rename_i fields hu
    split at h
    · rename_i hall; simp at h; exact ⟨fields, hu, h.symm, hall⟩
    · simp at h
  · split at h
    · split at h <;> simp at h
    · simp at h
theorem fieldOk_spec (h : fieldOk P t = true) : ∃ i d, P.info? t = some i ∧ P.underlying t = some d ∧ i.size ≠ 0 ∧ P.cellsOf t = i.size ∧
    aggD d = isStruct P t := by
  unfold fieldOk at h
  split at h
  · cases h
  · rename_i i d hna hi hu
    refine ⟨i, d, hi, hu, ?_, ?_, ?_⟩
    · intro h0; simp [h0] at h
    · simp [Program.cellsOf, hi]
    · unfold isStruct
      rw [hu]
      cases d <;> first | rfl | (rename_i a b; exact (hna _ _ rfl).elim)
  · cases h
theorem field_spec {fs : List (Nat × Nat × Nat × Bool)} (h : tkOf P t = some (.struct fs)) {f off ty sz : Nat} {ag : Bool} (hf : fs[f]? = some (off, ty, sz, ag)) :
    ∃ fields fd i d, P.underlying t = some (.struct fields) ∧ fields[f]? = some fd ∧ fd.offset = off ∧ fd.type = ty ∧ P.info? ty = some i ∧ i.size = sz ∧ sz ≠ 0 ∧ P.underlying ty = some d ∧
      aggD d = ag := by
  obtain ⟨fields, hu, rfl, hall⟩ := tk_struct h
  rw [List.getElem?_map] at hf
  cases hfd : fields.toList[f]? with
  | none => simp [hfd] at hf
  | some fd =>
    simp [hfd] at hf
    obtain ⟨rfl, rfl, rfl, rfl⟩ := hf
    have := List.all_eq_true.1 hall fd (List.mem_of_getElem? hfd)
    obtain ⟨i, d, h1, h2, h3, h4, h5⟩ := fieldOk_spec this
    exact ⟨fields, fd, i, d, hu, by simpa using hfd, rfl, rfl, h1, h4.symm, by rw [h4]; exact h3, h2, h5⟩
end
end Go.Den
end
section
namespace Go.Den
open Go
set_option linter.unusedSimpArgs false
set_option linter.unusedVariables false
section
variable {P : Program} {E : Env} {w0 w : World} {rs : List Nat} {cs : Cs} {m : Gm} {cl : Nat → List Nat} {fr fr' : Nat → Prop} {st : St} {tmps : Array Value}
variable {a : Act} {o : Oper} {nb : Nat} {v : AV} {us : List Upd}
theorem all_part {xs : List AV} (h : xs.all isCell = true) (j n : Nat) : ((xs.drop j).take n).all isCell = true :=
  List.all_eq_true.2 fun x hx => List.all_eq_true.1 h x (List.mem_of_mem_drop (List.mem_of_mem_take hx))
theorem all_rd (xs : List RD) : (xs.map AV.rd).all isCell = true := by simp [isCell]
def valOf : Bool → List Value → Value
  | true, vs => .agg ⟨vs⟩
  | false, vs => vs.headD undef
theorem agv_ok {M : Mp} {ag : Bool} {xs : List AV} {vs : List Value} {fs : List Nat} (h : AVL M w xs vs fs) (hc : xs.all isCell = true) (h1 : ag = false → xs.length = 1) :
    AVR M w (agv ag xs) (valOf ag vs) fs := by
  cases ag with
  | true => exact ⟨vs, rfl, h, hc⟩
  | false =>
    match xs, h1 rfl, h with
    | [x], _, h =>
      simp only [AVL] at h
      obtain ⟨v, us, f, g, rfl, h2, ⟨rfl, rfl⟩, rfl⟩ := h
      simpa [agv, valOf] using h2
theorem run_loadVar {t : Nat} {d : TypeDesc} {i : TypeInfo} {b off : Nat} {vs : List Value} {ag : Bool} (hu : P.underlying t = some d) (hi : P.info? t = some i)
    (hag : aggD d = ag) (hn : vs.length = i.size) (h1 : ag = false → i.size = 1)
    (h : ∀ j (h : j < vs.length), w.cell? ⟨b, off + j, none⟩ = some vs[j]) :
    (loadVar t ⟨b, off, none⟩).run P w = .ok (valOf ag vs) w := by
  unfold loadVar
  rw [run_bind, run_isAgg hu, hag]
  cases ag with
  | true =>
    simp only [if_true]
    rw [run_bind, run_sizeOf hi]
    simp only []
    rw [run_bind, run_loadCells hn h]
    rfl
  | false =>
    have h2 := h1 rfl
    match vs, hn, h with
    | [v], _, h =>
      have h0 := h 0 (by simp)
      simp only [Bool.false_eq_true, if_false]
      exact run_load (by simpa [valOf] using h0)
    | [], hn, _ => simp at hn; omega
    | _ :: _ :: _, hn, _ => simp at hn; omega
theorem take_len {α : Type} {xs : List α} {n : Nat} (h : n ≤ xs.length) : (xs.take n).length = n := by simp; omega
theorem RL_part {b off : Nat} {xs : List RD} {fs : List Nat} (h : RL w b off xs fs) (j n : Nat) (hj : j ≤ xs.length) :
    ∃ f, RL w b (off + j) ((xs.drop j).take n) f ∧ ∀ x ∈ f, x ∈ fs := by
  have e : xs = xs.take j ++ ((xs.drop j).take n ++ (xs.drop j).drop n) := by rw [List.take_append_drop, List.take_append_drop]
  rw [e, RL_append] at h
  obtain ⟨f1, g1, h1, h2, rfl⟩ := h
  rw [RL_append] at h2
  obtain ⟨f2, g2, h3, h4, rfl⟩ := h2
  rw [take_len hj] at h3
  exact ⟨f2, h3, fun x hx => by simp [hx]⟩
theorem RL_drop {b off : Nat} {xs : List RD} {fs : List Nat} (h : RL w b off xs fs) (j : Nat) (hj : j ≤ xs.length) :
    ∃ f, RL w b (off + j) (xs.drop j) f ∧ ∀ x ∈ f, x ∈ fs := by
  have e : xs = xs.take j ++ xs.drop j := (List.take_append_drop j xs).symm
  rw [e, RL_append] at h
  obtain ⟨f1, g1, h1, h2, rfl⟩ := h
  rw [take_len hj] at h2
  exact ⟨g1, h2, fun x hx => by simp [hx]⟩
theorem cell_box {w : World} {b j : Nat} {vs : List Value} {e : Nat} (h : w.heap[b]? = some (.cells ⟨vs⟩ e (0, 0))) (hj : j < vs.length) : w.cell? ⟨b, j, none⟩ = some vs[j] := by
  simp [World.cell?, h, hj]
variable (ET : ∀ t ti, E.tt t = some ti → ttOf P t = some ti)
include ET
theorem ok_load (R : Rel w0 rs cs m cl fr st a.tmps w) (hfr : ∀ id, fr' id → fr id) {t : Nat} {x : Operand} (ho : o.op = .load t x)
    (h : Ans E st (stepOp E nb o) (v, us)) : Did P o a.eval w (Aft w0 rs cs fr' (st.upds us) a.tmps v) := by
  simp only [stepOp, ho, ans_bind, ans_tt] at h
  obtain ⟨ti, ht, y, h1, h2⟩ := h
  obtain ⟨fs, h3, h4⟩ := opd_ok R h1
  obtain ⟨i, z, d, hi, hs, _, _, _, hu, hag, _, hone⟩ := (tok_of (ET t ti ht)).info
  have fin : ∀ (b off : Nat) (vs : List Value) (xs : List AV) (f : List Nat), a.eval x = .pointer (some ⟨b, off, none⟩) → vs.length = ti.size → AVL (st.mp m fr) w xs vs f → xs.all isCell = true →
      (∀ j (h : j < vs.length), w.cell? ⟨b, off + j, none⟩ = some vs[j]) → Froz m st w f → v = agv ti.agg xs → us = [] → Did P o a.eval w (Aft w0 rs cs fr' (st.upds us) a.tmps v) := by
    intro b off vs xs f he hn hL hc hcell hF hv hus
    subst hv; subst hus
    refine did_val (u := valOf ti.agg vs) (w' := w) ?_ (aft_pure R hfr (agv_ok hL hc (fun hf => by rw [← AVL_length hL, hn]; exact hone hf)) hF)
    simp only [execOp, ho, Instr.loadAt, he, Instr.sureAddr]
    rw [run_bind, run_bind, run_pure]
    simp only []
    rw [run_loadVar hu hi hag (hn.trans hs.symm) (fun hf => hs.trans (hone hf)) hcell]
    rfl
  split at h2
  · rename_i cells
    simp only [ans_bind, ans_need, ans_ret, Prod.mk.injEq] at h2
    obtain ⟨_, hle, rfl, rfl⟩ := h2
    have h5 := h3
    simp only [AVR, RR] at h5
    obtain ⟨b, off, gs, he, rfl, hL⟩ := h5
    obtain ⟨f, hL2, hsub⟩ := RL_part hL 0 ti.size (Nat.zero_le _)
    obtain ⟨vs, e1, e2, e3⟩ := RL_vals (st.mp m fr) hL2
    simp only [List.drop_zero, Nat.add_zero] at e1 e2 e3
    have hle' := Nat.le_of_ble_eq_true hle
    exact fin b off vs _ f he (by rw [e1]; simp; omega) e2 (all_rd _) e3 (h4.sub (fun x hx => by simp [hsub x hx])) rfl rfl
  · rename_i id j
    simp only [ans_ob] at h2
    split at h2
    · rename_i ty cells hb
      simp only [ans_bind, ans_need, ans_ret, Prod.mk.injEq] at h2
      obtain ⟨_, hle, rfl, rfl⟩ := h2
      have hle' := Nat.le_of_ble_eq_true hle
      obtain ⟨b, hm, he⟩ := h3.2.2 _ _ hb
      obtain ⟨fs2, ⟨b2, av, e, hm2, hw, hL, hc⟩, hF, _⟩ := R.ob id _ hb
      have hbb : b2 = b := Option.some.inj (hm2.symm.trans hm)
      subst hbb
      obtain ⟨f, hL2, hsub⟩ := AVL_part hL j ti.size
      have hlen := AVL_length hL
      refine fin b2 j _ _ f he ?_ hL2 (all_part hc _ _) ?_ (hF.sub hsub) rfl rfl
      · simp; omega
      · intro q hq
        simp at hq
        rw [cell_box hw (by omega)]
        simp [List.getElem_take, List.getElem_drop]
    · exact h2.elim
  · rename_i id i' j
    simp only [ans_ob] at h2
    split at h2
    · rename_i k deep els hb
      split at h2
      · rename_i c hc0
        simp only [ans_bind, ans_need, ans_ret, Prod.mk.injEq] at h2
        obtain ⟨_, hle, rfl, rfl⟩ := h2
        have hle' := Nat.le_of_ble_eq_true hle
        obtain ⟨b, hm, he⟩ := h3.2.2 _ _ _ hb
        obtain ⟨fs2, hO, hF, _⟩ := R.ob id _ hb
        rcases hO with ⟨h0, _⟩ | ⟨b2, av, e, hm2, hw, _, hE⟩
        · subst h0; simp at hc0
        · have hbb : b2 = b := Option.some.inj (hm2.symm.trans hm)
          subst hbb
          obtain ⟨f, g1, g2, hL, e1, _⟩ := RE_get hE hc0
          obtain ⟨f2, hL2, hsub⟩ := RL_part hL j ti.size (by omega)
          obtain ⟨vs, e2, e3, e4⟩ := RL_vals (st.mp m fr) hL2
          refine fin b2 (i' * k + j) vs _ f2 he (by rw [e2]; simp; omega) e3 (all_rd _) ?_ (hF.sub (fun x hx => by subst e1; simp [hsub x hx])) rfl rfl
          intro q hq
          have := e4 q hq
          simpa using this
      · exact h2.elim
    · exact h2.elim
  · exact h2.elim
end
end Go.Den
end
section
namespace Go.Den
open Go
set_option linter.unusedSimpArgs false
set_option linter.unusedVariables false
section
variable {P : Program} {E : Env} {w0 w : World} {rs : List Nat} {cs : Cs} {m : Gm} {cl : Nat → List Nat} {fr fr' : Nat → Prop} {st : St} {tmps : Array Value}
variable {a : Act} {o : Oper} {nb : Nat} {v : AV} {us : List Upd}
variable (ET : ∀ t ti, E.tt t = some ti → ttOf P t = some ti)
theorem fieldPlace_run {b off : Nat} {fd : Field} {i : TypeInfo} (hi : P.info? fd.type = some i) (hz : i.size ≠ 0) :
    (fieldPlace ⟨b, off, none⟩ fd).run P w = .ok ⟨b, off + fd.offset, none⟩ w := by
  unfold fieldPlace
  rw [run_bind, run_sizeOf hi]
  simp only [hz, if_false]
  rw [run_pure, add_none]
include ET in
theorem ok_fieldAddr (R : Rel w0 rs cs m cl fr st a.tmps w) (hfr : ∀ id, fr' id → fr id) {t f : Nat} {x : Operand} (ho : o.op = .fieldAddr t x f)
    (h : Ans E st (stepOp E nb o) (v, us)) : Did P o a.eval w (Aft w0 rs cs fr' (st.upds us) a.tmps v) := by
  simp only [stepOp, ho, ans_bind, ans_tt] at h
  obtain ⟨ti, ht, y, h1, h2⟩ := h
  obtain ⟨fs, h3, h4⟩ := opd_ok R h1
  obtain ⟨_, _, _, _, _, _, _, _, _, _, htk, _⟩ := (tok_of (ET t ti ht)).info
  split at h2
  · rename_i fl hfl
    have run : ∀ (b off q : Nat) (ty sz : Nat) (ag : Bool), fl[f]? = some (q, ty, sz, ag) → a.eval x = .pointer (some ⟨b, off, none⟩) → (execOp a.eval o).run P w = .ok (.value (.pointer (some ⟨b, off + q, none⟩))) w := by
      intro b off q ty sz ag hf he
      rw [hfl] at htk
      obtain ⟨fields, fd, i, d, hu, hfd, rfl, rfl, hi, rfl, hz, _, _⟩ := field_spec htk hf
      simp only [execOp, ho, Instr.fieldAt]
      rw [run_bind, run_bind, run_underlying hu]
      simp only [hfd, he, Instr.sureAddr]
      rw [run_bind, run_pure]
      simp only []
      rw [run_bind, fieldPlace_run hi hz]
      rfl
    split at h2
    · rename_i q ty sz ag cells hf
      simp only [ans_bind, ans_need, ans_ret, Prod.mk.injEq] at h2
      obtain ⟨_, hle, rfl, rfl⟩ := h2
      have hle' := Nat.le_of_ble_eq_true hle
      have h5 := h3
      simp only [AVR, RR] at h5
      obtain ⟨b, off, gs, he, rfl, hL⟩ := h5
      obtain ⟨g, hL2, hsub⟩ := RL_drop hL q hle'
      exact did_val (run b off q ty sz ag hf he) (aft_pure R hfr (fs := b :: g) (by simp only [AVR, RR]; exact ⟨b, off + q, g, rfl, rfl, hL2⟩) (h4.sub (fun x hx => by simp at hx ⊢; exact hx.imp id (hsub x))))
    · rename_i q ty sz ag id j hf
      simp only [ans_ob] at h2
      split at h2
      · rename_i hb
        simp only [ans_ret, Prod.mk.injEq] at h2
        obtain ⟨rfl, rfl⟩ := h2
        obtain ⟨b, hm, he⟩ := h3.2.2 _ _ hb
        obtain ⟨⟨rfl, _⟩, hnf, hbx⟩ := h3
        refine did_val (run b j q ty sz ag hf he) (aft_pure R hfr (fs := []) ⟨⟨rfl, rfl⟩, hnf, fun ty cells ho' => ?_⟩ froz_nil)
        obtain ⟨b', hm', he'⟩ := hbx _ _ ho'
        have : b' = b := Option.some.inj (hm'.symm.trans hm)
        exact ⟨b, hm, by subst this; rfl⟩
      · exact h2.elim
    · rename_i q ty sz ag id i' j hf
      simp only [ans_ob] at h2
      split at h2
      · rename_i hb
        simp only [ans_ret, Prod.mk.injEq] at h2
        obtain ⟨rfl, rfl⟩ := h2
        obtain ⟨b, hm, he⟩ := h3.2.2 _ _ _ hb
        obtain ⟨⟨rfl, _⟩, hnf, hbx⟩ := h3
        refine did_val (run b _ q ty sz ag hf he) (aft_pure R hfr (fs := []) ⟨⟨rfl, rfl⟩, hnf, fun k d els ho' => ?_⟩ froz_nil)
        have : (some (AObj.arr k d els)) = some _ := ho'.symm.trans hb
        cases this
        exact ⟨b, hm, by rw [Nat.add_assoc]⟩
      · exact h2.elim
    · exact h2.elim
  · exact h2.elim
include ET in
theorem ok_field (R : Rel w0 rs cs m cl fr st a.tmps w) (hfr : ∀ id, fr' id → fr id) {t f : Nat} {x : Operand} (ho : o.op = .field t x f)
    (h : Ans E st (stepOp E nb o) (v, us)) : Did P o a.eval w (Aft w0 rs cs fr' (st.upds us) a.tmps v) := by
  simp only [stepOp, ho, ans_bind, ans_tt] at h
  obtain ⟨ti, ht, y, h1, h2⟩ := h
  obtain ⟨fs, h3, h4⟩ := opd_ok R h1
  obtain ⟨_, _, _, _, _, _, _, _, _, _, htk, _⟩ := (tok_of (ET t ti ht)).info
  split at h2
  · rename_i fl xs hfl
    split at h2
    · rename_i q ty sz ag hf
      simp only [ans_bind, ans_need, ans_ret, Prod.mk.injEq, Bool.and_eq_true] at h2
      obtain ⟨_, ⟨hle, hsz⟩, rfl, rfl⟩ := h2
      have hle' := Nat.le_of_ble_eq_true hle
      rw [hfl] at htk
      obtain ⟨fields, fd, i, d, hu, hfd, rfl, rfl, hi, rfl, hz, hud, hag⟩ := field_spec htk hf
      obtain ⟨vs, he, hL, hc⟩ := h3
      have hlen := AVL_length hL
      obtain ⟨g, hL2, hsub⟩ := AVL_part hL fd.offset i.size
      have hone : ag = false → i.size = 1 := fun hf => by subst hf; simpa using hsz
      refine did_val (u := valOf ag ((vs.drop fd.offset).take i.size)) (w' := w) ?_ (aft_pure R hfr (agv_ok hL2 (all_part hc _ _) (fun hf => by simp; have := hone hf; omega)) (h4.sub hsub))
      simp only [execOp, ho, Instr.field]
      rw [run_bind, run_bind, run_underlying hu]
      simp only [hfd, he, asAgg]
      rw [run_bind, run_pure]
      simp only [part]
      rw [run_bind, run_isAgg hud, hag]
      cases ag with
      | true =>
        simp only [if_true]
        rw [run_bind, run_sizeOf hi]
        simp [run_pure, valOf, List.extract_eq_take_drop]
      | false =>
        have h1 := hone rfl
        have : fd.offset < vs.length := by omega
        simp [run_pure, valOf, this, h1, List.take_one, List.head?_drop]
    · exact h2.elim
  · exact h2.elim
theorem ok_extract (R : Rel w0 rs cs m cl fr st a.tmps w) (hfr : ∀ id, fr' id → fr id) {f : Nat} {x : Operand} (ho : o.op = .extract x f)
    (h : Ans E st (stepOp E nb o) (v, us)) : Did P o a.eval w (Aft w0 rs cs fr' (st.upds us) a.tmps v) := by
  simp only [stepOp, ho, ans_bind] at h
  obtain ⟨y, h1, h2⟩ := h
  obtain ⟨fs, h3, h4⟩ := opd_ok R h1
  split at h2
  · rename_i xs
    split at h2
    · rename_i y hy
      simp only [ans_ret, Prod.mk.injEq] at h2
      obtain ⟨rfl, rfl⟩ := h2
      obtain ⟨vs, he, hL⟩ := h3
      have hlen := AVL_length hL
      obtain ⟨hlt, hy⟩ := List.getElem?_eq_some_iff.1 hy
      obtain ⟨g, hL2, hsub⟩ := AVL_part hL f 1
      rw [List.take_one, List.take_one, List.head?_drop, List.head?_drop, List.getElem?_eq_getElem hlt, List.getElem?_eq_getElem (by omega)] at hL2
      simp only [Option.toList, AVL, List.cons.injEq] at hL2
      obtain ⟨_, _, f1, g1, ⟨rfl, rfl⟩, h5, ⟨_, rfl⟩, rfl⟩ := hL2
      refine did_val (u := vs[f]) (w' := w) ?_ (aft_pure R hfr (by rw [← hy]; exact h5) (h4.sub (fun b hb => hsub b (by simpa using hb))))
      have : f < vs.length := by omega
      simp [execOp, ho, Instr.extract, he, this, run_bind, run_pure]
    · exact h2.elim
  · exact h2.elim
include ET in
theorem ok_indexAddr (R : Rel w0 rs cs m cl fr st a.tmps w) (hfr : ∀ id, fr' id → fr id) {t : Nat} {x y : Operand} (ho : o.op = .indexAddr t x y)
    (h : Ans E st (stepOp E nb o) (v, us)) : Did P o a.eval w (Aft w0 rs cs fr' (st.upds us) a.tmps v) := by
  simp only [stepOp, ho] at h
  rw [ans_bind] at h
  obtain ⟨ti, ht, h⟩ := h
  rw [ans_tt] at ht
  rw [ans_bind] at h
  obtain ⟨z, h1, h⟩ := h
  rw [ans_bind] at h
  obtain ⟨⟨ik, n⟩, hi, h2⟩ := h
  have hn := getI_ok R hi
  simp only [] at hn h2
  obtain ⟨fs, h3, h4⟩ := opd_ok R h1
  obtain ⟨_, _, _, _, _, _, _, _, _, _, htk, _⟩ := (tok_of (ET t ti ht)).info
  split at h2
  · rename_i e k eb hfl
    rw [hfl] at htk
    obtain ⟨hu, ie, hie, rfl, _⟩ := tk_slice htk
    have run : ∀ (b off len c : Nat), a.eval x = .slice (some ⟨b, off, none⟩) len c → 0 ≤ n → n < len → (execOp a.eval o).run P w = .ok (.value (.pointer (some ⟨b, off + n.toNat * ie.size, none⟩))) w := by
      intro b off len c he h0 hl
      simp only [execOp, ho, Instr.indexAt, he, hn, asIntOf, run_bind, run_pure, run_underlying hu, h0, hl, and_self, if_true, run_sizeOf hie, add_none]
    split at h2
    · rename_i tt els
      simp only [ans_bind, ans_need, decide_eq_true_eq] at h2
      obtain ⟨_, ⟨h0, hl⟩, h2⟩ := h2
      split at h2
      · rename_i c hc
        simp only [ans_bind, ans_need, ans_ret, Prod.mk.injEq] at h2
        obtain ⟨_, hk, rfl, rfl⟩ := h2
        have hk' := Nat.eq_of_beq_eq_true hk
        have h5 := h3
        simp only [AVR, RR] at h5
        obtain ⟨A, cap, he, hcap, _, h5⟩ := h5
        rcases h5 with ⟨rfl, _⟩ | ⟨b, off, k', gs, rfl, _, rfl, hE⟩
        · simp at hc
        · obtain ⟨f, g1, g2, hL, rfl, hlen⟩ := RE_get hE hc
          have hkk : k' = ie.size := hlen.symm.trans hk'
          subst hkk
          refine did_val (run b off _ _ he h0 hl) (aft_pure R hfr (fs := b :: f) ?_ (h4.sub (fun x hx => by simp at hx ⊢; exact hx.imp id (fun h => .inr (.inl h)))))
          simp only [AVR, RR]
          exact ⟨b, _, f, rfl, rfl, hL⟩
      · exact h2.elim
    · rename_i id tg
      simp only [ans_ob] at h2
      split at h2
      · rename_i k' deep els hb
        simp only [ans_bind, ans_need, ans_ret, Prod.mk.injEq, Bool.and_eq_true, decide_eq_true_eq] at h2
        obtain ⟨_, ⟨hk, h0, hl⟩, rfl, rfl⟩ := h2
        have hk' := Nat.eq_of_beq_eq_true hk
        subst hk'
        obtain ⟨⟨rfl, _⟩, hnf, hbx⟩ := h3
        obtain ⟨A, c, he, hc1, _, h5⟩ := hbx _ _ _ hb
        rcases h5 with ⟨hl0, _⟩ | ⟨b, hm, rfl, _⟩
        · omega
        · refine did_val (run b _ _ _ he h0 hl) (aft_pure R hfr (fs := []) ⟨⟨rfl, rfl⟩, hnf, fun k d els ho' => ?_⟩ froz_nil)
          have : (some (AObj.arr k d els)) = some _ := ho'.symm.trans hb
          cases this
          exact ⟨b, hm, by simp⟩
      · exact h2.elim
    · rename_i id off n' tg
      simp only [ans_ob] at h2
      split at h2
      · rename_i k' deep els hb
        simp only [ans_bind, ans_need, ans_ret, Prod.mk.injEq, Bool.and_eq_true, decide_eq_true_eq] at h2
        obtain ⟨_, ⟨hk, h0, hl⟩, rfl, rfl⟩ := h2
        have hk' := Nat.eq_of_beq_eq_true hk
        subst hk'
        obtain ⟨⟨rfl, _⟩, hnf, hbx⟩ := h3
        obtain ⟨_, A, c, he, hc1, _, h5⟩ := hbx _ _ _ hb
        rcases h5 with ⟨hl0, _⟩ | ⟨b, hm, rfl, _⟩
        · omega
        · refine did_val (run b _ _ _ he h0 hl) (aft_pure R hfr (fs := []) ⟨⟨rfl, rfl⟩, hnf, fun k d els ho' => ?_⟩ froz_nil)
          have : (some (AObj.arr k d els)) = some _ := ho'.symm.trans hb
          cases this
          exact ⟨b, hm, by rw [Nat.add_mul]; simp⟩
      · exact h2.elim
    · exact h2.elim
  · exact h2.elim
include ET in
theorem ok_index (R : Rel w0 rs cs m cl fr st a.tmps w) (hfr : ∀ id, fr' id → fr id) {t : Nat} {x y : Operand} (ho : o.op = .index t x y)
    (h : Ans E st (stepOp E nb o) (v, us)) : Did P o a.eval w (Aft w0 rs cs fr' (st.upds us) a.tmps v) := by
  simp only [stepOp, ho] at h
  rw [ans_bind] at h
  obtain ⟨ti, ht, h⟩ := h
  rw [ans_tt] at ht
  rw [ans_bind] at h
  obtain ⟨z, h1, h⟩ := h
  rw [ans_bind] at h
  obtain ⟨⟨ik, n⟩, hi, h2⟩ := h
  have hn := getI_ok R hi
  simp only [] at hn h2
  obtain ⟨fs, h3, h4⟩ := opd_ok R h1
  obtain ⟨_, _, _, _, _, _, _, _, _, _, htk, _⟩ := (tok_of (ET t ti ht)).info
  split at h2
  · rename_i s hfl
    rw [hfl] at htk
    simp only [ans_bind, ans_need, decide_eq_true_eq] at h2
    obtain ⟨_, h0, h2⟩ := h2
    split at h2
    · rename_i b hb
      simp only [ans_ret, Prod.mk.injEq] at h2
      obtain ⟨rfl, rfl⟩ := h2
      obtain ⟨he, _, _⟩ := avr_lit h3
      refine did_val (u := .int .u8 b.toNat) (w' := w) ?_ (aft_pure R hfr (avr_lit_mk _ rfl) froz_nil)
      simp only [execOp, ho, Instr.index, he, hn, asIntOf]
      rw [run_bind, run_bind, run_pure]
      simp only []
      rw [run_bind, run_underlying (tk_str htk)]
      simp only [h0, if_true, hb]
      rfl
    · exact h2.elim
  · exact h2.elim
end
end Go.Den
end
section
namespace Go.Den
open Go
set_option linter.unusedSimpArgs false
set_option linter.unusedVariables false
def eqVals : List Value → List Value → Option Bool
  | [], [] => some true
  | .int k a :: r, .int k' b :: r' => if k = k' then (eqVals r r').map ((a == b) && ·) else none
  | .string a :: r, .string b :: r' => (eqVals r r').map ((a == b) && ·)
  | .bool a :: r, .bool b :: r' => (eqVals r r').map ((a == b) && ·)
  | _, _ => none
def EqOk (P : Program) (t : Nat) (ks : List Nat) : Prop := P.eqGuardType P.depth t = false ∧ ∀ xs ys e w, xs.map vKind = ks → eqVals xs ys = some e → (Op.equal t (.agg ⟨xs⟩) (.agg ⟨ys⟩)).run P w = .ok e w
section
variable {P : Program} {E : Env} {w0 w : World} {rs : List Nat} {cs : Cs} {m : Gm} {cl : Nat → List Nat} {fr fr' : Nat → Prop} {st : St} {tmps : Array Value}
variable {a : Act} {o : Oper} {nb : Nat} {v : AV} {us : List Upd}
theorem ans_binI {op : BinOp} {k : IntKind} {x y : Int} {r : Value} {t : Nat} (h : Ans E st (binI op k x y) r) : (binOp op t (.int k x) (.int k y)).run P w = .ok r w ∧ scal r = true := by
  cases op <;> simp only [binI, ans_ret, ans_fail, ans_ite, ans_pure] at h
  case quo =>
    rcases h with ⟨h0, h⟩ | ⟨h0, h⟩
    · exact h.elim
    · subst h; simp at h0; simp [binOp, Op.intDiv, h0, run_pure, scal]
  case rem =>
    rcases h with ⟨h0, h⟩ | ⟨h0, h⟩
    · exact h.elim
    · subst h; simp at h0; simp [binOp, Op.intDiv, h0, run_pure, scal]
  all_goals (try exact h.elim)
  all_goals (subst h; simp [binOp, Op.intArith, Op.intCmp, Op.intBits, run_pure, scal])
theorem ans_binS {op : BinOp} {x y : ByteArray} {r : Value} {t : Nat} (h : Ans E st (binS op x y) r) : (binOp op t (.string x) (.string y)).run P w = .ok r w ∧ scal r = true := by
  cases op <;> simp only [binS, ans_ret, ans_fail, ans_ite] at h
  case add =>
    rcases h with ⟨h0, h⟩ | ⟨h0, h⟩
    · subst h
      have : ¬ (((x.size + y.size : Nat) : Int) > IntKind.i64.max) := by
        simp at h0
        have : IntKind.i64.max = 9223372036854775807 := by decide
        rw [this]; omega
      simp only [binOp, Op.stringOp, this, if_false, run_pure, scal, and_self]
    · exact h.elim
  all_goals (try exact h.elim)
  all_goals (subst h; simp [binOp, Op.stringOp, run_pure, scal])
theorem eqGuard_run {op : BinOp} {t : Nat} {x y : Operand} {u v : Value} (h : ∀ c, u ≠ .agg c) (h' : u ≠ .nilIface) : (eqGuard op t x y u v).run P w = .ok () w := by
  unfold eqGuard
  cases op <;> simp [run_pure, Sem.run, run_bind]
  all_goals (cases u <;> simp_all [run_pure, Sem.run])
theorem eqCells_ok {M : Mp} (xs ys : List AV) : ∀ {vs us : List Value} {f g : List Nat} {e : Bool}, AVL M w xs vs f → AVL M w ys us g → Ans E st (eqCells xs ys) e → eqVals vs us = some e ∧ vs.map vKind = xs.map aKind := by
  induction xs, ys using eqCells.induct with
  | case1 =>
    intro vs us f g e h1 h2 h
    simp only [eqCells, ans_ret] at h
    simp only [AVL] at h1 h2
    rw [h1.1, h2.1, ← h]; exact ⟨rfl, rfl⟩
  | case2 k a r k' b r' ih =>
    intro vs us f g e h1 h2 h
    simp only [AVL] at h1 h2
    obtain ⟨v1, u1, f1, g1, rfl, e1, e2, rfl⟩ := h1
    obtain ⟨v2, u2, f2, g2, rfl, e3, e4, rfl⟩ := h2
    obtain ⟨rfl, _, _⟩ := avr_lit e1
    obtain ⟨rfl, _, _⟩ := avr_lit e3
    simp only [eqCells, ans_bind, ans_need, ans_ret] at h
    obtain ⟨_, hk, e', h3, rfl⟩ := h
    simp at hk; subst hk
    exact ⟨by simp [eqVals, (ih e2 e4 h3).1], by simp [aKind, (ih e2 e4 h3).2]⟩
  | case3 a r b r' ih =>
    intro vs us f g e h1 h2 h
    simp only [AVL] at h1 h2
    obtain ⟨v1, u1, f1, g1, rfl, e1, e2, rfl⟩ := h1
    obtain ⟨v2, u2, f2, g2, rfl, e3, e4, rfl⟩ := h2
    obtain ⟨rfl, _, _⟩ := avr_lit e1
    obtain ⟨rfl, _, _⟩ := avr_lit e3
    simp only [eqCells, ans_bind, ans_ret] at h
    obtain ⟨e', h3, rfl⟩ := h
    exact ⟨by simp [eqVals, (ih e2 e4 h3).1], by simp [aKind, (ih e2 e4 h3).2]⟩
  | case4 a r b r' ih =>
    intro vs us f g e h1 h2 h
    simp only [AVL] at h1 h2
    obtain ⟨v1, u1, f1, g1, rfl, e1, e2, rfl⟩ := h1
    obtain ⟨v2, u2, f2, g2, rfl, e3, e4, rfl⟩ := h2
    obtain ⟨rfl, _, _⟩ := avr_lit e1
    obtain ⟨rfl, _, _⟩ := avr_lit e3
    simp only [eqCells, ans_bind, ans_ret] at h
    obtain ⟨e', h3, rfl⟩ := h
    exact ⟨by simp [eqVals, (ih e2 e4 h3).1], by simp [aKind, (ih e2 e4 h3).2]⟩
  | case5 xs ys h1 h2 h3 h4 =>
    intro vs us f g e _ _ h
    rw [eqCells.eq_def] at h
    split at h
    · exact (h1 rfl rfl).elim
    · exact (h2 _ _ _ _ _ _ rfl rfl).elim
    · exact (h3 _ _ _ _ rfl rfl).elim
    · exact (h4 _ _ _ _ rfl rfl).elim
    · exact h.elim
variable (ET : ∀ t ti, E.tt t = some ti → ttOf P t = some ti) (EQ : ∀ t ks, E.eqs t ks = true → EqOk P t ks)
include ET EQ in
theorem ok_binOp (R : Rel w0 rs cs m cl fr st a.tmps w) (hfr : ∀ id, fr' id → fr id) {op : BinOp} {t t2 : Nat} {x y : Operand} (ho : o.op = .binOp op t x y t2)
    (h : Ans E st (stepOp E nb o) (v, us)) : Did P o a.eval w (Aft w0 rs cs fr' (st.upds us) a.tmps v) := by
  simp only [stepOp, ho] at h
  rw [ans_bind] at h
  obtain ⟨xv, h1, h⟩ := h
  rw [ans_bind] at h
  obtain ⟨yv, h2, h⟩ := h
  obtain ⟨f1, x1, x2⟩ := opd_ok R h1
  obtain ⟨f2, y1, y2⟩ := opd_ok R h2
  split at h
  · obtain ⟨e1, _, _⟩ := avr_lit x1
    obtain ⟨e2, _, _⟩ := avr_lit y1
    simp only [ans_bind, ans_need, ans_ret, Prod.mk.injEq] at h
    obtain ⟨_, hk, r, h3, rfl, rfl⟩ := h
    simp at hk; subst hk
    obtain ⟨h4, h5⟩ := ans_binI (P := P) (w := w) (t := t) h3
    refine did_val (u := r) (w' := w) ?_ (aft_pure R hfr (avr_lit_mk _ h5) froz_nil)
    simp only [execOp, ho, e1, e2]
    rw [run_bind, run_bind, eqGuard_run (by intros; simp) (by simp)]
    simp only [h4]; rfl
  · obtain ⟨e1, _, _⟩ := avr_lit x1
    obtain ⟨e2, _, _⟩ := avr_lit y1
    simp only [ans_bind, ans_ret, Prod.mk.injEq] at h
    obtain ⟨r, h3, rfl, rfl⟩ := h
    obtain ⟨h4, h5⟩ := ans_binS (P := P) (w := w) (t := t) h3
    refine did_val (u := r) (w' := w) ?_ (aft_pure R hfr (avr_lit_mk _ h5) froz_nil)
    simp only [execOp, ho, e1, e2]
    rw [run_bind, run_bind, eqGuard_run (by intros; simp) (by simp)]
    simp only [h4]; rfl
  · rename_i p q
    obtain ⟨e1, _, _⟩ := avr_lit x1
    obtain ⟨e2, _, _⟩ := avr_lit y1
    rw [ans_bind] at h
    obtain ⟨ti, ht, h⟩ := h
    rw [ans_tt] at ht
    obtain ⟨_, _, _, _, _, _, _, _, _, _, htk, _⟩ := (tok_of (ET t ti ht)).info
    have heq : (Op.equal t (.bool p) (.bool q)).run P w = .ok (p == q) w → True := fun _ => trivial
    split at h
    · rename_i hb
      rw [hb] at htk
      simp only [ans_ret, Prod.mk.injEq] at h
      obtain ⟨rfl, rfl⟩ := h
      refine did_val (u := .bool (p == q)) (w' := w) ?_ (aft_pure R hfr (avr_lit_mk _ rfl) froz_nil)
      simp only [execOp, ho, e1, e2]
      rw [run_bind, run_bind, eqGuard_run (by intros; simp) (by simp)]
      simp only [binOp, Op.equal, Op.maxDepth]
      unfold Op.equalIn
      simp [run_bind, run_underlying (tk_bool htk), run_pure]
    · rename_i hb
      rw [hb] at htk
      simp only [ans_ret, Prod.mk.injEq] at h
      obtain ⟨rfl, rfl⟩ := h
      refine did_val (u := .bool (!(p == q))) (w' := w) ?_ (aft_pure R hfr (avr_lit_mk _ rfl) froz_nil)
      simp only [execOp, ho, e1, e2]
      rw [run_bind, run_bind, eqGuard_run (by intros; simp) (by simp)]
      simp only [binOp, Op.equal, Op.maxDepth]
      unfold Op.equalIn
      simp [run_bind, run_underlying (tk_bool htk), run_pure]
    · exact h.elim
  · rename_i xs ys
    simp only [ans_bind, ans_need] at h
    obtain ⟨_, hq, e, h3, h4⟩ := h
    obtain ⟨hg, hq⟩ := EQ t _ hq
    obtain ⟨vs, e1, hL1, _⟩ := x1
    obtain ⟨us', e2, hL2, _⟩ := y1
    have h6 := eqCells_ok _ _ hL1 hL2 h3
    have h5 := hq _ _ _ w h6.2 h6.1
    have hgr : ∀ op, (eqGuard op t x y (.agg ⟨vs⟩) (.agg ⟨us'⟩)).run P w = .ok () w := by
      intro op
      unfold eqGuard
      cases op <;> simp [run_pure, Sem.run, run_bind, program, hg]
    split at h4
    · simp only [ans_ret, Prod.mk.injEq] at h4
      obtain ⟨rfl, rfl⟩ := h4
      refine did_val (u := .bool e) (w' := w) ?_ (aft_pure R hfr (avr_lit_mk _ rfl) froz_nil)
      simp only [execOp, ho, e1, e2]
      rw [run_bind, run_bind, hgr]
      simp only [binOp, run_bind, h5, run_pure]
    · simp only [ans_ret, Prod.mk.injEq] at h4
      obtain ⟨rfl, rfl⟩ := h4
      refine did_val (u := .bool (!e)) (w' := w) ?_ (aft_pure R hfr (avr_lit_mk _ rfl) froz_nil)
      simp only [execOp, ho, e1, e2]
      rw [run_bind, run_bind, hgr]
      simp only [binOp, run_bind, h5, run_pure]
    · exact h4.elim
  · exact h.elim
end
end Go.Den
end
section
namespace Go.Den
open Go
set_option linter.unusedSimpArgs false
set_option linter.unusedVariables false
section
variable {P : Program} {E : Env} {w0 w : World} {rs : List Nat} {cs : Cs} {m : Gm} {cl : Nat → List Nat} {fr fr' : Nat → Prop} {st : St} {tmps : Array Value}
variable {a : Act} {o : Oper} {nb : Nat} {v : AV} {us : List Upd}
theorem opds_ok (R : Rel w0 rs cs m cl fr st a.tmps w) : ∀ {xs : List Operand} {vs : List AV}, Ans E st (opds xs) vs → ∃ fs, AVL (st.mp m fr) w vs (xs.map a.eval) fs ∧ Froz m st w fs
  | [], vs, h => by
    simp only [opds, ans_ret] at h
    subst h
    exact ⟨[], by simp [AVL], froz_nil⟩
  | x :: xs, vs, h => by
    simp only [opds, ans_bind, ans_ret] at h
    obtain ⟨v, h1, vs', h2, rfl⟩ := h
    obtain ⟨f, h3, h4⟩ := opd_ok R h1
    obtain ⟨g, h5, h6⟩ := opds_ok R h2
    refine ⟨f ++ g, ?_, fun b hb => (List.mem_append.1 hb).elim (h4 b) (h6 b)⟩
    simp only [List.map_cons, AVL]
    exact ⟨_, _, f, g, rfl, h3, h5, rfl⟩
theorem ok_makeFunc (R : Rel w0 rs cs m cl fr st a.tmps w) (hfr : ∀ id, fr' id → fr id) {g : Nat} {first captured : Array Operand} (ho : o.op = .makeFunc (.func g) first captured)
    (h : Ans E st (stepOp E nb o) (v, us)) : Did P o a.eval w (Aft w0 rs cs fr' (st.upds us) a.tmps v) := by
  simp only [stepOp, ho, ans_bind, ans_need, ans_ret, Prod.mk.injEq] at h
  obtain ⟨_, hf, vs, h1, rfl, rfl⟩ := h
  obtain ⟨fs, h2, h3⟩ := opds_ok R h1
  have hf' : first = #[] := by simpa using hf
  subst hf'
  refine did_val (u := .func (.func g) #[] ⟨captured.toList.map a.eval⟩) (w' := w) ?_ (aft_pure R hfr (fs := fs) ⟨_, rfl, h2⟩ h3)
  simp only [execOp, ho, Instr.makeFunc, run_bind, run_pure]
  congr 4
  · simp
  · apply Array.ext'; simp
theorem maxGo_ok {M : Mp} {k : IntKind} : ∀ {vs : List AV} {a : Int} {us : List Value} {fs : List Nat} {q : IntKind × Int}, AVL M w vs us fs → Ans E st (maxGo k a vs) q →
    (us.foldlM Builtin.max2 (.int k a)).run P w = .ok (.int q.1 q.2) w
  | [], a, us, fs, q, h1, h => by
    simp only [maxGo, ans_ret] at h
    subst h
    simp only [AVL] at h1
    obtain ⟨rfl, rfl⟩ := h1
    simp [run_pure]
  | x :: r, a, us, fs, q, h1, h => by
    simp only [maxGo, ans_bind, ans_getI] at h
    obtain ⟨⟨k', q'⟩, rfl, h⟩ := h
    simp only [AVL] at h1
    obtain ⟨v, us', f, g, rfl, h2, h4, rfl⟩ := h1
    obtain ⟨rfl, _, _⟩ := avr_lit h2
    have e := maxGo_ok h4 h
    rw [List.foldlM_cons, run_bind]
    simp only [Builtin.max2, run_pure]
    exact e
theorem maxI_ok {M : Mp} {vs : List AV} {us : List Value} {fs : List Nat} {q : IntKind × Int} (h1 : AVL M w vs us fs) (h : Ans E st (maxI vs) q) :
    ∃ u r, us = u :: r ∧ (r.foldlM Builtin.max2 u).run P w = .ok (.int q.1 q.2) w := by
  cases vs with
  | nil => simp [maxI] at h
  | cons x r =>
    simp only [maxI, ans_bind, ans_getI] at h
    obtain ⟨⟨k, p⟩, rfl, h⟩ := h
    simp only [AVL] at h1
    obtain ⟨v, us', f, g, rfl, h2, h4, rfl⟩ := h1
    obtain ⟨rfl, _, _⟩ := avr_lit h2
    exact ⟨_, _, rfl, maxGo_ok h4 h⟩
theorem minGo_ok {M : Mp} {k : IntKind} : ∀ {vs : List AV} {a : Int} {us : List Value} {fs : List Nat} {q : IntKind × Int}, AVL M w vs us fs → Ans E st (minGo k a vs) q →
    (us.foldlM Builtin.min2 (.int k a)).run P w = .ok (.int q.1 q.2) w
  | [], a, us, fs, q, h1, h => by
    simp only [minGo, ans_ret] at h
    subst h
    simp only [AVL] at h1
    obtain ⟨rfl, rfl⟩ := h1
    simp [run_pure]
  | x :: r, a, us, fs, q, h1, h => by
    simp only [minGo, ans_bind, ans_getI] at h
    obtain ⟨⟨k', q'⟩, rfl, h⟩ := h
    simp only [AVL] at h1
    obtain ⟨v, us', f, g, rfl, h2, h4, rfl⟩ := h1
    obtain ⟨rfl, _, _⟩ := avr_lit h2
    have e := minGo_ok h4 h
    rw [List.foldlM_cons, run_bind]
    simp only [Builtin.min2, run_pure]
    exact e
theorem minI_ok {M : Mp} {vs : List AV} {us : List Value} {fs : List Nat} {q : IntKind × Int} (h1 : AVL M w vs us fs) (h : Ans E st (minI vs) q) :
    ∃ u r, us = u :: r ∧ (r.foldlM Builtin.min2 u).run P w = .ok (.int q.1 q.2) w := by
  cases vs with
  | nil => simp [minI] at h
  | cons x r =>
    simp only [minI, ans_bind, ans_getI] at h
    obtain ⟨⟨k, p⟩, rfl, h⟩ := h
    simp only [AVL] at h1
    obtain ⟨v, us', f, g, rfl, h2, h4, rfl⟩ := h1
    obtain ⟨rfl, _, _⟩ := avr_lit h2
    exact ⟨_, _, rfl, minGo_ok h4 h⟩
theorem ok_max (R : Rel w0 rs cs m cl fr st a.tmps w) (hfr : ∀ id, fr' id → fr id) {c : Call} (ho : o.op = .call c) (hc : c.callee = .builtin .max)
    (h : Ans E st (stepOp E nb o) (v, us)) : Did P o a.eval w (Aft w0 rs cs fr' (st.upds us) a.tmps v) := by
  simp only [stepOp, ho, hc, ans_bind, ans_ret, Prod.mk.injEq] at h
  obtain ⟨vs, h1, ⟨k, n⟩, h2, rfl, rfl⟩ := h
  obtain ⟨fs, h3, h4⟩ := opds_ok R h1
  obtain ⟨u, r, e1, e2⟩ := maxI_ok (P := P) h3 h2
  refine did_val (u := .int k n) (w' := w) ?_ (aft_pure R hfr (avr_lit_mk _ rfl) froz_nil)
  simp only [execOp, ho, resolve, hc, invoke, builtin, Builtin.max_, run_bind, run_pure]
  have : (Array.map a.eval c.args).toList = u :: r := by rw [Array.toList_map]; exact e1
  rw [this]
  simp only [e2]
theorem ok_min (R : Rel w0 rs cs m cl fr st a.tmps w) (hfr : ∀ id, fr' id → fr id) {c : Call} (ho : o.op = .call c) (hc : c.callee = .builtin .min)
    (h : Ans E st (stepOp E nb o) (v, us)) : Did P o a.eval w (Aft w0 rs cs fr' (st.upds us) a.tmps v) := by
  simp only [stepOp, ho, hc, ans_bind, ans_ret, Prod.mk.injEq] at h
  obtain ⟨vs, h1, ⟨k, n⟩, h2, rfl, rfl⟩ := h
  obtain ⟨fs, h3, h4⟩ := opds_ok R h1
  obtain ⟨u, r, e1, e2⟩ := minI_ok (P := P) h3 h2
  refine did_val (u := .int k n) (w' := w) ?_ (aft_pure R hfr (avr_lit_mk _ rfl) froz_nil)
  simp only [execOp, ho, resolve, hc, invoke, builtin, Builtin.min_, run_bind, run_pure]
  have : (Array.map a.eval c.args).toList = u :: r := by rw [Array.toList_map]; exact e1
  rw [this]
  simp only [e2]
theorem lenOf_ok (R : Rel w0 rs cs m cl fr st a.tmps w) {x : AV} {u : Value} {fs : List Nat} {n : Nat} (h : AVR (st.mp m fr) w x u fs) (hl : Ans E st (lenOf x) n) (hs : ∀ s, x ≠ .rd (.lit s)) :
    ∃ A c, u = .slice A n c ∧ n ≤ c := by
  unfold lenOf at hl
  split at hl
  · simp only [ans_ret] at hl; subst hl; simp only [AVR] at h; exact ⟨none, 0, h.1, Nat.le_refl _⟩
  · simp only [ans_ret] at hl; subst hl
    simp only [AVR, RR] at h
    obtain ⟨A, c, h1, h2, _⟩ := h
    exact ⟨A, c, h1, h2⟩
  · exact (hs _ rfl).elim
  · simp only [ans_ob] at hl
    split at hl
    · rename_i hb
      simp only [ans_ret] at hl; subst hl
      obtain ⟨A, c, h1, h2, _⟩ := h.2.2 _ _ _ hb
      exact ⟨A, c, h1, h2⟩
    · exact hl.elim
  · simp only [ans_ob] at hl
    split at hl
    · rename_i hb
      simp only [ans_ret] at hl; subst hl
      obtain ⟨_, A, c, h1, h2, _⟩ := h.2.2 _ _ _ hb
      exact ⟨A, c, h1, h2⟩
    · exact hl.elim
  · exact hl.elim
variable (ET : ∀ t ti, E.tt t = some ti → ttOf P t = some ti)
include ET in
theorem ok_len (R : Rel w0 rs cs m cl fr st a.tmps w) (hfr : ∀ id, fr' id → fr id) {c : Call} (ho : o.op = .call c) (hc : c.callee = .builtin .len)
    (h : Ans E st (stepOp E nb o) (v, us)) : Did P o a.eval w (Aft w0 rs cs fr' (st.upds us) a.tmps v) := by
  simp only [stepOp, ho, hc] at h
  rw [ans_bind] at h
  obtain ⟨ti, ht, h⟩ := h
  rw [ans_tt] at ht
  rw [ans_bind] at h
  obtain ⟨x, h1, h⟩ := h
  rw [ans_bind] at h
  obtain ⟨_, hn, h⟩ := h
  simp only [ans_need, Bool.and_eq_true] at hn
  have hn1 := Nat.eq_of_beq_eq_true hn.1
  have hn2 := Nat.eq_of_beq_eq_true hn.2
  obtain ⟨fs, h3, h4⟩ := opd_ok R h1
  obtain ⟨_, _, _, _, _, _, _, _, _, _, htk, _⟩ := (tok_of (ET _ ti ht)).info
  have e1 : (c.argTypes[0]?) = some (c.argTypes.getD 0 0) := by simp [hn2]
  have e2 : ((c.args.map a.eval)[0]?) = some (a.eval (c.args.getD 0 (.global 0))) := by simp [hn1]
  split at h
  · rename_i s hs
    rw [hs] at htk
    simp only [ans_ret, Prod.mk.injEq] at h
    obtain ⟨rfl, rfl⟩ := h
    obtain ⟨he, _, _⟩ := avr_lit h3
    refine did_val (u := .int .i64 s.size) (w' := w) ?_ (aft_pure R hfr (avr_lit_mk _ rfl) froz_nil)
    simp only [execOp, ho, resolve, hc, invoke, builtin, Builtin.len_, run_bind, run_pure, e1, e2, he, run_underlying (tk_str htk), goInt]
  · exact h.elim
  · rename_i y _ _ e k eb hs hnl
    rw [hs] at htk
    simp only [ans_bind, ans_ret, Prod.mk.injEq] at h
    obtain ⟨n, h5, rfl, rfl⟩ := h
    obtain ⟨A, cap, he, _⟩ := lenOf_ok R h3 h5 (fun s hs' => hnl _ hs')
    refine did_val (u := .int .i64 n) (w' := w) ?_ (aft_pure R hfr (avr_lit_mk _ rfl) froz_nil)
    simp only [execOp, ho, resolve, hc, invoke, builtin, Builtin.len_, run_bind, run_pure, e1, e2, he, run_underlying (tk_slice htk).1, goInt]
  · exact h.elim
end
end Go.Den
end
section
namespace Go.Den
open Go
set_option linter.unusedSimpArgs false
set_option linter.unusedVariables false
section
variable {P : Program} {E : Env} {w0 w : World} {rs : List Nat} {cs : Cs} {m : Gm} {cl : Nat → List Nat} {fr fr' : Nat → Prop} {st : St} {tmps : Array Value}
variable {a : Act} {o : Oper} {nb : Nat} {v : AV} {us : List Upd}
variable (ET : ∀ t ti, E.tt t = some ti → ttOf P t = some ti)
theorem bound_ok (R : Rel w0 rs cs m cl fr st a.tmps w) {x : Option Operand} {d : Nat} {n : Int} (h : Ans E st (bound x d) n) :
    (x = none ∧ n = d) ∨ ∃ y k, x = some y ∧ a.eval y = .int k n := by
  cases x with
  | none => simp only [bound, ans_ret] at h; exact .inl ⟨rfl, h.symm⟩
  | some y =>
    simp only [bound] at h
    rw [ans_bind] at h
    obtain ⟨⟨k, q⟩, h1, h2⟩ := h
    simp only [ans_ret] at h2
    subst h2
    exact .inr ⟨y, k, rfl, getI_ok R h1⟩
theorem sliceBound_run {k : IntKind} {n : Int} {y : Nat} {code : BoundsCode} (h0 : 0 ≤ n) (h : n ≤ y) : (Instr.sliceBound (.int k n) y code).run P w = .ok n.toNat w := by
  simp only [Instr.sliceBound, asIntOf, run_bind, run_pure, h0, h, and_self, if_true]
theorem sliceBounds_run {len cap : Nat} {lo hi mx : Option Value} {l h m' : Int} {b : Bool}
    (hm : (mx = none ∧ m' = cap) ∨ ∃ k, mx = some (.int k m')) (hh : (hi = none ∧ h = len) ∨ ∃ k, hi = some (.int k h)) (hl : (lo = none ∧ l = 0) ∨ ∃ k, lo = some (.int k l))
    (h1 : 0 ≤ l) (h2 : l ≤ h) (h3 : h ≤ m') (h4 : m' ≤ cap) (h5 : mx ≠ none → hi ≠ none) :
    (Instr.sliceBounds b len cap lo hi mx).run P w = .ok (l.toNat, h.toNat, m'.toNat) w := by
  unfold Instr.sliceBounds
  rcases hm with ⟨rfl, rfl⟩ | ⟨km, rfl⟩ <;> rcases hh with ⟨rfl, rfl⟩ | ⟨kh, rfl⟩ <;> rcases hl with ⟨rfl, rfl⟩ | ⟨kl, rfl⟩
  case inr.inl.inl => exact (h5 (by simp) rfl).elim
  case inr.inl.inr => exact (h5 (by simp) rfl).elim
  all_goals
    simp only [run_bind, run_pure]
    repeat (rw [sliceBound_run (by omega) (by omega)]; try simp only [run_pure])
    try simp [run_pure]
theorem RR_part {w : World} {t t' : Bool} {els : List (List RD)} {A : Option Addr} {c l h c' k : Nat} {fs : List Nat} (hR : RR w (.sl t els) (.slice A els.length c) fs)
    (h1 : l ≤ h) (h2 : h ≤ els.length) (h3 : h ≤ c') (ht' : t' = true → c' = h) (hk : l = 0 ∨ ∀ e ∈ els, e.length = k) :
    ∃ f, RR w (.sl t' ((els.drop l).take (h - l))) (.slice (if c' = l then A else A.map (·.add (l * k))) (h - l) (c' - l)) f ∧ ∀ b ∈ f, b ∈ fs := by
  simp only [RR] at hR
  obtain ⟨A0, c0, e1, e2, e3, h4⟩ := hR
  simp only [Value.slice.injEq, true_and] at e1
  obtain ⟨rfl, rfl⟩ := e1
  have hlen : ((els.drop l).take (h - l)).length = h - l := by simp; omega
  by_cases hne : h = l
  · subst hne
    refine ⟨[], ?_, by simp⟩
    simp only [RR]
    refine ⟨(if c' = h then A else A.map (·.add (h * k))), c' - h, by rw [hlen], by simp, fun ht => by have := ht' ht; simp; omega, .inl ⟨by simp, trivial⟩⟩
  · rcases h4 with ⟨rfl, _⟩ | ⟨b, o, k', gs, rfl, hne', rfl, hE⟩
    · simp at h2; omega
    · have hoff : l * k = l * k' := by
        rcases hk with rfl | hk
        · simp
        · cases els with
          | nil => exact (hne' rfl).elim
          | cons e es => simp only [RE] at hE; obtain ⟨_, _, h5, _⟩ := hE; rw [← h5, hk e (by simp)]
      have e : els = els.take l ++ ((els.drop l).take (h - l) ++ (els.drop l).drop (h - l)) := by rw [List.take_append_drop, List.take_append_drop]
      rw [e, RE_append] at hE
      obtain ⟨f1, g1, _, hE2, rfl⟩ := hE
      rw [RE_append] at hE2
      obtain ⟨f2, g2, hE3, _, rfl⟩ := hE2
      rw [List.length_take_of_le (by omega)] at hE3
      refine ⟨b :: f2, ?_, fun x hx => by simp at hx ⊢; rcases hx with h | h <;> simp [h]⟩
      simp only [RR]
      refine ⟨_, c' - l, by rw [hlen], by rw [hlen]; omega, fun ht => by rw [hlen]; have := ht' ht; omega, .inr ⟨b, o + l * k', k', f2, ?_, ?_, rfl, hE3⟩⟩
      · rw [if_neg (by omega)]
        simp only [Option.map_some, add_none, hoff]
      · intro hnil
        rw [hnil] at hlen
        simp at hlen
        omega
theorem SlV_part {w : World} {id k off n l h c' : Nat} {t t' : Bool} {A : Option Addr} {c : Nat} (hS : SlV m w id k off n t (.slice A n c))
    (h1 : l ≤ h) (h2 : h ≤ n) (h3 : h ≤ c') (hc : c' ≤ c) (ht' : t' = true → c' = h) :
    SlV m w id k (off + l) (h - l) t' (.slice (if c' = l then A else A.map (·.add (l * k))) (h - l) (c' - l)) := by
  obtain ⟨A0, c0, e1, e2, e3, h4⟩ := hS
  simp only [Value.slice.injEq, true_and] at e1
  obtain ⟨rfl, rfl⟩ := e1
  refine ⟨_, c' - l, rfl, by omega, fun ht => by have := ht' ht; omega, ?_⟩
  by_cases hcl : c' = l
  · exact .inl ⟨by omega, by omega⟩
  rcases h4 with ⟨hn, hc0⟩ | ⟨b, hm, rfl, hle⟩
  · exact .inl ⟨by omega, by omega⟩
  · refine .inr ⟨b, hm, ?_, ?_⟩
    · rw [if_neg hcl]
      simp only [Option.map_some, add_none, Nat.add_mul]
    · refine Nat.le_trans (Nat.mul_le_mul_right k (by omega)) hle
theorem slice_run {t e k eb : Nat} {x : Operand} {lo hi mx : Option Operand} {A : Option Addr} {n c : Nat} {l h m' : Int} (htk : tkOf P t = some (.slice e k eb)) (he : a.eval x = .slice A n c)
    (ho : o.op = .slice t x lo hi mx)
    (hm : (mx.map a.eval = none ∧ m' = c) ∨ ∃ q, mx.map a.eval = some (.int q m')) (hh : (hi.map a.eval = none ∧ h = n) ∨ ∃ q, hi.map a.eval = some (.int q h)) (hl : (lo.map a.eval = none ∧ l = 0) ∨ ∃ q, lo.map a.eval = some (.int q l))
    (h1 : 0 ≤ l) (h2 : l ≤ h) (h3 : h ≤ m') (h4 : m' ≤ c) (h5 : mx.map a.eval ≠ none → hi.map a.eval ≠ none) :
    (execOp a.eval o).run P w = .ok (.value (.slice (if m'.toNat = l.toNat then A else A.map (·.add (l.toNat * k))) (h.toNat - l.toNat) (m'.toNat - l.toNat))) w := by
  obtain ⟨hu, i, hi', rfl, _⟩ := tk_slice htk
  simp only [execOp, ho, Instr.sliceAt, run_bind, run_underlying hu]
  simp only [Instr.slice, run_bind, run_underlying hu, he]
  rw [sliceBounds_run hm hh hl h1 h2 h3 h4 h5]
  simp only [run_bind, run_sizeOf hi', run_pure]
include ET in
theorem ok_slice (R : Rel w0 rs cs m cl fr st a.tmps w) (hfr : ∀ id, fr' id → fr id) {t : Nat} {x : Operand} {lo hi mx : Option Operand} (ho : o.op = .slice t x lo hi mx)
    (h : Ans E st (stepOp E nb o) (v, us)) : Did P o a.eval w (Aft w0 rs cs fr' (st.upds us) a.tmps v) := by
  simp only [stepOp, ho] at h
  rw [ans_bind] at h
  obtain ⟨ti, ht, h⟩ := h
  rw [ans_tt] at ht
  rw [ans_bind] at h
  obtain ⟨y, h1, h⟩ := h
  obtain ⟨fs, h3, h4⟩ := opd_ok R h1
  obtain ⟨_, _, _, _, _, _, _, _, _, _, htk, _⟩ := (tok_of (ET _ ti ht)).info
  split at h
  · rename_i s hs
    rw [hs] at htk
    simp only [ans_bind, ans_need, ans_ret, Prod.mk.injEq, decide_eq_true_eq] at h
    obtain ⟨_, hmx, hh, hb, hl, lb, _, ⟨h0, hlh, hhs⟩, rfl, rfl⟩ := h
    have hmx' : mx = none := by simpa using hmx
    subst hmx'
    obtain ⟨he, _, _⟩ := avr_lit h3
    refine did_val (u := .string (s.extract hl.toNat hh.toNat)) (w' := w) ?_ (aft_pure R hfr (avr_lit_mk _ rfl) froz_nil)
    simp only [execOp, ho, Instr.sliceAt, run_bind, run_underlying (tk_str htk)]
    simp only [Instr.slice, run_bind, run_underlying (tk_str htk), he, Option.map_none, Option.isSome_none, Bool.false_eq_true, if_false, run_pure]
    rw [sliceBounds_run (m' := s.size) (.inl ⟨rfl, rfl⟩) ?_ ?_ h0 hlh (by omega) (by omega) (by simp)]
    · rcases bound_ok R hb with ⟨rfl, rfl⟩ | ⟨y, k, rfl, hy⟩
      · exact .inl ⟨rfl, rfl⟩
      · exact .inr ⟨k, by simp [hy]⟩
    · rcases bound_ok R lb with ⟨rfl, rfl⟩ | ⟨y, k, rfl, hy⟩
      · exact .inl ⟨rfl, rfl⟩
      · exact .inr ⟨k, by simp [hy]⟩
  · exact h.elim
  · rename_i y _ _ e k eb hs hnl
    rw [hs] at htk
    rw [ans_bind] at h
    obtain ⟨r, h, hr⟩ := h
    simp only [ans_ret, Prod.mk.injEq] at hr
    obtain ⟨rfl, rfl⟩ := hr
    unfold sliceOf at h
    simp only [ans_bind, ans_need, Bool.and_eq_true, Bool.or_eq_true, decide_eq_true_eq] at h
    obtain ⟨n, hn, m', hm', hh, hb, l, lb, _, ⟨⟨h0, hlh, hhn, hmn⟩, hmh⟩, h⟩ := h
    obtain ⟨A, c, he, hnc⟩ := lenOf_ok R h3 hn (fun s hs' => hnl _ hs')
    subst hmn
    -- the capacity's new bound: the old one, or the length
    have bm : (mx.map a.eval = none ∧ ∃ m'' : Int, m'' = c) ∨ ∃ q, mx.map a.eval = some (.int q n) := by
      rcases bound_ok R hm' with ⟨rfl, _⟩ | ⟨y, k, rfl, hy⟩
      · exact .inl ⟨rfl, _, rfl⟩
      · exact .inr ⟨k, by simp [hy]⟩
    have bh : (hi.map a.eval = none ∧ hh = n) ∨ ∃ q, hi.map a.eval = some (.int q hh) := by
      rcases bound_ok R hb with ⟨rfl, hz⟩ | ⟨y, k, rfl, hy⟩
      · exact .inl ⟨rfl, hz⟩
      · exact .inr ⟨k, by simp [hy]⟩
    have bl : (lo.map a.eval = none ∧ l = 0) ∨ ∃ q, lo.map a.eval = some (.int q l) := by
      rcases bound_ok R lb with ⟨rfl, hz⟩ | ⟨y, k, rfl, hy⟩
      · exact .inl ⟨rfl, by simpa using hz⟩
      · exact .inr ⟨k, by simp [hy]⟩
    have hmh' : mx.map a.eval ≠ none → hi.map a.eval ≠ none := by
      intro hne
      rcases hmh with hh | hh
      · have : mx = none := by simpa using hh
        subst this; simp at hne
      · cases hi with
        | none => simp at hh
        | some _ => simp
    obtain ⟨c', hc1, hcc0, hc2, hc3, hrun⟩ : ∃ c' : Nat, hh.toNat ≤ c' ∧ c' ≤ c ∧ (mx.isSome = true → c' = n) ∧ (mx.isSome = false → c' = c) ∧
        (execOp a.eval o).run P w = .ok (.value (.slice (if c' = l.toNat then A else A.map (·.add (l.toNat * k))) (hh.toNat - l.toNat) (c' - l.toNat))) w := by
      rcases bm with ⟨e1, _⟩ | ⟨q, e1⟩
      · have := slice_run (P := P) (w := w) (m' := c) htk he ho (.inl ⟨e1, rfl⟩) bh bl h0 hlh (by omega) (by omega) hmh'
        refine ⟨c, by omega, Nat.le_refl _, fun h => ?_, fun _ => rfl, by simpa using this⟩
        cases mx <;> simp at h e1
      · have := slice_run (P := P) (w := w) (m' := n) htk he ho (.inr ⟨q, e1⟩) bh bl h0 hlh (by omega) (by omega) hmh'
        refine ⟨n, by omega, hnc, fun _ => rfl, fun h => ?_, by simpa using this⟩
        cases mx <;> simp at h e1
    have l0 : lo.isNone = true → l = 0 := by
      intro hlo
      have : lo = none := by simpa using hlo
      subst this
      rcases bl with ⟨_, h⟩ | ⟨q, h⟩
      · exact h
      · simp at h
    clear bm bh bl hmh'
    split at h
    · -- nil
      simp only [ans_ret] at h
      subst h
      simp only [lenOf, ans_ret] at hn
      subst hn
      have h3' := h3
      simp only [AVR] at h3'
      rw [h3'.1] at he
      cases he
      have hz : hh.toNat = 0 := by omega
      have hz2 : c' = 0 := by omega
      have hz3 : l.toNat = 0 := by omega
      refine did_val (u := .slice none 0 0) (w' := w) ?_ (aft_pure R hfr (fs := []) (by simp [AVR]) froz_nil)
      rw [hrun, hz, hz2, hz3]; simp
    · rename_i t0 els
      simp only [lenOf, ans_ret] at hn
      subst hn
      have h3' := h3
      simp only [AVR] at h3'
      rw [he] at h3'
      have tight : (t0 = true → c = els.length) := by
        intro ht0
        simp only [RR] at h3'
        obtain ⟨A0, c0, e1, e2, e3, _⟩ := h3'
        simp only [Value.slice.injEq, true_and] at e1
        rw [e1.2]; exact e3 ht0
      have ct : ∀ (b : Bool), ((mx.isSome || t0) && b) = true → c' = els.length := by
        intro b hb
        simp only [Bool.and_eq_true, Bool.or_eq_true] at hb
        rcases hb.1 with h | h
        · exact hc2 h
        · cases hmx : mx.isSome with
          | true => exact hc2 hmx
          | false => rw [hc3 hmx, tight h]
      have fin : ∀ (t' : Bool) (els' : List (List RD)), (l = 0 ∨ ∀ e ∈ els, e.length = k) → (t' = true → c' = hh.toNat) → els' = (els.drop l.toNat).take (hh.toNat - l.toNat) → r = .rd (.sl t' els') → Did P o a.eval w (Aft w0 rs cs fr' (st.upds []) a.tmps r) := by
        intro t' els' hk ht' he' hr
        subst hr; subst he'
        obtain ⟨f, hR, hsub⟩ := RR_part (t' := t') (c' := c') (k := k) h3' (l := l.toNat) (h := hh.toNat) (by omega) (by omega) hc1 ht' (hk.imp (fun h => by omega) (fun h => h))
        exact did_val hrun (aft_pure R hfr (fs := f) (by simpa only [AVR] using hR) (h4.sub hsub))
      simp only [ans_ite, ans_ret, Bool.and_eq_true, decide_eq_true_eq] at h
      rcases h with ⟨⟨hlo, hhe⟩, h⟩ | ⟨_, h⟩
      · have := l0 hlo
        refine fin (t0 || mx.isSome) els (.inl this) ?_ ?_ h.symm
        · intro ht
          have := ct true (by simp; simpa [or_comm] using ht)
          omega
        · have e2 : hh.toNat = els.length := by omega
          rw [this, e2]; simp
      · rcases h with ⟨hlo, h⟩ | ⟨_, h⟩
        · have := l0 hlo
          refine fin _ _ (.inl this) ?_ ?_ h.symm
          · intro ht
            have h1 := ct _ ht
            simp only [Bool.and_eq_true, decide_eq_true_eq] at ht
            omega
          · rw [this]; simp
        · rcases h with ⟨hal, h⟩ | ⟨_, h⟩
          · refine fin _ _ (.inr ?_) ?_ rfl h.symm
            · intro e he'
              exact Nat.eq_of_beq_eq_true (List.all_eq_true.1 hal e he')
            · intro ht
              have h1 := ct _ ht
              simp only [Bool.and_eq_true, decide_eq_true_eq] at ht
              omega
          · exact h.elim
    · rename_i id t0
      simp only [ans_ob] at h
      simp only [lenOf, ans_ob] at hn
      split at h
      · rename_i k' deep els hb
        rw [hb] at hn
        simp only [ans_ret] at hn
        subst hn
        simp only [ans_bind, ans_need] at h
        obtain ⟨_, hkk, h⟩ := h
        have hkk := Nat.eq_of_beq_eq_true hkk
        subst hkk
        obtain ⟨⟨rfl, _⟩, hnf, hbx⟩ := h3
        have hS := hbx _ _ _ hb
        rw [he] at hS
        have tight : (t0 = true → c = els.length) := by
          intro ht0
          obtain ⟨A0, c0, e1, e2, e3, _⟩ := hS
          simp only [Value.slice.injEq, true_and] at e1
          rw [e1.2]; exact e3 ht0
        have ct : ∀ (b : Bool), ((mx.isSome || t0) && b) = true → c' = els.length := by
          intro b hb
          simp only [Bool.and_eq_true, Bool.or_eq_true] at hb
          rcases hb.1 with h | h
          · exact hc2 h
          · cases hmx : mx.isSome with
            | true => exact hc2 hmx
            | false => rw [hc3 hmx, tight h]
        have hcc : c' ≤ c := by
          cases hmx : mx.isSome with
          | true => rw [hc2 hmx]; exact hnc
          | false => rw [hc3 hmx]; exact Nat.le_refl _
        have hP := fun t' ht' => SlV_part (t' := t') (c' := c') hS (l := l.toNat) (h := hh.toNat) (by omega) (by omega) hc1 hcc ht'
        simp only [ans_ite, ans_ret, Bool.and_eq_true, decide_eq_true_eq] at h
        rcases h with ⟨⟨hlo, hhe⟩, rfl⟩ | ⟨_, rfl⟩
        · have hl0 := l0 hlo
          have h5 := hP (t0 || mx.isSome) (by
            intro ht
            have := ct true (by simp; simpa [or_comm] using ht)
            omega)
          refine did_val hrun (aft_pure R hfr (fs := []) ⟨⟨rfl, rfl⟩, hnf, fun kk dd ee ho' => ?_⟩ froz_nil)
          have : (some (AObj.arr kk dd ee)) = some _ := ho'.symm.trans hb
          cases this
          have z1 : l.toNat = 0 := by omega
          have z2 : hh.toNat - l.toNat = els.length := by omega
          rw [z2] at h5 ⊢
          rw [z1] at h5 ⊢
          exact h5
        · have h5 := hP ((mx.isSome || t0) && decide (hh = els.length)) (by
            intro ht
            have h1 := ct _ ht
            simp only [Bool.and_eq_true, decide_eq_true_eq] at ht
            omega)
          refine did_val hrun (aft_pure R hfr (fs := []) ⟨⟨rfl, rfl⟩, hnf, fun kk dd ee ho' => ?_⟩ froz_nil)
          have : (some (AObj.arr kk dd ee)) = some _ := ho'.symm.trans hb
          cases this
          rw [Nat.zero_add] at h5
          exact ⟨by omega, h5⟩
      · exact h.elim
    · rename_i id off n0 t0
      simp only [ans_ob] at h
      simp only [lenOf, ans_ob] at hn
      split at h
      · rename_i k' deep els hb
        rw [hb] at hn
        simp only [ans_ret] at hn
        subst hn
        simp only [ans_bind, ans_need, ans_ret] at h
        obtain ⟨_, hkk, rfl⟩ := h
        have hkk := Nat.eq_of_beq_eq_true hkk
        subst hkk
        obtain ⟨⟨rfl, _⟩, hnf, hbx⟩ := h3
        obtain ⟨hoff, hS⟩ := hbx _ _ _ hb
        rw [he] at hS
        have tight : (t0 = true → c = n0) := by
          intro ht0
          obtain ⟨A0, c0, e1, e2, e3, _⟩ := hS
          simp only [Value.slice.injEq, true_and] at e1
          rw [e1.2]; exact e3 ht0
        have hcc : c' ≤ c := by
          cases hmx : mx.isSome with
          | true => rw [hc2 hmx]; exact hnc
          | false => rw [hc3 hmx]; exact Nat.le_refl _
        have h5 := SlV_part (t' := ((mx.isSome || t0) && decide (hh = n0))) (c' := c') hS (l := l.toNat) (h := hh.toNat) (by omega) (by omega) hc1 hcc (by
            intro ht
            simp only [Bool.and_eq_true, Bool.or_eq_true, decide_eq_true_eq] at ht
            rcases ht.1 with h | h
            · have := hc2 h; omega
            · cases hmx : mx.isSome with
              | true => have := hc2 hmx; omega
              | false => have := hc3 hmx; have := tight h; omega)
        refine did_val hrun (aft_pure R hfr (fs := []) ⟨⟨rfl, rfl⟩, hnf, fun kk dd ee ho' => ?_⟩ froz_nil)
        have : (some (AObj.arr kk dd ee)) = some _ := ho'.symm.trans hb
        cases this
        exact ⟨by omega, h5⟩
      · exact h.elim
    · exact h.elim
  · exact h.elim
end
end Go.Den
end
section
namespace Go.Den
open Go
set_option linter.unusedSimpArgs false
set_option linter.unusedVariables false
section
variable {P : Program} {E : Env} {w0 w : World} {rs : List Nat} {cs : Cs} {m : Gm} {cl : Nat → List Nat} {fr fr' : Nat → Prop} {st : St} {tmps : Array Value}
variable {a : Act} {o : Oper} {nb : Nat} {v : AV} {us : List Upd} {M : Mp}
theorem AVL_take {xs : List AV} {vs : List Value} {fs : List Nat} (h : AVL M w xs vs fs) (j : Nat) : ∃ f, AVL M w (xs.take j) (vs.take j) f ∧ ∀ b ∈ f, b ∈ fs := by
  have := AVL_part h 0 j
  simpa using this
theorem AVL_drop {xs : List AV} {vs : List Value} {fs : List Nat} (h : AVL M w xs vs fs) (j : Nat) : ∃ f, AVL M w (xs.drop j) (vs.drop j) f ∧ ∀ b ∈ f, b ∈ fs := by
  have := AVL_part h j xs.length
  have hl := AVL_length h
  rwa [List.take_of_length_le (by simp), List.take_of_length_le (by simp; omega)] at this
theorem AVL_splice {xs ds : List AV} {vs us : List Value} {f g : List Nat} (h : AVL M w xs vs f) (h2 : AVL M w ds us g) (j : Nat) :
    ∃ e, AVL M w (splice xs j ds) (splice vs j us) e ∧ ∀ b ∈ e, b ∈ f ∨ b ∈ g := by
  obtain ⟨f1, e1, s1⟩ := AVL_take h j
  have hl := AVL_length h2
  obtain ⟨f2, e2, s2⟩ := AVL_drop h (j + ds.length)
  unfold splice
  refine ⟨f1 ++ (g ++ f2), ?_, ?_⟩
  · rw [AVL_append]
    refine ⟨_, _, f1, g ++ f2, e1, ?_, rfl, rfl⟩
    rw [AVL_append]
    exact ⟨_, _, g, f2, h2, by rw [hl]; exact e2, rfl, rfl⟩
  · intro b hb
    simp at hb
    rcases hb with hb | hb | hb
    · exact .inl (s1 b hb)
    · exact .inr hb
    · exact .inl (s2 b hb)
theorem all_splice {xs ds : List AV} {j : Nat} (h : xs.all isCell = true) (h2 : ds.all isCell = true) : (splice xs j ds).all isCell = true := by
  unfold splice
  simp only [List.all_append, Bool.and_eq_true]
  exact ⟨List.all_eq_true.2 fun x hx => List.all_eq_true.1 h x (List.mem_of_mem_take hx), h2, List.all_eq_true.2 fun x hx => List.all_eq_true.1 h x (List.mem_of_mem_drop hx)⟩
theorem splice_length {α : Type} {xs ds : List α} {j : Nat} (h : j + ds.length ≤ xs.length) : (splice xs j ds).length = xs.length := by
  unfold splice; simp; omega
theorem fold_set : ∀ (vs : List Value) (k off : Nat) (c : Array Value), off + k + vs.length ≤ c.size →
    ((vs.zipIdx k).foldl (fun cs (x : Value × Nat) => cs.setIfInBounds (off + x.2) x.1) c).toList = c.toList.take (off + k) ++ (vs ++ c.toList.drop (off + k + vs.length))
  | [], k, off, c, _ => by simp
  | v :: vs, k, off, c, h => by
    simp only [List.zipIdx_cons, List.foldl_cons, List.length_cons] at h ⊢
    rw [fold_set vs (k + 1) off _ (by simp; omega)]
    have h1 : off + k < c.toList.length := by simp; omega
    have e : (c.setIfInBounds (off + k) v).toList = c.toList.set (off + k) v := by simp
    rw [e, ← Nat.add_assoc off k 1, List.take_set, List.drop_set]
    rw [if_pos (by omega)]
    rw [List.take_succ_eq_append_getElem h1, List.set_append_right _ _ (by simp; omega)]
    have : (List.take (off + k) c.toList).length = off + k := by simp; omega
    rw [this]
    simp [Nat.add_assoc, Nat.add_comm 1]
theorem cells_list (v : Value) : v.cells.toList = match v with | .agg c => c.toList | v => [v] := by cases v <;> rfl
theorem scal_one {v : Value} (h : scal v = true) : v.oneCell' = true := by cases v <;> first | rfl | simp [scal] at h
theorem RR_one {d : RD} {u : Value} {fs : List Nat} (h : RR w d u fs) : u.oneCell' = true := by
  cases d <;> simp only [RR] at h
  case lit => obtain ⟨rfl, hs, _⟩ := h; exact scal_one hs
  case sl => obtain ⟨_, _, rfl, _⟩ := h; rfl
  case pt => obtain ⟨_, _, _, rfl, _⟩ := h; rfl
  case fn => obtain ⟨_, rfl, _⟩ := h; rfl
theorem AVR_one {x : AV} {u : Value} {fs : List Nat} (h : AVR M w x u fs) (hc : isCell x = true) : u.oneCell' = true := by
  cases x <;> simp [isCell] at hc <;> simp only [AVR] at h
  case rd => exact RR_one h
  case nil => rw [h.1]; rfl
  case fnv => obtain ⟨_, rfl, _⟩ := h; rfl
  all_goals exact h.1.2
theorem one_cells {u : Value} (h : u.oneCell' = true) : u.cells.toList = [u] := by cases u <;> first | rfl | simp [Value.oneCell'] at h
theorem AVL_one : ∀ {xs : List AV} {vs : List Value} {fs : List Nat}, AVL M w xs vs fs → xs.all isCell = true → ∀ v ∈ vs, v.oneCell' = true
  | [], vs, fs, h, _ => by simp only [AVL] at h; rw [h.1]; simp
  | x :: xs, vs, fs, h, hc => by
    simp only [AVL] at h
    obtain ⟨v, us, f, g, rfl, h2, h3, _⟩ := h
    simp only [List.all_cons, Bool.and_eq_true] at hc
    intro u hu
    rcases List.mem_cons.1 hu with rfl | hu
    · exact AVR_one h2 hc.1
    · exact AVL_one h3 hc.2 u hu
theorem cellsOf_ok {x : AV} {u : Value} {fs : List Nat} (h : AVR M w x u fs) (hc : (cellsOf x).all isCell = true) : AVL M w (cellsOf x) u.cells.toList fs := by
  by_cases hx : ∃ xs, x = .agg xs
  · obtain ⟨xs, rfl⟩ := hx
    obtain ⟨vs, rfl, h1, _⟩ := h
    exact h1
  · have e : cellsOf x = [x] := by cases x <;> first | rfl | exact (hx ⟨_, rfl⟩).elim
    rw [e] at hc ⊢
    simp only [List.all_cons, List.all_nil, Bool.and_true] at hc
    rw [one_cells (AVR_one h hc)]
    simp only [AVL]
    exact ⟨u, [], fs, [], rfl, h, ⟨rfl, rfl⟩, by simp⟩
theorem fill_ok {fl : List (Nat × Nat × Nat × Bool)} {pl : Nat → Option (Nat × Nat)} (hpl : ∀ (i off ty sz : Nat) (ag : Bool), fl[i]? = some (off, ty, sz, ag) → pl i = some (off, sz)) :
    ∀ {ps : List (Nat × AV)} {us : List (Nat × Value)} {cells r : List AV} {vs : Array Value} {f g : List Nat}, ps.map (·.1) = us.map (·.1) → AVL M w (ps.map (·.2)) (us.map (·.2)) f → AVL M w cells vs.toList g → cells.all isCell = true → Ans E st (fill fl cells ps) r →
      ∃ rv e, Instr.fill pl vs us = some rv ∧ AVL M w r rv.toList e ∧ r.all isCell = true ∧ ∀ b ∈ e, b ∈ f ∨ b ∈ g
  | [], us, cells, r, vs, f, g, h1, h2, h3, h4, h => by
    have : us = [] := by cases us <;> simp at h1 ⊢
    subst this
    simp only [fill, ans_ret] at h
    subst h
    exact ⟨vs, g, rfl, h3, h4, fun b hb => .inr hb⟩
  | (i, x) :: ps, us, cells, r, vs, f, g, h1, h2, h3, h4, h => by
    match us, h1, h2 with
    | (j, u) :: us, h1, h2 =>
      simp only [List.map_cons, List.cons.injEq] at h1
      obtain ⟨rfl, h1⟩ := h1
      simp only [List.map_cons, AVL] at h2
      obtain ⟨v', us', f1, f2, he, e1, e2, rfl⟩ := h2
      obtain ⟨rfl, rfl⟩ := List.cons.inj he
      simp only [fill] at h
      split at h
      · rename_i off ty sz ag hfl
        simp only [ans_bind, ans_need, Bool.and_eq_true] at h
        obtain ⟨_, ⟨⟨⟨hsz, hle⟩, hcell⟩, _⟩, h⟩ := h
        have hsz := Nat.eq_of_beq_eq_true hsz
        have hle := Nat.le_of_ble_eq_true hle
        have e3 := cellsOf_ok e1 hcell
        have hlen := AVL_length e3
        have hlen2 := AVL_length h3
        obtain ⟨e, e4, s4⟩ := AVL_splice h3 e3 off
        have hset : (u.cells.zipIdx.foldl (fun cs (c, j) => cs.setIfInBounds (off + j) c) vs).toList = splice vs.toList off u.cells.toList := by
          have := fold_set u.cells.toList 0 off vs (by simp at hlen2 ⊢; simp at hlen; omega)
          rw [← Array.foldl_toList, Array.toList_zipIdx]
          simpa [splice] using this
        obtain ⟨rv, e', h5, h6, h7, h8⟩ := fill_ok hpl h1 e2 (by rw [hset]; exact e4) (all_splice h4 hcell) h
        refine ⟨rv, e', ?_, h6, h7, ?_⟩
        · simp only [Instr.fill, hpl _ _ _ _ _ hfl]
          have c1 : u.cells.size = sz := by rw [← Array.length_toList, hlen, hsz]
          have c2 : ¬ (off + u.cells.size > vs.size) := by rw [← Array.length_toList (xs := vs), hlen2]; omega
          rw [if_neg (by simp only [ne_eq, c1, not_true_eq_false, decide_false, Bool.false_or, decide_eq_true_eq]; rw [← c1]; exact c2)]
          exact h5
        · intro b hb
          rcases h8 b hb with h | h
          · exact .inl (List.mem_append_right _ h)
          · rcases s4 b h with h | h
            · exact .inr h
            · exact .inl (List.mem_append_left _ h)
      · exact h.elim
end
end Go.Den
end
section
namespace Go.Den
open Go
set_option linter.unusedSimpArgs false
set_option linter.unusedVariables false
section
variable {P : Program} {E : Env} {w0 w : World} {rs : List Nat} {cs : Cs} {m : Gm} {cl : Nat → List Nat} {fr fr' : Nat → Prop} {st : St} {tmps : Array Value}
variable {a : Act} {o : Oper} {nb : Nat} {v : AV} {us : List Upd} {M : Mp}
variable (ET : ∀ t ti, E.tt t = some ti → ttOf P t = some ti)
theorem parts_ok (R : Rel w0 rs cs m cl fr st a.tmps w) : ∀ {ps : List (Nat × Operand)} {vs : List (Nat × AV)}, Ans E st (parts ps) vs →
    vs.map (·.1) = ps.map (·.1) ∧ ∃ fs, AVL (st.mp m fr) w (vs.map (·.2)) (ps.map fun x => a.eval x.2) fs ∧ Froz m st w fs
  | [], vs, h => by
    simp only [parts, ans_ret] at h
    subst h
    exact ⟨rfl, [], by simp [AVL], froz_nil⟩
  | (i, x) :: ps, vs, h => by
    simp only [parts, ans_bind, ans_ret] at h
    obtain ⟨v, h1, vs', h2, rfl⟩ := h
    obtain ⟨f, h3, h4⟩ := opd_ok R h1
    obtain ⟨h0, g, h5, h6⟩ := parts_ok R h2
    refine ⟨by simp [h0], f ++ g, ?_, fun b hb => (List.mem_append.1 hb).elim (h4 b) (h6 b)⟩
    simp only [List.map_cons, AVL]
    exact ⟨_, _, f, g, rfl, h3, h5, rfl⟩
theorem mapM_places : ∀ (fs : List Field), fs.all (fun f => fieldOk P f.type) = true → fs.mapM (fun f => (P.info? f.type).map fun i => (f.offset, i.size)) = some (fs.map fun f => (f.offset, P.cellsOf f.type))
  | [], _ => rfl
  | f :: fs, h => by
    simp only [List.all_cons, Bool.and_eq_true] at h
    obtain ⟨i, d, h1, _, _, h4, _⟩ := fieldOk_spec h.1
    rw [List.mapM_cons, mapM_places fs h.2]
    simp [h1, h4]
theorem zero_ok : ∀ (z : List Value), (z.all zeroOk = true) → AVL M w (z.map zeroC) z [] ∧ (z.map zeroC).all isCell = true
  | [], _ => ⟨by simp [AVL], rfl⟩
  | v :: z, h => by
    simp only [List.all_cons, Bool.and_eq_true] at h
    obtain ⟨h1, h2⟩ := zero_ok z h.2
    have h3 : AVR M w (zeroC v) v [] ∧ isCell (zeroC v) = true := by
      have h4 := h.1
      unfold zeroOk at h4
      unfold zeroC cst
      split at h4
      · exact ⟨by simp [AVR], rfl⟩
      · cases v <;> simp [scal] at h4 <;> simp [AVR, RR, scal, isCell]
    refine ⟨?_, ?_⟩
    · simp only [List.map_cons, AVL]
      exact ⟨v, z, [], [], rfl, h3.1, h1, rfl⟩
    · simp only [List.map_cons, List.all_cons, h3.2, h2, Bool.and_self]
include ET in
theorem ok_build (R : Rel w0 rs cs m cl fr st a.tmps w) (hfr : ∀ id, fr' id → fr id) {t : Nat} {ps : Array (Nat × Operand)} (ho : o.op = .build t ps)
    (h : Ans E st (stepOp E nb o) (v, us)) : Did P o a.eval w (Aft w0 rs cs fr' (st.upds us) a.tmps v) := by
  simp only [stepOp, ho] at h
  rw [ans_bind] at h
  obtain ⟨ti, ht, h⟩ := h
  rw [ans_tt] at ht
  rw [ans_bind] at h
  obtain ⟨vs, h1, h⟩ := h
  obtain ⟨h0, fs, h3, h4⟩ := parts_ok R h1
  obtain ⟨i, z, d, hi, _, _, hz, hzc, hu, _, htk, _⟩ := (tok_of (ET _ ti ht)).info
  split at h
  · rename_i fl hfl
    rw [hfl] at htk
    obtain ⟨fields, hus, rfl, hall⟩ := tk_struct htk
    simp only [ans_bind, ans_need, ans_ret, Prod.mk.injEq] at h
    obtain ⟨_, hzo, r, h5, rfl, rfl⟩ := h
    have hzo' : z.cells.toList.all zeroOk = true := by rw [hzc]; exact hzo
    obtain ⟨z1, z2⟩ := zero_ok (M := st.mp m fr) (w := w) _ hzo'
    rw [hzc] at z1 z2
    have hpl : ∀ (i off ty sz : Nat) (ag : Bool), (fields.toList.map (fun f => (f.offset, f.type, P.cellsOf f.type, isStruct P f.type)))[i]? = some (off, ty, sz, ag) →
        ((fields.toList.map fun f => (f.offset, P.cellsOf f.type)).toArray[i]?) = some (off, sz) := by
      intro i off ty sz ag hh
      rw [List.getElem?_map] at hh
      simp only [List.getElem?_toArray, List.getElem?_map]
      cases hf : fields.toList[i]? with
      | none => simp [hf] at hh
      | some f => simp [hf] at hh ⊢; exact ⟨hh.1, hh.2.2.1⟩
    obtain ⟨rv, e, e1, e2, e3, e4⟩ := fill_ok (M := st.mp m fr) (w := w) hpl (us := ps.toList.map fun x => (x.1, a.eval x.2)) (vs := z.cells) (by simp [h0]) (by simpa [Function.comp_def] using h3) (by rw [hzc]; exact z1) z2 h5
    refine did_val (u := .agg rv) (w' := w) ?_ (aft_pure R hfr (fs := e) ⟨rv.toList, by simp, e2, e3⟩ (fun b hb => (e4 b hb).elim (h4 b) (fun h => by cases h)))
    have hb : P.built t (ps.map fun x => (x.1, a.eval x.2)).toList = some rv := by
      unfold Program.built
      rw [hi, hus]
      simp only [hz, mapM_places _ hall, Array.toList_map]
      exact e1
    simp only [execOp, ho, run_bind]
    rw [Go.run_build w t _ rv hb]
    rfl
  · exact h.elim
include ET in
theorem ok_lookup (R : Rel w0 rs cs m cl fr st a.tmps w) (hfr : ∀ id, fr' id → fr id) {t : Nat} {x y : Operand} (ho : o.op = .lookup t x y false)
    (h : Ans E st (stepOp E nb o) (v, us)) : Did P o a.eval w (Aft w0 rs cs fr' (st.upds us) a.tmps v) := by
  simp only [stepOp, ho] at h
  rw [ans_bind] at h
  obtain ⟨ti, ht, h⟩ := h
  rw [ans_tt] at ht
  rw [ans_bind] at h
  obtain ⟨mv, h1, h⟩ := h
  rw [ans_bind] at h
  obtain ⟨⟨ik, n⟩, hi, h2⟩ := h
  have hn := getI_ok R hi
  simp only [] at hn h2
  obtain ⟨fs, h3, h4⟩ := opd_ok R h1
  obtain ⟨_, _, _, _, _, _, _, _, _, _, htk, _⟩ := (tok_of (ET t ti ht)).info
  split at h2
  · rename_i kk z id hfl
    rw [hfl] at htk
    obtain ⟨k, e, ie, hu, hk, hie, hz, hsz⟩ := tk_map htk
    simp only [ans_bind, ans_need] at h2
    obtain ⟨_, hkk, h2⟩ := h2
    simp only [Bool.and_eq_true, beq_iff_eq] at hkk
    obtain ⟨rfl, rfl⟩ := hkk
    simp only [ans_ob] at h2
    split at h2
    · rename_i ents hb
      obtain ⟨b, hm, he⟩ := h3.2.2 _ hb
      obtain ⟨_, hO, _, _⟩ := R.ob _ _ hb
      obtain ⟨rfl, b2, es, clock, hm2, hw, hents, hsc⟩ := hO
      have hbb : b2 = b := Option.some.inj (hm2.symm.trans hm)
      subst hbb
      have hfind : ∀ (es : List MapEntry) (ents : List (Int × Value)) (q : Nat), es.map (fun e => (e.key, e.val)) = ents.map (fun x => (Value.int .i64 x.1, x.2)) →
          ∃ r, Instr.findNow (.int .i64) (.int .i64 n) es q = some r ∧ r.map (·.2) = entLook n ents := by
        intro es
        induction es with
        | nil => intro ents q hh; have : ents = [] := by cases ents <;> simp at hh ⊢
                 subst this; exact ⟨none, rfl, rfl⟩
        | cons e es ih =>
          intro ents q hh
          match ents, hh with
          | (k0, v0) :: ents, hh =>
            simp only [List.map_cons, List.cons.injEq, Prod.mk.injEq] at hh
            obtain ⟨⟨hk0, hv0⟩, hh⟩ := hh
            simp only [Instr.findNow, hk0, Instr.sameNow, if_true, entLook]
            cases hnk : n == k0 with
            | true => exact ⟨_, rfl, by simp [hv0]⟩
            | false => exact ih ents (q + 1) hh
      obtain ⟨r, hr, hr2⟩ := hfind es.toList ents 0 hents
      have hrun : (execOp a.eval o).run P w = .ok (.value ((entLook n ents).getD z)) w := by
        have hg : (getObj b2).run P w = .ok (.map es clock) w := by simp [getObj, Sem.run, hw]
        have hck : ∀ (em : Bool), (Instr.checkKey em 10000 k (.int .i64 n)).run P w = .ok () w := by
          intro em
          rw [show (10000 : Nat) = 9999 + 1 from rfl, Instr.checkKey, run_bind, run_underlying hk]
          rfl
        simp only [execOp, ho, Instr.lookup, run_bind, run_underlying hu, he, hn, run_pure, hg, hck, Instr.findKey, run_underlying hk, hr]
        cases r with
        | none => simp only [Option.map_none] at hr2; simp [← hr2, run_bind, run_zeroValue hie hz, run_pure]
        | some q => simp only [Option.map_some] at hr2; simp [← hr2, run_pure]
      split at h2
      · rename_i q hq
        simp only [ans_ret, Prod.mk.injEq] at h2
        obtain ⟨rfl, rfl⟩ := h2
        rw [hq] at hrun
        have hsq : scal q = true := by
          have : ∀ (ents : List (Int × Value)), ents.all (fun x => scal x.2) = true → entLook n ents = some q → scal q = true := by
            intro ents
            induction ents with
            | nil => intro _ h; simp [entLook] at h
            | cons x ents ih =>
              intro h1 h2
              simp only [List.all_cons, Bool.and_eq_true] at h1
              obtain ⟨k0, v0⟩ := x
              simp only [entLook] at h2
              cases hnk : n == k0 with
              | true => rw [hnk] at h2; simp at h2; rw [← h2]; exact h1.1
              | false => rw [hnk] at h2; exact ih h1.2 h2
          exact this ents hsc hq
        exact did_val hrun (aft_pure R hfr (avr_lit_mk _ hsq) froz_nil)
      · rename_i hq
        simp only [ans_ret, Prod.mk.injEq] at h2
        obtain ⟨rfl, rfl⟩ := h2
        rw [hq] at hrun
        exact did_val hrun (aft_pure R hfr (avr_lit_mk _ hsz) froz_nil)
    · exact h2.elim
  · exact h2.elim
end
end Go.Den
end
section
namespace Go.Den
open Go
set_option linter.unusedSimpArgs false
set_option linter.unusedVariables false
structure Chg (S : Nat → Prop) (w w' : World) : Prop where
  os : w'.os = w.os
  tape : w'.tape = w.tape
  output : w'.output = w.output
  size : w.heap.size ≤ w'.heap.size
  block : ∀ b, b < w.heap.size → ¬ S b → w'.heap[b]? = w.heap[b]?
theorem Chg.refl (S : Nat → Prop) (w : World) : Chg S w w := ⟨rfl, rfl, rfl, Nat.le_refl _, fun _ _ _ => rfl⟩
theorem Chg.trans {S : Nat → Prop} {w w' w'' : World} (h : Chg S w w') (h' : Chg S w' w'') : Chg S w w'' :=
  ⟨h'.os.trans h.os, h'.tape.trans h.tape, h'.output.trans h.output, Nat.le_trans h.size h'.size, fun b hb hs => (h'.block b (Nat.lt_of_lt_of_le hb h.size) hs).trans (h.block b hb hs)⟩
theorem Chg.alloc (S : Nat → Prop) (w : World) (o : Obj) : Chg S w { w with heap := w.heap.push o } :=
  ⟨rfl, rfl, rfl, by simp, fun b hb _ => by simp [Array.getElem?_push]; intro h; omega⟩
section
variable {P : Program} {w0 w w' : World} {rs : List Nat} {cs : Cs} {m m' : Gm} {cl cl' : Nat → List Nat} {fr fr' : Nat → Prop} {st st' : St} {tmps : Array Value} {S : Nat → Prop}
theorem Froz.turn (hC : Chg S w w') (G : (st.mp m fr).Goes (st'.mp m' fr') w w')
    (hpm : ∀ id, ¬ fr id → st'.ob id ≠ none → st'.pm id = false → st.pm id = false)
    (hnew : ∀ id b, fr id → st'.ob id ≠ none → m' id = some b → w.heap.size ≤ b ∨ ∃ id0, st.ob id0 ≠ none ∧ st.pm id0 = false ∧ m id0 = some b)
    {fs : List Nat} (h : Froz m st w fs) : Froz m' st' w' fs := by
  intro b hb
  obtain ⟨h1, h2⟩ := h b hb
  refine ⟨⟨Nat.lt_of_lt_of_le h1.1 hC.size, by have := G.bad; simp only [St.mp] at this; rw [this]; exact h1.2⟩, fun id hl hp hm => ?_⟩
  have h1 := h1.1
  by_cases hf : fr id
  · rcases hnew id b hf hl hm with h3 | ⟨id0, h3, h4, h5⟩
    · omega
    · exact h2 id0 h3 h4 h5
  · obtain ⟨o', ho'⟩ := Option.ne_none_iff_exists'.1 hl
    obtain ⟨o, h3, _, h4⟩ := G.ob id o' hf ho'
    exact h2 id (by simp [St.mp] at h3; simp [h3]) (hpm id hf hl hp) (h4.symm.trans hm)
theorem Rel.turn (R : Rel w0 rs cs m cl fr st tmps w) (htm : st'.tm = st.tm) (hC : Chg S w w') (hS : ∀ b, S b → ∃ id, st.ob id ≠ none ∧ st.pm id = false ∧ m id = some b)
    (G : (st.mp m fr).Goes (st'.mp m' fr') w w')
    (hpm : ∀ id, ¬ fr id → st'.ob id ≠ none → st'.pm id = false → st.pm id = false)
    (hnew : ∀ id b, fr id → st'.ob id ≠ none → m' id = some b → w.heap.size ≤ b ∨ ∃ id0, st.ob id0 ≠ none ∧ st.pm id0 = false ∧ m id0 = some b)
    (hob : ∀ id o', st'.ob id = some o' → (st.ob id = some o' ∧ ¬ fr id ∧ (∀ b, m id = some b → ¬ S b) ∧ (deepO o' = true → st'.pm id = false → cl' id = cl id)) ∨
      ∃ fs, OBR (st'.mp m' fr') w' id o' fs ∧ Froz m' st' w' fs ∧ (deepO o' = true → st'.pm id = false → fs = cl' id))
    (inj : ∀ id id' b, st'.ob id ≠ none → st'.ob id' ≠ none → m' id = some b → m' id' = some b → id = id')
    (mine : ∀ id b, st'.ob id ≠ none → m' id = some b → b < w'.heap.size ∧ (b ∈ rs ∨ w0.heap.size ≤ b))
    (cl1 : ∀ id o, st'.ob id = some o → deepO o = true → st'.pm id = false → (cl' id).Nodup ∧ ∀ b ∈ cl' id, b ∈ rs ∨ b ∈ cs ∨ w0.heap.size ≤ b)
    (cl2 : ∀ id id' o o', st'.ob id = some o → st'.ob id' = some o' → deepO o = true → deepO o' = true → st'.pm id = false → st'.pm id' = false → id ≠ id' → ∀ b ∈ cl' id, b ∉ cl' id')
    (hfr : ∀ id, fr' id → st'.ob id = none ∧ st'.pm id = false) : Rel w0 rs cs m' cl' fr' st' tmps w' := by
  have hF : ∀ {fs : List Nat}, Froz m st w fs → Froz m' st' w' fs := fun h => Froz.turn hC G hpm hnew h
  have hsame : ∀ {fs : List Nat}, Froz m st w fs → ∀ b ∈ fs, w'.heap[b]? = w.heap[b]? := by
    intro fs h b hb
    obtain ⟨h1, h2⟩ := h b hb
    refine hC.block b h1.1 (fun hs => ?_)
    obtain ⟨id, h3, h4, h5⟩ := hS b hs
    exact h2 id h3 h4 h5
  constructor
  · refine ⟨hC.os.trans R.fram.os, hC.tape.trans R.fram.tape, hC.output.trans R.fram.output, Nat.le_trans R.fram.size hC.size, fun b hb hr => ?_⟩
    refine (hC.block b (Nat.lt_of_lt_of_le hb R.fram.size) (fun hs => ?_)).trans (R.fram.block b hb hr)
    obtain ⟨id, h3, h4, h5⟩ := hS b hs
    rcases (R.mine id b h3 h5).2 with h | h
    · exact hr h
    · omega
  · intro t
    obtain ⟨fs, h1, h2⟩ := R.tm t
    rw [htm]
    exact ⟨fs, h1.goes G (hsame h2), hF h2⟩
  · intro id o' ho'
    rcases hob id o' ho' with ⟨h1, h2, h3, h4⟩ | h
    · obtain ⟨fs, e1, e2, e3⟩ := R.ob id o' h1
      obtain ⟨o2, h5, _, h6⟩ := G.ob id o' h2 ho'
      refine ⟨fs, e1.goes G h6 (fun b hb => ?_) (hsame e2), hF e2, fun hd hp => ?_⟩
      · exact hC.block b (R.mine id b (by simp [h1]) hb).1 (h3 b hb)
      · rw [h4 hd hp]; exact e3 hd (hpm id h2 (by simp [ho']) hp)
    · exact h
  · exact inj
  · exact mine
  · exact cl1
  · exact cl2
  · exact hfr
  · have := G.bad; simp only [St.mp] at this; rw [this]; exact R.bad
  · have := G.bad; simp only [St.mp] at this; rw [this]; exact R.badEq
theorem upd_ob_same (st : St) (id : Nat) (o : Option AObj) : (st.upd (.ob id o)).ob id = o := by
  have : Nat.beq id id = true := Nat.beq_refl id
  simp [St.upd, this]
theorem upd_ob_other (st : St) {id i : Nat} (o : Option AObj) (h : i ≠ id) : (st.upd (.ob id o)).ob i = st.ob i := by
  have : Nat.beq i id = false := by
    cases hb : Nat.beq i id with
    | false => rfl
    | true => exact (h (Nat.eq_of_beq_eq_true hb)).elim
  simp [St.upd, this]
theorem upd_seal_same (st : St) (id : Nat) : (st.upd (.wax id)).pm id = true := by
  have : Nat.beq id id = true := Nat.beq_refl id
  simp [St.upd, this]
theorem upd_seal_other (st : St) {id i : Nat} (h : i ≠ id) : (st.upd (.wax id)).pm i = st.pm i := by
  have : Nat.beq i id = false := by
    cases hb : Nat.beq i id with
    | false => rfl
    | true => exact (h (Nat.eq_of_beq_eq_true hb)).elim
  simp [St.upd, this]
theorem Rel.drawn (R : Rel w0 rs cs m cl fr st tmps w) (hC : Chg (fun _ => False) w w') : Rel w0 rs cs m cl fr st tmps w' := by
  have G : (st.mp m fr).Goes (st.mp m fr) w w' := ⟨fun _ h => h, fun id o' _ ho => ⟨o', ho, shape_refl o', rfl⟩, fun id b _ hl hm _ => by
    have := hC.block b (R.mine id b (arr_live hl) hm).1 (fun h => h)
    simp [World.bsz, this], rfl⟩
  refine R.turn rfl hC (fun b h => h.elim) G (fun _ _ _ h => h) (fun id b hf hl _ => (hl (R.fr id hf).1).elim)
    (fun id o ho => .inl ⟨ho, fun hf => (by have := (R.fr id hf).1; rw [ho] at this; cases this), fun _ _ h => h, fun _ _ => rfl⟩) R.inj (fun id b hl hm => ?_) R.cl1 R.cl2 R.fr
  exact ⟨Nat.lt_of_lt_of_le (R.mine id b hl hm).1 hC.size, (R.mine id b hl hm).2⟩
theorem Rel.sealed (R : Rel w0 rs cs m cl fr st tmps w) {id : Nat} (hid : ¬ fr id) : Rel w0 rs cs m cl fr (st.upd (.wax id)) tmps w := by
  have G : (st.mp m fr).Goes ((st.upd (.wax id)).mp m fr) w w := ⟨fun _ h => h, fun id o' _ ho => ⟨o', ho, shape_refl o', rfl⟩, fun _ _ _ _ _ _ => Nat.le_refl _, rfl⟩
  have hp : ∀ i, (st.upd (.wax id)).pm i = false → st.pm i = false := by
    intro i hi
    by_cases h : i = id
    · subst h; rw [upd_seal_same] at hi; cases hi
    · rwa [upd_seal_other _ h] at hi
  refine R.turn (S := fun _ => False) rfl (Chg.refl _ _) (fun b h => h.elim) G (fun i _ _ h => hp i h) (fun i b hf hl _ => (hl (R.fr i hf).1).elim)
    (fun i o ho => .inl ⟨ho, fun hf => (by have := (R.fr i hf).1; rw [show st.ob i = some o from ho] at this; cases this), fun _ _ h => h, fun _ _ => rfl⟩) R.inj R.mine
    (fun i o ho hd hpi => R.cl1 i o ho hd (hp i hpi)) (fun i i' o o' h1 h2 h3 h4 h5 h6 => R.cl2 i i' o o' h1 h2 h3 h4 (hp i h5) (hp i' h6)) (fun i hf => ?_)
  refine ⟨(R.fr i hf).1, ?_⟩
  rw [upd_seal_other _ (fun e : i = id => hid (e ▸ hf))]
  exact (R.fr i hf).2
theorem Rel.sealedAll : ∀ {s : List Nat} {st : St}, Rel w0 rs cs m cl fr st tmps w → (∀ id ∈ s, ¬ fr id) → Rel w0 rs cs m cl fr (st.upds (sealU s)) tmps w
  | [], st, R, _ => R
  | id :: s, st, R, h => Rel.sealedAll (s := s) (R.sealed (h id (by simp))) (fun i hi => h i (by simp [hi]))
theorem Rel.killed (R : Rel w0 rs cs m cl fr st tmps w) (id : Nat) : Rel w0 rs cs m cl fr (st.upd (.ob id none)) tmps w := by
  have hl : ∀ i o, (st.upd (.ob id none)).ob i = some o → st.ob i = some o ∧ i ≠ id := by
    intro i o h
    by_cases hi : i = id
    · subst hi; rw [upd_ob_same] at h; cases h
    · rw [upd_ob_other _ _ hi] at h; exact ⟨h, hi⟩
  have hl' : ∀ i, (st.upd (.ob id none)).ob i ≠ none → st.ob i ≠ none := by
    intro i h
    obtain ⟨o, ho⟩ := Option.ne_none_iff_exists'.1 h
    simp [(hl i o ho).1]
  have G : (st.mp m fr).Goes ((st.upd (.ob id none)).mp m fr) w w := ⟨fun _ h => h, fun i o' _ ho => ⟨o', (hl i o' ho).1, shape_refl o', rfl⟩, fun _ _ _ _ _ _ => Nat.le_refl _, rfl⟩
  refine R.turn (S := fun _ => False) rfl (Chg.refl _ _) (fun b h => h.elim) G (fun i _ _ h => h) (fun i b hf hli _ => (hl' i hli (R.fr i hf).1).elim)
    (fun i o ho => .inl ⟨(hl i o ho).1, fun hf => (by have := (R.fr i hf).1; rw [(hl i o ho).1] at this; cases this), fun _ _ h => h, fun _ _ => rfl⟩)
    (fun i i' b h1 h2 => R.inj i i' b (hl' i h1) (hl' i' h2)) (fun i b h => R.mine i b (hl' i h))
    (fun i o ho hd hpi => R.cl1 i o (hl i o ho).1 hd hpi) (fun i i' o o' h1 h2 h3 h4 h5 h6 => R.cl2 i i' o o' (hl i o h1).1 (hl i' o' h2).1 h3 h4 h5 h6) (fun i hf => ?_)
  by_cases hi : i = id
  · subst hi; exact ⟨upd_ob_same _ _ _, (R.fr i hf).2⟩
  · rw [upd_ob_other _ _ hi]; exact R.fr i hf
end
end Go.Den
end
section
namespace Go.Den
open Go
set_option linter.unusedSimpArgs false
set_option linter.unusedVariables false
section
variable {P : Program} {w0 w w' : World} {rs : List Nat} {cs : Cs} {m m' : Gm} {cl cl' : Nat → List Nat} {fr fr' : Nat → Prop} {st st' : St} {tmps : Array Value} {S : Nat → Prop}
def setM (m : Gm) (id : Nat) (b : Option Nat) : Gm := ⟨fun i => if i = id then b else m i, m.bad⟩
def setC (cl : Nat → List Nat) (id : Nat) (f : List Nat) : Nat → List Nat := fun i => if i = id then f else cl i
def lessF (fr : Nat → Prop) (id : Nat) : Nat → Prop := fun i => fr i ∧ i ≠ id
theorem bsz_of {w w' : World} {b : Nat} (h : w'.heap[b]? = w.heap[b]?) : World.bsz w' b = World.bsz w b := by simp [World.bsz, h]
theorem not_fr (R : Rel w0 rs cs m cl fr st tmps w) {id : Nat} (h : st.ob id ≠ none) : ¬ fr id := fun hf => h (R.fr id hf).1
theorem goes_made (R : Rel w0 rs cs m cl fr st tmps w) {id : Nat} (hid : fr id) (o : Option AObj) (bk : Option Nat) (hC : Chg (fun _ => False) w w') :
    (st.mp m fr).Goes ((st.upd (.ob id o)).mp (setM m id bk) (lessF fr id)) w w' := by
  refine ⟨fun i h => h.1, fun i o' hf ho => ?_, fun i b _ hl hm _ => ?_, rfl⟩
  · have hi : i ≠ id := fun e => hf (e ▸ hid)
    refine ⟨o', ?_, shape_refl o', by simp [St.mp, setM, hi]⟩
    simpa [St.mp, upd_ob_other _ _ hi] using ho
  · exact Nat.le_of_eq (bsz_of (hC.block b (R.mine i b (arr_live hl) hm).1 (fun h => h))).symm
theorem froz_made (R : Rel w0 rs cs m cl fr st tmps w) {id : Nat} (hid : fr id) (o : Option AObj) (bk : Option Nat) (hC : Chg (fun _ => False) w w') (hbk : ∀ b, bk = some b → w.heap.size ≤ b ∧ b < w'.heap.size)
    {fs : List Nat} (h : Froz m st w fs) : Froz (setM m id bk) (st.upd (.ob id o)) w' fs := by
  refine Froz.turn hC (goes_made R hid o bk hC) (fun i hf hl hp => hp) (fun i b hf hl hm => ?_) h
  by_cases hi : i = id
  · subst hi; simp [setM] at hm; exact .inl (hbk b hm).1
  · rw [upd_ob_other _ _ hi] at hl; exact (hl (R.fr i hf).1).elim
theorem Rel.made (R : Rel w0 rs cs m cl fr st tmps w) {id : Nat} (hid : fr id) (o : AObj) (bk : Option Nat) (hC : Chg (fun _ => False) w w') (hbk : ∀ b, bk = some b → w.heap.size ≤ b ∧ b < w'.heap.size)
    {fs : List Nat} (hO : OBR ((st.upd (.ob id (some o))).mp (setM m id bk) (lessF fr id)) w' id o fs) (hF : Froz (setM m id bk) (st.upd (.ob id (some o))) w' fs)
    (hd : deepO o = true → fs.Nodup ∧ (∀ b ∈ fs, b ∈ rs ∨ b ∈ cs ∨ w0.heap.size ≤ b) ∧ ∀ i o', st.ob i = some o' → deepO o' = true → st.pm i = false → ∀ b ∈ fs, b ∉ cl i) :
    Rel w0 rs cs (setM m id bk) (setC cl id fs) (lessF fr id) (st.upd (.ob id (some o))) tmps w' := by
  have hl : ∀ i, i ≠ id → (st.upd (.ob id (some o))).ob i = st.ob i := fun i hi => upd_ob_other _ _ hi
  have hlt : ∀ i b, st.ob i ≠ none → m i = some b → b < w.heap.size := fun i b h1 h2 => (R.mine i b h1 h2).1
  refine R.turn (S := fun _ => False) rfl hC (fun b h => h.elim) (goes_made R hid (some o) bk hC) (fun i hf hl hp => hp) (fun i b hf hl' hm => ?_) (fun i o' ho => ?_) ?_ ?_ ?_ ?_ ?_
  · by_cases hi : i = id
    · subst hi; simp [setM] at hm; exact .inl (hbk b hm).1
    · rw [hl i hi] at hl'; exact (hl' (R.fr i hf).1).elim
  · by_cases hi : i = id
    · subst hi
      rw [upd_ob_same] at ho
      cases ho
      exact .inr ⟨fs, hO, hF, fun _ _ => by simp [setC]⟩
    · rw [hl i hi] at ho
      exact .inl ⟨ho, not_fr R (by simp [ho]), fun _ _ h => h, fun _ _ => by simp [setC, hi]⟩
  · intro i i' b h1 h2 h3 h4
    by_cases hi : i = id
    · by_cases hi' : i' = id
      · rw [hi, hi']
      · exfalso
        subst hi
        simp [setM] at h3
        simp [setM, hi'] at h4
        rw [hl i' hi'] at h2
        have := hlt i' b h2 h4
        have := (hbk b h3).1
        omega
    · by_cases hi' : i' = id
      · exfalso
        subst hi'
        simp [setM] at h4
        simp [setM, hi] at h3
        rw [hl i hi] at h1
        have := hlt i b h1 h3
        have := (hbk b h4).1
        omega
      · simp [setM, hi] at h3
        simp [setM, hi'] at h4
        rw [hl i hi] at h1
        rw [hl i' hi'] at h2
        exact R.inj i i' b h1 h2 h3 h4
  · intro i b h1 h2
    by_cases hi : i = id
    · subst hi
      simp [setM] at h2
      exact ⟨(hbk b h2).2, .inr (Nat.le_trans R.fram.size (hbk b h2).1)⟩
    · simp [setM, hi] at h2
      rw [hl i hi] at h1
      exact ⟨Nat.lt_of_lt_of_le (hlt i b h1 h2) hC.size, (R.mine i b h1 h2).2⟩
  · intro i o' h1 h2 h3
    by_cases hi : i = id
    · subst hi
      rw [upd_ob_same] at h1
      cases h1
      simp only [setC, if_true]
      exact ⟨(hd h2).1, (hd h2).2.1⟩
    · rw [hl i hi] at h1
      simp only [setC, if_neg hi]
      exact R.cl1 i o' h1 h2 h3
  · intro i i' o1 o2 h1 h2 h3 h4 h5 h6 hne b hb
    by_cases hi : i = id
    · have hi' : i' ≠ id := fun e => hne (hi.trans e.symm)
      subst hi
      rw [upd_ob_same] at h1
      cases h1
      rw [hl i' hi'] at h2
      simp only [setC, if_true] at hb
      simp only [setC, if_neg hi']
      exact (hd h3).2.2 i' o2 h2 h4 h6 b hb
    · rw [hl i hi] at h1
      simp only [setC, if_neg hi] at hb
      by_cases hi' : i' = id
      · subst hi'
        rw [upd_ob_same] at h2
        cases h2
        simp only [setC, if_true]
        intro hb2
        exact (hd h4).2.2 i o1 h1 h3 h5 b hb2 hb
      · rw [hl i' hi'] at h2
        simp only [setC, if_neg hi']
        exact R.cl2 i i' o1 o2 h1 h2 h3 h4 h5 h6 hne b hb
  · intro i hf
    rw [hl i hf.2]
    exact R.fr i hf.1
theorem setM_self (m : Gm) (id : Nat) : setM m id (m id) = m := by
  cases m with
  | mk f bad =>
    simp only [setM, Gm.mk.injEq, and_true]
    funext i; split
    · rename_i h; rw [h]
    · rfl
theorem goes_put (R : Rel w0 rs cs m cl fr st tmps w) {id : Nat} {o o' : AObj} (ho : st.ob id = some o) (hs : shape o o') (hC : Chg (fun b => m id = some b) w w')
    (hbz : ∀ b, m id = some b → World.bsz w b ≤ World.bsz w' b) : (st.mp m fr).Goes ((st.upd (.ob id (some o'))).mp m fr) w w' := by
  refine ⟨fun i h => h, fun i o2 hf ho2 => ?_, fun i b _ hl hm _ => ?_, rfl⟩
  · by_cases hi : i = id
    · subst hi
      simp only [St.mp, upd_ob_same] at ho2
      cases ho2
      exact ⟨o, ho, hs, rfl⟩
    · simp only [St.mp, upd_ob_other _ _ hi] at ho2
      exact ⟨o2, ho2, shape_refl o2, rfl⟩
  · by_cases hb : m id = some b
    · exact hbz b hb
    · exact Nat.le_of_eq (bsz_of (hC.block b (R.mine i b (arr_live hl) hm).1 hb)).symm
theorem froz_put (R : Rel w0 rs cs m cl fr st tmps w) {id : Nat} {o o' : AObj} (ho : st.ob id = some o) (hs : shape o o') (hC : Chg (fun b => m id = some b) w w')
    (hbz : ∀ b, m id = some b → World.bsz w b ≤ World.bsz w' b) {fs : List Nat} (h : Froz m st w fs) : Froz m (st.upd (.ob id (some o'))) w' fs := by
  refine Froz.turn hC (goes_put R ho hs hC hbz) (fun i hf hl hp => hp) (fun i b hf hl hm => ?_) h
  by_cases hi : i = id
  · subst hi; exact (not_fr R (by simp [ho]) hf).elim
  · rw [upd_ob_other _ _ hi] at hl; exact (hl (R.fr i hf).1).elim
theorem Rel.put (R : Rel w0 rs cs m cl fr st tmps w) {id : Nat} {o o' : AObj} (ho : st.ob id = some o) (hp : st.pm id = false) (hs : shape o o') (hC : Chg (fun b => m id = some b) w w')
    (hbz : ∀ b, m id = some b → World.bsz w b ≤ World.bsz w' b)
    {fs : List Nat} (hO : OBR ((st.upd (.ob id (some o'))).mp m fr) w' id o' fs) (hF : Froz m (st.upd (.ob id (some o'))) w' fs)
    (hd : deepO o' = true → fs.Nodup ∧ (∀ b ∈ fs, b ∈ rs ∨ b ∈ cs ∨ w0.heap.size ≤ b) ∧ ∀ i o2, i ≠ id → st.ob i = some o2 → deepO o2 = true → st.pm i = false → ∀ b ∈ fs, b ∉ cl i) :
    Rel w0 rs cs m (setC cl id fs) fr (st.upd (.ob id (some o'))) tmps w' := by
  have hl : ∀ i, i ≠ id → (st.upd (.ob id (some o'))).ob i = st.ob i := fun i hi => upd_ob_other _ _ hi
  have hne : ∀ i, (st.upd (.ob id (some o'))).ob i ≠ none → st.ob i ≠ none := by
    intro i h
    by_cases hi : i = id
    · subst hi; simp [ho]
    · rwa [hl i hi] at h
  refine R.turn rfl hC (fun b h => ⟨id, by simp [ho], hp, h⟩) (goes_put R ho hs hC hbz) (fun i hf hl hp => hp) (fun i b hf hl' hm => ?_) (fun i o2 ho2 => ?_) (fun i i' b h1 h2 => R.inj i i' b (hne i h1) (hne i' h2)) (fun i b h1 h2 => ?_) ?_ ?_ ?_
  · exact (hne i hl' (R.fr i hf).1).elim
  · by_cases hi : i = id
    · subst hi
      rw [upd_ob_same] at ho2
      cases ho2
      exact .inr ⟨fs, hO, hF, fun _ _ => by simp [setC]⟩
    · rw [hl i hi] at ho2
      exact .inl ⟨ho2, not_fr R (by simp [ho2]), fun b hb hb2 => hi (R.inj i id b (by simp [ho2]) (by simp [ho]) hb hb2), fun _ _ => by simp [setC, hi]⟩
  · exact ⟨Nat.lt_of_lt_of_le (R.mine i b (hne i h1) h2).1 hC.size, (R.mine i b (hne i h1) h2).2⟩
  · intro i o2 h1 h2 h3
    by_cases hi : i = id
    · subst hi
      rw [upd_ob_same] at h1
      cases h1
      simp only [setC, if_true]
      exact ⟨(hd h2).1, (hd h2).2.1⟩
    · rw [hl i hi] at h1
      simp only [setC, if_neg hi]
      exact R.cl1 i o2 h1 h2 h3
  · intro i i' o1 o2 h1 h2 h3 h4 h5 h6 hne' b hb
    by_cases hi : i = id
    · have hi' : i' ≠ id := fun e => hne' (hi.trans e.symm)
      subst hi
      rw [upd_ob_same] at h1
      cases h1
      rw [hl i' hi'] at h2
      simp only [setC, if_true] at hb
      simp only [setC, if_neg hi']
      exact (hd h3).2.2 i' o2 hi' h2 h4 h6 b hb
    · rw [hl i hi] at h1
      simp only [setC, if_neg hi] at hb
      by_cases hi' : i' = id
      · subst hi'
        rw [upd_ob_same] at h2
        cases h2
        simp only [setC, if_true]
        intro hb2
        exact (hd h4).2.2 i o1 hi h1 h3 h5 b hb2 hb
      · rw [hl i' hi'] at h2
        simp only [setC, if_neg hi']
        exact R.cl2 i i' o1 o2 h1 h2 h3 h4 h5 h6 hne' b hb
  · intro i hf
    have hi : i ≠ id := fun e => not_fr R (by simp [ho]) (e ▸ hf)
    rw [hl i hi]
    exact R.fr i hf
end
end Go.Den
end
section
namespace Go.Den
open Go
set_option linter.unusedSimpArgs false
set_option linter.unusedVariables false
theorem shape_trans {a b c : AObj} (h : shape a b) (h' : shape b c) : shape a c := by
  cases a <;> cases b <;> cases c <;> simp_all [shape]
theorem Mp.Goes.trans {M M' M'' : Mp} {w w' w'' : World} (h : M.Goes M' w w') (h' : M'.Goes M'' w' w'') : M.Goes M'' w w'' := by
  refine ⟨fun id hf => h.fr id (h'.fr id hf), fun id o'' hf ho => ?_, fun id b hf h1 h2 h3 => ?_, h'.bad.trans h.bad⟩
  · have hf' : ¬ M'.fr id := fun hh => hf (h.fr id hh)
    obtain ⟨o', e1, e2, e3⟩ := h'.ob id o'' hf' ho
    obtain ⟨o, e4, e5, e6⟩ := h.ob id o' hf e1
    exact ⟨o, e4, shape_trans e5 e2, e3.trans e6⟩
  · have hf' : ¬ M'.fr id := fun hh => hf (h.fr id hh)
    obtain ⟨o'', ho''⟩ := Option.ne_none_iff_exists'.1 h3
    obtain ⟨o', e1, _, _⟩ := h'.ob id o'' hf' ho''
    obtain ⟨o, e4, e5, e6⟩ := h.ob id o' hf e1
    refine Nat.le_trans (h.bsz id b hf h1 h2 (by simp [e1])) (h'.bsz id b hf' ?_ (e6.trans h2) h3)
    obtain ⟨k, d, els, h1⟩ := h1
    rw [h1] at e4
    cases e4
    cases o' with
    | arr k' d' els' => exact ⟨_, _, _, e1⟩
    | box => exact e5.elim
    | map => exact e5.elim
structure Ext (m : Gm) (st : St) (fr : Nat → Prop) (w : World) (m' : Gm) (st' : St) (fr' : Nat → Prop) (w' : World) : Prop where
  goes : (st.mp m fr).Goes (st'.mp m' fr') w w'
  froz : ∀ {fs : List Nat}, Froz m st w fs → Froz m' st' w' fs
  same : ∀ {fs : List Nat}, Froz m st w fs → ∀ b ∈ fs, w'.heap[b]? = w.heap[b]?
section
variable {P : Program} {w0 w w' w'' : World} {rs : List Nat} {cs : Cs} {m m' m'' : Gm} {cl cl' : Nat → List Nat} {fr fr' fr'' : Nat → Prop} {st st' st'' : St} {tmps : Array Value}
theorem Ext.refl : Ext m st fr w m st fr w := ⟨⟨fun _ h => h, fun _ o' _ ho => ⟨o', ho, shape_refl o', rfl⟩, fun _ _ _ _ _ _ => Nat.le_refl _, rfl⟩, fun h => h, fun _ _ _ => rfl⟩
theorem Ext.trans (h : Ext m st fr w m' st' fr' w') (h' : Ext m' st' fr' w' m'' st'' fr'' w'') : Ext m st fr w m'' st'' fr'' w'' :=
  ⟨h.goes.trans h'.goes, fun hf => h'.froz (h.froz hf), fun hf b hb => (h'.same (h.froz hf) b hb).trans (h.same hf b hb)⟩
theorem Ext.avr (h : Ext m st fr w m' st' fr' w') {x : AV} {v : Value} {fs : List Nat} (h1 : AVR (st.mp m fr) w x v fs) (h2 : Froz m st w fs) : AVR (st'.mp m' fr') w' x v fs := h1.goes h.goes (h.same h2)
theorem Ext.avl (h : Ext m st fr w m' st' fr' w') {x : List AV} {v : List Value} {fs : List Nat} (h1 : AVL (st.mp m fr) w x v fs) (h2 : Froz m st w fs) : AVL (st'.mp m' fr') w' x v fs := h1.goes h.goes (h.same h2)
theorem ext_made (R : Rel w0 rs cs m cl fr st tmps w) {id : Nat} (hid : fr id) (o : Option AObj) (bk : Option Nat) (hC : Chg (fun _ => False) w w') (hbk : ∀ b, bk = some b → w.heap.size ≤ b ∧ b < w'.heap.size) :
    Ext m st fr w (setM m id bk) (st.upd (.ob id o)) (lessF fr id) w' :=
  ⟨goes_made R hid o bk hC, fun h => froz_made R hid o bk hC hbk h, fun h b hb => hC.block b (h b hb).1.1 (fun h => h)⟩
theorem ext_put (R : Rel w0 rs cs m cl fr st tmps w) {id : Nat} {o o' : AObj} (ho : st.ob id = some o) (hp : st.pm id = false) (hs : shape o o') (hC : Chg (fun b => m id = some b) w w')
    (hbz : ∀ b, m id = some b → World.bsz w b ≤ World.bsz w' b) : Ext m st fr w m (st.upd (.ob id (some o'))) fr w' :=
  ⟨goes_put R ho hs hC hbz, fun h => froz_put R ho hs hC hbz h, fun h b hb => hC.block b (h b hb).1.1 (fun hm => (h b hb).2 id (by simp [ho]) hp hm)⟩
theorem ext_less (h : ∀ id, fr' id → fr id) : Ext m st fr w m st fr' w := ⟨goes_fr h w, fun h => h, fun _ _ _ => rfl⟩
theorem ext_seal (R : Rel w0 rs cs m cl fr st tmps w) {id : Nat} : Ext m st fr w m (st.upd (.wax id)) fr w := by
  refine ⟨⟨fun _ h => h, fun i o' _ ho => ⟨o', ho, shape_refl o', rfl⟩, fun _ _ _ _ _ _ => Nat.le_refl _, rfl⟩, fun h b hb => ⟨(h b hb).1, fun i hl hp hm => (h b hb).2 i hl ?_ hm⟩, fun _ _ _ => rfl⟩
  by_cases hi : i = id
  · subst hi; rw [upd_seal_same] at hp; cases hp
  · rwa [upd_seal_other _ hi] at hp
theorem ext_seals : ∀ {s : List Nat} {st : St}, Rel w0 rs cs m cl fr st tmps w → (∀ id ∈ s, ¬ fr id) → Ext m st fr w m (st.upds (sealU s)) fr w
  | [], st, R, _ => Ext.refl
  | id :: s, st, R, h => (ext_seal R).trans (ext_seals (s := s) (R.sealed (h id (by simp))) (fun i hi => h i (by simp [hi])))
theorem ext_kill (R : Rel w0 rs cs m cl fr st tmps w) (id : Nat) : Ext m st fr w m (st.upd (.ob id none)) fr w := by
  have hl : ∀ i o, (st.upd (.ob id none)).ob i = some o → st.ob i = some o := by
    intro i o h
    by_cases hi : i = id
    · subst hi; rw [upd_ob_same] at h; cases h
    · rwa [upd_ob_other _ _ hi] at h
  refine ⟨⟨fun _ h => h, fun i o' _ ho => ⟨o', hl i o' ho, shape_refl o', rfl⟩, fun _ _ _ _ _ _ => Nat.le_refl _, rfl⟩, fun h b hb => ⟨(h b hb).1, fun i hli hp hm => (h b hb).2 i ?_ hp hm⟩, fun _ _ _ => rfl⟩
  obtain ⟨o, ho⟩ := Option.ne_none_iff_exists'.1 hli
  simp [hl i o ho]
theorem upds_append (st : St) : ∀ (a b : List Upd), st.upds (a ++ b) = (st.upds a).upds b
  | [], b => rfl
  | u :: a, b => by simp only [List.cons_append, St.upds]; exact upds_append _ a b
theorem upds_tm : ∀ (us : List Upd) (st : St), (st.upds us).tm = st.tm
  | [], st => rfl
  | u :: us, st => by simp only [St.upds]; rw [upds_tm us]; cases u <;> rfl
def lessR (fr : Nat → Prop) (lo n : Nat) : Nat → Prop := fun i => fr i ∧ ¬ (lo ≤ i ∧ i < lo + n)
theorem lessR_zero (fr : Nat → Prop) (lo : Nat) : lessR fr lo 0 = fr := by
  funext i; simp [lessR]; try (intro _ h; omega)
theorem lessR_succ (fr : Nat → Prop) (lo n : Nat) : lessR (lessF fr lo) (lo + 1) n = lessR fr lo (n + 1) := by
  funext i; simp only [lessR, lessF, eq_iff_iff]; constructor
  · rintro ⟨⟨h1, h2⟩, h3⟩; exact ⟨h1, by omega⟩
  · rintro ⟨h1, h2⟩; exact ⟨⟨h1, by omega⟩, by omega⟩
theorem lessR_add (fr : Nat → Prop) (lo a b : Nat) : lessR (lessR fr lo a) (lo + a) b = lessR fr lo (a + b) := by
  funext i; simp only [lessR, eq_iff_iff]; constructor
  · rintro ⟨⟨h1, h2⟩, h3⟩; exact ⟨h1, by omega⟩
  · rintro ⟨h1, h2⟩; exact ⟨⟨h1, by omega⟩, by omega⟩
theorem Rel.madeNil (R : Rel w0 rs cs m cl fr st tmps w) {id : Nat} (hid : fr id) (k : Nat) : Rel w0 rs cs (setM m id none) (setC cl id []) (lessF fr id) (st.upd (.ob id (some (.arr k true [])))) tmps w :=
  R.made hid _ none (Chg.refl _ _) (fun b h => by cases h) (.inl ⟨rfl, by simp [St.mp, setM], rfl⟩) froz_nil (fun _ => ⟨by simp, by simp, by simp⟩)
theorem unNil_nil {E : Env} {nb c t : Nat} {vs : List AV} {ts : List Nat} : unNil E nb c (.nil :: vs) (t :: ts) = (do
    let ti ← tt E t
    match ti.tk with
    | .slice _ k _ =>
      let (vs', us) ← unNil E nb (c + 1) vs ts
      .ret (.aref (nb + c) true :: vs', .ob (nb + c) (some (.arr k true [])) :: us)
    | _ => .fail) := rfl
theorem unNil_ne {E : Env} {nb c t : Nat} {v : AV} {vs : List AV} {ts : List Nat} (h : v ≠ .nil) : unNil E nb c (v :: vs) (t :: ts) = (do
    need (isCell v)
    let (vs', us) ← unNil E nb (c + 1) vs ts
    .ret (v :: vs', us)) := by cases v <;> first | rfl | exact (h rfl).elim
theorem unNil_ok {E : Env} {st0 : St} {nb : Nat} : ∀ {vs : List AV} {ts : List Nat} {c : Nat} {r : List AV × List Upd} {m : Gm} {cl : Nat → List Nat} {fr : Nat → Prop} {st : St} {us : List Value} {fs : List Nat},
    Ans E st0 (unNil E nb c vs ts) r → Rel w0 rs cs m cl fr st tmps w → (∀ j, j < vs.length → fr (nb + c + j)) → AVL (st.mp m fr) w vs us fs → Froz m st w fs →
    ∃ m' cl', Rel w0 rs cs m' cl' (lessR fr (nb + c) vs.length) (st.upds r.2) tmps w ∧ AVL ((st.upds r.2).mp m' (lessR fr (nb + c) vs.length)) w r.1 us fs ∧ r.1.all isCell = true ∧
      Ext m st fr w m' (st.upds r.2) (lessR fr (nb + c) vs.length) w
  | [], ts, c, r, m, cl, fr, st, us, fs, h, R, hfr, hL, hF => by
    simp only [unNil, ans_ret] at h
    subst h
    refine ⟨m, cl, ?_, ?_, rfl, ?_⟩ <;> rw [List.length_nil, lessR_zero]
    · exact R
    · exact hL
    · exact Ext.refl
  | v :: vs, ts, c, r, m, cl, fr, st, us, fs, h, R, hfr, hL, hF => by
    simp only [AVL] at hL
    obtain ⟨u, us', f, g, rfl, h1, h2, rfl⟩ := hL
    have hFf : Froz m st w f := hF.sub (fun b hb => List.mem_append_left _ hb)
    have hFg : Froz m st w g := hF.sub (fun b hb => List.mem_append_right _ hb)
    have hid : fr (nb + c) := hfr 0 (by simp)
    obtain ⟨t, ts, rfl⟩ : ∃ t ts', ts = t :: ts' := by
      cases ts with
      | nil => exact absurd h (by cases v <;> simp [unNil])
      | cons t ts => exact ⟨t, ts, rfl⟩
    by_cases hv : v = .nil
    · subst hv
      rw [unNil_nil, ans_bind] at h
      obtain ⟨ti, ht, h⟩ := h
      split at h
      · rename_i e k eb hk
        simp only [ans_bind, ans_ret] at h
        obtain ⟨r', h3, rfl⟩ := h
        have R1 := R.madeNil hid k
        have X1 := ext_made R hid (some (.arr k true [])) none (Chg.refl _ w) (fun b h => by cases h)
        obtain ⟨m', cl', e1, e2, e3, e4⟩ := unNil_ok (fs := g) h3 R1 (fun j hj => ⟨by have := hfr (j + 1) (by simpa using hj); rwa [show nb + (c + 1) + j = nb + c + (j + 1) from by omega], by omega⟩) (X1.avl h2 hFg) (X1.froz hFg)
        have hl : lessR (lessF fr (nb + c)) (nb + (c + 1)) vs.length = lessR fr (nb + c) (AV.nil :: vs).length := by
          rw [← Nat.add_assoc, lessR_succ]; rfl
        rw [hl] at e1 e2 e4
        refine ⟨m', cl', e1, ?_, by simp only [List.all_cons, e3]; rfl, X1.trans e4⟩
        simp only [AVL]
        refine ⟨u, us', f, g, rfl, ?_, e2, rfl⟩
        simp only [AVR] at h1
        refine e4.avr (fs := f) ?_ (X1.froz hFf)
        simp only [AVR]
        refine ⟨⟨h1.2, by rw [h1.1]; rfl⟩, fun hh => hh.2 rfl, fun k' d els ho => ?_⟩
        simp only [St.mp, upd_ob_same] at ho
        cases ho
        exact ⟨none, 0, h1.1, Nat.le_refl _, fun _ => rfl, .inl ⟨rfl, rfl⟩⟩
      · exact h.elim
    · rw [unNil_ne hv] at h
      simp only [ans_bind, ans_need, ans_ret] at h
      obtain ⟨_, hc, r', h3, rfl⟩ := h
      obtain ⟨m', cl', e1, e2, e3, e4⟩ := unNil_ok (fs := g) h3 R (fun j hj => by have := hfr (j + 1) (by simpa using hj); rwa [show nb + (c + 1) + j = nb + c + (j + 1) from by omega]) h2 hFg
      have hle : ∀ i, lessR fr (nb + c) (v :: vs).length i → lessR fr (nb + (c + 1)) vs.length i := by
        intro i hi
        simp only [lessR, List.length_cons] at hi ⊢
        exact ⟨hi.1, by omega⟩
      have X2 := ext_less (m := m') (st := st.upds r'.2) (w := w) hle
      refine ⟨m', cl', e1.less hle, ?_, by simp [hc]; simpa using e3, e4.trans X2⟩
      simp only [AVL]
      exact ⟨u, us', f, g, rfl, (e4.trans X2).avr h1 hFf, X2.avl e2 (e4.froz hFg), rfl⟩
end
end Go.Den
end
section
namespace Go.Den
open Go
set_option linter.unusedSimpArgs false
set_option linter.unusedVariables false
section
variable {P : Program} {E : Env} {w0 w w' : World} {rs : List Nat} {cs : Cs} {m : Gm} {cl : Nat → List Nat} {fr fr' : Nat → Prop} {st : St} {tmps : Array Value}
variable {a : Act} {o : Oper} {nb : Nat} {v : AV} {us : List Upd}
variable (ET : ∀ t ti, E.tt t = some ti → ttOf P t = some ti)
def pushW (w : World) (o : Obj) : World := { w with heap := w.heap.push o }
theorem pushW_chg (w : World) (o : Obj) : Chg (fun _ => False) w (pushW w o) := Chg.alloc _ w o
theorem pushW_new (w : World) (o : Obj) : (pushW w o).heap[w.heap.size]? = some o := by
  show (w.heap.push o)[w.heap.size]? = some o
  rw [Array.getElem?_push_size]
theorem pushW_size (w : World) (o : Obj) : (pushW w o).heap.size = w.heap.size + 1 := by simp [pushW]
theorem run_newRow {e : Nat} {c : Array Value} : (newRow e c).run P w = .ok ⟨w.heap.size, 0, none⟩ (pushW w (.cells c e)) := by
  simp [newRow, newObj, run_bind, Sem.run, run_pure, pushW]
theorem madeBox (R : Rel w0 rs cs m cl fr st tmps w) {id : Nat} (hid : fr id) {ty e : Nat} {cells : List AV} {vs : List Value} {fs : List Nat} (hL : AVL (st.mp m fr) w cells vs fs) (hc : cells.all isCell = true) (hF : Froz m st w fs) :
    ∃ cl', Rel w0 rs cs (setM m id (some w.heap.size)) cl' (lessF fr id) (st.upd (.ob id (some (.box ty cells)))) tmps (pushW w (.cells ⟨vs⟩ e)) ∧
      Ext m st fr w (setM m id (some w.heap.size)) (st.upd (.ob id (some (.box ty cells)))) (lessF fr id) (pushW w (.cells ⟨vs⟩ e)) := by
  have hbk : ∀ b, some w.heap.size = some b → w.heap.size ≤ b ∧ b < (pushW w (.cells ⟨vs⟩ e)).heap.size := by
    intro b hb; cases hb; rw [pushW_size]; omega
  have X := ext_made R hid (some (.box ty cells)) (some w.heap.size) (pushW_chg w (.cells ⟨vs⟩ e)) hbk
  refine ⟨_, R.made hid _ (some w.heap.size) (pushW_chg w (.cells ⟨vs⟩ e)) hbk (fs := fs) ?_ (X.froz hF) (fun h => by cases h), X⟩
  exact ⟨w.heap.size, vs, e, by simp [St.mp, setM], pushW_new _ _, X.avl hL hF, hc⟩
theorem bref_made {st : St} {m : Gm} {fr : Nat → Prop} {id ty b : Nat} {cells : List AV} : AVR ((st.upd (.ob id (some (.box ty cells)))).mp (setM m id (some b)) (lessF fr id)) w' (.bref id 0) (.pointer (some ⟨b, 0, none⟩)) [] := by
  simp only [AVR]
  exact ⟨⟨trivial, rfl⟩, fun h => h.2 rfl, fun ty' cells' ho => ⟨b, by simp [St.mp, setM], rfl⟩⟩
theorem aft_box (R : Rel w0 rs cs m cl fr st tmps w) (hfr : ∀ id, fr' id → fr id ∧ (id < nb ∨ nb + 64 ≤ id)) (hnb : ∀ id, nb ≤ id → id < nb + 64 → fr id) {st0 : St} {ty : Nat} {vs : List AV} {uv : List Value} {ts : List Nat} {r : List AV × List Upd} {fs : List Nat}
    (h : Ans E st0 (unNil E nb 1 vs ts) r) (hlen : vs.length ≤ 60) (hL : AVL (st.mp m fr) w vs uv fs) (hF : Froz m st w fs) (e : Nat) :
    Aft w0 rs cs fr' (st.upds (r.2 ++ [.ob nb (some (.box ty r.1))])) tmps (.bref nb 0) (.pointer (some ⟨w.heap.size, 0, none⟩)) (pushW w (.cells ⟨uv⟩ e)) := by
  obtain ⟨m', cl', R1, hL1, hc1, X1⟩ := unNil_ok h R (fun j hj => hnb _ (by omega) (by omega)) hL hF
  have hid : lessR fr (nb + 1) vs.length nb := ⟨hnb nb (by omega) (by omega), by omega⟩
  obtain ⟨cl2, R2, X2⟩ := madeBox R1 hid (ty := ty) (e := e) hL1 hc1 (X1.froz hF)
  have hle : ∀ i, fr' i → lessF (lessR fr (nb + 1) vs.length) nb i := by
    intro i hi
    obtain ⟨h1, h2⟩ := hfr i hi
    exact ⟨⟨h1, by omega⟩, by omega⟩
  have R3 := R2.less hle
  rw [upds_append]
  exact ⟨_, cl2, R3, [], bref_made.goes (goes_fr hle _) (fun b hb => by cases hb), froz_nil⟩
include ET in
theorem ok_alloc (R : Rel w0 rs cs m cl fr st a.tmps w) (hfr : ∀ id, fr' id → fr id ∧ (id < nb ∨ nb + 64 ≤ id)) (hnb : ∀ id, nb ≤ id → id < nb + 64 → fr id) {t : Nat} (ho : o.op = .alloc t)
    (h : Ans E st (stepOp E nb o) (v, us)) : Did P o a.eval w (Aft w0 rs cs fr' (st.upds us) a.tmps v) := by
  simp only [stepOp, ho, ans_bind, ans_tt, ans_need, ans_ret, Prod.mk.injEq, Bool.and_eq_true] at h
  obtain ⟨ti, ht, _, ⟨hn, hz⟩, r, h1, rfl, rfl⟩ := h
  obtain ⟨i, z, d, hi, _, _, hzz, hzc, hu, _, _, _⟩ := (tok_of (ET t ti ht)).info
  obtain ⟨z1, _⟩ := zero_ok (M := st.mp m fr) (w := w) _ hz
  have hn' := Nat.le_of_ble_eq_true hn
  refine did_val (u := .pointer (some ⟨w.heap.size, 0, none⟩)) (w' := pushW w (.cells ⟨ti.zero⟩ t)) ?_ (aft_box R hfr hnb h1 (by simpa using hn') z1 froz_nil t)
  simp only [execOp, ho, Instr.alloc, run_bind, run_zeroValue hi hzz, newVar, run_newRow, run_pure]
  rw [← hzc]
theorem ok_box (R : Rel w0 rs cs m cl fr st a.tmps w) (hfr : ∀ id, fr' id → fr id ∧ (id < nb ∨ nb + 64 ≤ id)) (hnb : ∀ id, nb ≤ id → id < nb + 64 → fr id) {t : Nat} {x : Operand} (ho : o.op = .box t x)
    (h : Ans E st (stepOp E nb o) (v, us)) : Did P o a.eval w (Aft w0 rs cs fr' (st.upds us) a.tmps v) := by
  simp only [stepOp, ho, ans_bind, ans_tt, ans_need, ans_ret, Prod.mk.injEq, Bool.and_eq_true] at h
  obtain ⟨ti, ht, y, h0, _, ⟨⟨hs, hn⟩, hc⟩, r, h1, rfl, rfl⟩ := h
  obtain ⟨fs, h3, h4⟩ := opd_ok R h0
  have hL := cellsOf_ok h3 hc
  have hn' := Nat.le_of_ble_eq_true hn
  refine did_val (u := .pointer (some ⟨w.heap.size, 0, none⟩)) (w' := pushW w (.cells ⟨(a.eval x).cells.toList⟩ t)) ?_ (aft_box R hfr hnb h1 hn' hL h4 t)
  simp only [execOp, ho, Instr.box, newVar, run_bind, run_newRow, run_pure]
theorem ok_makeMap (R : Rel w0 rs cs m cl fr st a.tmps w) (hfr : ∀ id, fr' id → fr id ∧ (id < nb ∨ nb + 64 ≤ id)) (hnb : ∀ id, nb ≤ id → id < nb + 64 → fr id) {t : Nat} (ho : o.op = .makeMap t none)
    (h : Ans E st (stepOp E nb o) (v, us)) : Did P o a.eval w (Aft w0 rs cs fr' (st.upds us) a.tmps v) := by
  simp only [stepOp, ho, ans_bind, ans_tt] at h
  obtain ⟨ti, ht, h⟩ := h
  split at h
  · simp only [ans_ret, Prod.mk.injEq] at h
    obtain ⟨rfl, rfl⟩ := h
    have hid : fr nb := hnb nb (by omega) (by omega)
    have hbk : ∀ b, some w.heap.size = some b → w.heap.size ≤ b ∧ b < (pushW w (.map #[] 0)).heap.size := by
      intro b hb; cases hb; rw [pushW_size]; omega
    have R2 := R.made hid (.map []) (some w.heap.size) (pushW_chg w (.map #[] 0)) hbk (fs := []) ⟨rfl, w.heap.size, #[], 0, by simp [St.mp, setM], pushW_new _ _, rfl, rfl⟩ froz_nil (fun h => by cases h)
    have hle : ∀ i, fr' i → lessF fr nb i := fun i hi => by obtain ⟨h1, h2⟩ := hfr i hi; exact ⟨h1, by omega⟩
    refine did_val (u := .map (some w.heap.size)) (w' := pushW w (.map #[] 0)) ?_ ⟨_, _, R2.less hle, [], ?_, froz_nil⟩
    · simp [execOp, ho, Instr.makeMap, run_bind, run_pure, newObj, Sem.run, pushW]
    · refine AVR.goes (M := (st.upd (.ob nb (some (.map [])))).mp (setM m nb (some w.heap.size)) (lessF fr nb)) (goes_fr hle _) ?_ (fun b hb => by cases hb)
      simp only [AVR]
      exact ⟨⟨trivial, rfl⟩, fun h => h.2 rfl, fun ents ho' => ⟨w.heap.size, by simp [St.mp, setM], rfl⟩⟩
  · exact h.elim
end
end Go.Den
end
section
namespace Go.Den
open Go
set_option linter.unusedSimpArgs false
set_option linter.unusedVariables false
section
variable {P : Program} {E : Env} {w0 w w' : World} {rs : List Nat} {cs : Cs} {m : Gm} {cl : Nat → List Nat} {fr fr' : Nat → Prop} {st : St} {tmps : Array Value}
variable {a : Act} {o : Oper} {nb : Nat} {v : AV} {us : List Upd}
variable (ET : ∀ t ti, E.tt t = some ti → ttOf P t = some ti)
theorem setRow_chg {b : Nat} {c : Array Value} {S : Nat → Prop} (hS : S b) : Chg S w (w.setRow b c) :=
  ⟨rfl, rfl, rfl, by simp, fun k hk hs => setRow_other w b k c (fun e => hs (e ▸ hS))⟩
theorem setRow_twice (w : World) (b : Nat) (c d : Array Value) : (w.setRow b c).setRow b d = w.setRow b d := setRow_setRow w b c d
theorem setRow_self {b : Nat} {c : Array Value} {e : Nat} {f : Nat × Nat} (h : w.heap[b]? = some (.cells c e f)) : w.setRow b c = w := by
  have hlt : b < w.heap.size := (Array.getElem?_eq_some_iff.1 h).1
  have hv : w.heap[b] = .cells c e f := (Array.getElem?_eq_some_iff.1 h).2
  unfold World.setRow
  cases w with
  | mk heap tape drawn os output =>
    congr 1
    apply Array.ext
    · simp
    · intro k h1 h2
      simp only [Array.getElem_modify]
      split
      · rename_i hk; subst hk; simp at hv; simp [hv]
      · rfl
theorem run_storeCells {b : Nat} {e : Nat} : ∀ (vs : List Value) (off i : Nat) (c : Array Value) (w : World), w.heap[b]? = some (.cells c e (0, 0)) → off + i + vs.length ≤ c.size → (∀ v ∈ vs, v.oneCell' = true) →
    (storeCells ⟨b, off, none⟩ vs i).run P w = .ok () (w.setRow b ⟨splice c.toList (off + i) vs⟩)
  | [], off, i, c, w, hg, _, _ => by
    have : (⟨splice c.toList (off + i) []⟩ : Array Value) = c := by apply Array.ext'; simp [splice]
    rw [this, setRow_self hg]
    rfl
  | v :: vs, off, i, c, w, hg, hl, h1 => by
    have hi : off + i < c.size := by simp at hl; omega
    have hcell : w.cell? ⟨b, off + i, none⟩ = some c[off + i] := by simp [World.cell?, hg, hi]
    have hfro : w.frozen? ⟨b, off + i, none⟩ = false := by simp [World.frozen?, hg]
    have hst : (store ((⟨b, off, none⟩ : Addr).add i) v).run P w = .ok () (w.setRow b (c.setIfInBounds (off + i) v)) := by
      rw [add_none, Go.run_store P w _ v _ (h1 v (by simp)), hcell]
      simp only [hfro, Bool.false_eq_true, if_false]
      rw [setCell_eq_setRow w b (off + i) c e (0, 0) v hg]
    have hg' := setRow_heap w b c (c.setIfInBounds (off + i) v) e (0, 0) hg
    rw [storeCells, run_bind, hst]
    simp only []
    rw [run_storeCells vs off (i + 1) (c.setIfInBounds (off + i) v) _ hg' (by simp at hl ⊢; omega) (fun u hu => h1 u (by simp [hu])), setRow_setRow]
    congr 2
    apply Array.ext'
    have h3 : off + i < c.toList.length := by simpa using hi
    simp only [splice, Array.toList_setIfInBounds, ← Nat.add_assoc off i 1, List.length_cons]
    rw [List.take_set, List.drop_set, if_pos (by omega), List.take_succ_eq_append_getElem h3, List.set_append_right _ _ (by simp; omega)]
    have : (List.take (off + i) c.toList).length = off + i := by simp; omega
    rw [this]
    simp [Nat.add_assoc, Nat.add_comm 1]
theorem bsz_setRow {b : Nat} {c c' : Array Value} {e : Nat} {f : Nat × Nat} (h : w.heap[b]? = some (.cells c e f)) (hs : c'.size = c.size) : World.bsz (w.setRow b c') b = World.bsz w b := by
  simp [World.bsz, setRow_heap w b c c' e f h, h, hs]
theorem putBox (R : Rel w0 rs cs m cl fr st tmps w) {id ty : Nat} {cells ds : List AV} {us : List Value} {g : List Nat} {j : Nat} (ho : st.ob id = some (.box ty cells)) (hp : st.pm id = false)
    (hj : j + ds.length ≤ cells.length) (hL : AVL (st.mp m fr) w ds us g) (hc : ds.all isCell = true) (hF : Froz m st w g) :
    ∃ b c e, m id = some b ∧ w.heap[b]? = some (.cells c e (0, 0)) ∧ c.size = cells.length ∧ ∃ cl',
      Rel w0 rs cs m cl' fr (st.upd (.ob id (some (.box ty (splice cells j ds))))) tmps (w.setRow b ⟨splice c.toList j us⟩) ∧
      Ext m st fr w m (st.upd (.ob id (some (.box ty (splice cells j ds))))) fr (w.setRow b ⟨splice c.toList j us⟩) := by
  obtain ⟨fs, ⟨b, av, e, hm, hw, hL0, hc0⟩, hF0, _⟩ := R.ob id _ ho
  have hlen := AVL_length hL0
  have hlen2 := AVL_length hL
  have hsz : (⟨splice av j us⟩ : Array Value).size = (⟨av⟩ : Array Value).size := by
    have := splice_length (xs := av) (ds := us) (j := j) (by omega)
    simpa using this
  have hC : Chg (fun b' => m id = some b') w (w.setRow b ⟨splice av j us⟩) := setRow_chg hm
  have hbz : ∀ b', m id = some b' → World.bsz w b' ≤ World.bsz (w.setRow b ⟨splice av j us⟩) b' := by
    intro b' hb'
    have : b' = b := Option.some.inj (hb'.symm.trans hm)
    subst this
    rw [bsz_setRow hw hsz]; exact Nat.le_refl _
  have X := ext_put R ho hp (o' := .box ty (splice cells j ds)) trivial hC hbz
  obtain ⟨e', e1, s1⟩ := AVL_splice hL0 hL j
  have hFe : Froz m st w e' := fun x hx => (s1 x hx).elim (hF0 x) (hF x)
  have R2 := R.put ho hp (o' := .box ty (splice cells j ds)) trivial hC hbz (fs := e') ⟨b, splice av j us, e, hm, setRow_heap w b ⟨av⟩ _ e (0, 0) hw, X.avl e1 hFe, all_splice hc0 hc⟩ (X.froz hFe) (fun h => by cases h)
  exact ⟨b, ⟨av⟩, e, hm, hw, by simp [hlen], _, R2, X⟩
theorem run_storeVar {t b off : Nat} {i : TypeInfo} {v : Value} {c : Array Value} {e : Nat} (hi : P.info? t = some i) (hs : v.cells.toList.length = i.size) (hw : w.heap[b]? = some (.cells c e (0, 0)))
    (hle : off + i.size ≤ c.size) (h1 : ∀ u ∈ v.cells.toList, u.oneCell' = true) : (storeVar t ⟨b, off, none⟩ v).run P w = .ok () (w.setRow b ⟨splice c.toList off v.cells.toList⟩) := by
  unfold storeVar
  rw [run_bind, run_sizeOf hi]
  have h2 : v.cells.size = i.size := by rw [← Array.length_toList]; exact hs
  simp only [h2, ne_eq, not_true_eq_false, if_false]
  have := run_storeCells (P := P) v.cells.toList off 0 c w hw (by omega) h1
  simpa using this
theorem undef_ok {M : Mp} : AVR M w (.tup []) undef [] := by
  simp only [AVR, AVL]
  refine ⟨[], rfl, ?_⟩
  simp
theorem upds_ob : ∀ {us : List Upd} {st : St} {id : Nat}, (∀ u ∈ us, ∀ o, u ≠ .ob id o) → (st.upds us).ob id = st.ob id
  | [], _, _, _ => rfl
  | u :: us, st, id, h => by
    simp only [St.upds]
    rw [upds_ob (fun u' hu => h u' (by simp [hu]))]
    cases u with
    | ob i o => exact upd_ob_other _ _ (fun e => h (.ob i o) (by simp) o (by rw [e]))
    | wax i => rfl
theorem upds_pm : ∀ {us : List Upd} {st : St} {id : Nat}, (∀ u ∈ us, u ≠ .wax id) → (st.upds us).pm id = st.pm id
  | [], _, _, _ => rfl
  | u :: us, st, id, h => by
    simp only [St.upds]
    rw [upds_pm (fun u' hu => h u' (by simp [hu]))]
    cases u with
    | ob i o => rfl
    | wax i => exact upd_seal_other _ (fun e => h (.wax i) (by simp) (by rw [e]))
theorem unNil_keys {st0 : St} : ∀ {vs : List AV} {ts : List Nat} {c : Nat} {r : List AV × List Upd}, Ans E st0 (unNil E nb c vs ts) r → r.1.length = vs.length ∧ ∀ u ∈ r.2, ∃ i k, u = .ob i (some (.arr k true [])) ∧ nb + c ≤ i ∧ i < nb + c + vs.length
  | [], ts, c, r, h => by
    simp only [unNil, ans_ret] at h
    subst h
    exact ⟨rfl, by simp⟩
  | v :: vs, ts, c, r, h => by
    obtain ⟨t, ts, rfl⟩ : ∃ t ts', ts = t :: ts' := by
      cases ts with
      | nil => exact absurd h (by cases v <;> simp [unNil])
      | cons t ts => exact ⟨t, ts, rfl⟩
    by_cases hv : v = .nil
    · subst hv
      rw [unNil_nil, ans_bind] at h
      obtain ⟨ti, ht, h⟩ := h
      split at h
      · rename_i e k eb hk
        simp only [ans_bind, ans_ret] at h
        obtain ⟨r', h3, rfl⟩ := h
        obtain ⟨h4, h5⟩ := unNil_keys h3
        refine ⟨by simp [h4], fun u hu => ?_⟩
        rcases List.mem_cons.1 hu with rfl | hu
        · exact ⟨_, _, rfl, by omega, by simp⟩
        · obtain ⟨i, k', e1, e2, e3⟩ := h5 u hu
          exact ⟨i, k', e1, by omega, by simp; omega⟩
      · exact h.elim
    · rw [unNil_ne hv] at h
      simp only [ans_bind, ans_need, ans_ret] at h
      obtain ⟨_, hc, r', h3, rfl⟩ := h
      obtain ⟨h4, h5⟩ := unNil_keys h3
      refine ⟨by simp [h4], fun u hu => ?_⟩
      obtain ⟨i, k', e1, e2, e3⟩ := h5 u hu
      exact ⟨i, k', e1, by omega, by simp; omega⟩
include ET in
theorem ok_storeBox (R : Rel w0 rs cs m cl fr st a.tmps w) (hfr : ∀ id, fr' id → fr id ∧ (id < nb ∨ nb + 64 ≤ id)) (hnb : ∀ id, nb ≤ id → id < nb + 64 → fr id) {t : Nat} {x y : Operand} (ho : o.op = .store t x y)
    {ti : TInfo} (ht : E.tt t = some ti) {id j ty : Nat} {cells : List AV} (hx : Ans E st (opd x) (.bref id j)) {q : AV} (hy : Ans E st (opd y) q) (hcl : (cellsOf q).length = ti.size) (hn : (cellsOf q).length ≤ 60)
    (hc : (cellsOf q).all isCell = true) (hb : st.ob id = some (.box ty cells)) (hp : st.pm id = false) (hle : j + ti.size ≤ cells.length) {r : List AV × List Upd} (h : Ans E st (unNil E nb 0 (cellsOf q) ti.ct) r) :
    Did P o a.eval w (Aft w0 rs cs fr' (st.upds (r.2 ++ [.ob id (some (.box ty (splice cells j r.1)))])) a.tmps (.tup [])) := by
  obtain ⟨i, z, d, hi, hs, _, _, _, hu, _, _, _⟩ := (tok_of (ET t ti ht)).info
  obtain ⟨fx, hx1, _⟩ := opd_ok R hx
  obtain ⟨fy, hy1, hy2⟩ := opd_ok R hy
  have hL := cellsOf_ok hy1 hc
  have hone := AVL_one hL hc
  have hlenq := AVL_length hL
  obtain ⟨m', cl', R1, hL1, hc1, X1⟩ := unNil_ok h R (fun j hj => hnb _ (by omega) (by omega)) hL hy2
  have hlen1 := AVL_length hL1
  -- the variable is as it was
  have hb1 : (st.upds r.2).ob id = some (.box ty cells) ∧ (st.upds r.2).pm id = false := by
    obtain ⟨_, hk⟩ := unNil_keys h
    have hnf : ¬ fr id := not_fr R (by simp [hb])
    refine ⟨(upds_ob fun u hu o' he => ?_).trans hb, (upds_pm fun u hu he => ?_).trans hp⟩
    · obtain ⟨i, k, e1, e2, e3⟩ := hk u hu
      rw [e1] at he
      cases he
      exact hnf (hnb _ (by omega) (by omega))
    · obtain ⟨i, k, e1, e2, e3⟩ := hk u hu
      rw [e1] at he
      cases he
  have hx2 := X1.avr hx1 (by obtain ⟨⟨rfl, _⟩, _⟩ := hx1; exact froz_nil)
  obtain ⟨b, hm, he⟩ := hx2.2.2 _ _ hb1.1
  obtain ⟨b', c, e, hm', hw, hcs, cl2, R2, X2⟩ := putBox R1 hb1.1 hb1.2 (j := j) (ds := r.1) (by omega) hL1 hc1 (X1.froz hy2)
  have hbb : b' = b := Option.some.inj (hm'.symm.trans hm)
  subst hbb
  have hle2 : ∀ i, fr' i → lessR fr (nb + 0) (cellsOf q).length i := by
    intro i hi
    obtain ⟨h1, h2⟩ := hfr i hi
    exact ⟨h1, by omega⟩
  rw [upds_append]
  refine .inr (.inl ⟨w.setRow b' ⟨splice c.toList j (a.eval y).cells.toList⟩, ?_, ⟨_, cl2, R2.less hle2, [], undef_ok, froz_nil⟩⟩)
  simp only [execOp, ho, Instr.storeAt, he, Instr.sureAddr, run_bind, run_pure]
  rw [run_storeVar hi (by omega) hw (by omega) hone]
include ET in
theorem ok_mapPut (R : Rel w0 rs cs m cl fr st a.tmps w) (hfr : ∀ id, fr' id → fr id) {t : Nat} {x y z : Operand} (ho : o.op = .mapUpdate t x y z ∨ o.op = .insert t x y z)
    (h : Ans E st (mapPut E t x y z) (v, us)) : Did P o a.eval w (Aft w0 rs cs fr' (st.upds us) a.tmps v) := by
  unfold mapPut at h
  rw [ans_bind] at h
  obtain ⟨ti, ht, h⟩ := h
  rw [ans_tt] at ht
  rw [ans_bind] at h
  obtain ⟨mv, h1, h⟩ := h
  rw [ans_bind] at h
  obtain ⟨⟨ik, n⟩, hi, h⟩ := h
  have hn := getI_ok R hi
  rw [ans_bind] at h
  obtain ⟨q, hq, h2⟩ := h
  simp only [] at hn h2
  have hqv : a.eval z = q ∧ scal q = true := by
    simp only [ans_bind, ans_getS] at hq
    obtain ⟨v', e1, rfl⟩ := hq
    obtain ⟨_, e2, _⟩ := opd_ok R e1
    obtain ⟨e3, e4, _⟩ := avr_lit e2
    exact ⟨e3, e4⟩
  obtain ⟨fs, h3, h4⟩ := opd_ok R h1
  obtain ⟨_, _, _, _, _, _, _, _, _, _, htk, _⟩ := (tok_of (ET t ti ht)).info
  split at h2
  · rename_i kk zz id hfl
    rw [hfl] at htk
    obtain ⟨k, e, ie, hu, hk, hie, hz, hsz⟩ := tk_map htk
    simp only [ans_ob] at h2
    split at h2
    · rename_i ents hb
      simp only [ans_pm, ans_bind, ans_need, ans_ret, Prod.mk.injEq, Bool.not_eq_true', Bool.and_eq_true, beq_iff_eq] at h2
      obtain ⟨_, ⟨hp, hik, hkk⟩, rfl, rfl⟩ := h2
      subst hik
      subst hkk
      obtain ⟨b, hm, he⟩ := h3.2.2 _ hb
      obtain ⟨_, hO, _, _⟩ := R.ob _ _ hb
      obtain ⟨rfl, b2, es, clock, hm2, hw, hents, hsc⟩ := hO
      have hbb : b2 = b := Option.some.inj (hm2.symm.trans hm)
      subst hbb
      have hsc' : (entPut n q ents).all (fun x => scal x.2) = true := by
        have : ∀ (ents : List (Int × Value)), ents.all (fun x => scal x.2) = true → (entPut n q ents).all (fun x => scal x.2) = true := by
          intro ents
          induction ents with
          | nil => intro _; simp [entPut, hqv.2]
          | cons x ents ih =>
            intro h
            simp only [List.all_cons, Bool.and_eq_true] at h
            simp only [entPut]
            cases n == x.1 with
            | true => simp only [cond_true, List.all_cons, hqv.2, h.2, Bool.and_self]
            | false => simp only [cond_false, List.all_cons, h.1, ih h.2, Bool.and_self]
        exact this ents hsc
      -- the machine's search and the interpreter's
      have hfind : ∀ (es : List MapEntry) (ents : List (Int × Value)) (p : Nat), es.map (fun e => (e.key, e.val)) = ents.map (fun x => (Value.int .i64 x.1, x.2)) →
          (Instr.findNow (.int .i64) (.int .i64 n) es p = some none ∧ entPut n q ents = ents ++ [(n, q)]) ∨
          ∃ i u, i < es.length ∧ Instr.findNow (.int .i64) (.int .i64 n) es p = some (some (p + i, u)) ∧ (es[i]?.map (·.key)) = some (.int .i64 n) ∧
            ((es.modify i fun e => { e with key := .int .i64 n, val := q }).map (fun e => (e.key, e.val))) = (entPut n q ents).map (fun x => (Value.int .i64 x.1, x.2)) := by
        intro es
        induction es with
        | nil => intro ents p hh; have : ents = [] := by cases ents <;> simp at hh ⊢
                 subst this; exact .inl ⟨rfl, rfl⟩
        | cons e es ih =>
          intro ents p hh
          match ents, hh with
          | (k0, v0) :: ents, hh =>
            simp only [List.map_cons, List.cons.injEq, Prod.mk.injEq] at hh
            obtain ⟨⟨hk0, hv0⟩, hh⟩ := hh
            cases hnk : n == k0 with
            | true =>
              have : n = k0 := by simpa using hnk
              subst this
              refine .inr ⟨0, e.val, by simp, ?_, by simp [hk0], ?_⟩
              · simp [Instr.findNow, hk0, Instr.sameNow]
              · simp [entPut, hh, List.modify]
            | false =>
              rcases ih ents (p + 1) hh with ⟨h5, h6⟩ | ⟨i, u, h5, h6, h7, h8⟩
              · exact .inl ⟨by simp [Instr.findNow, hk0, Instr.sameNow, hnk, h5], by simp [entPut, hnk, h6]⟩
              · refine .inr ⟨i + 1, u, by simpa using h5, ?_, by simpa using h7, ?_⟩
                · simp only [Instr.findNow, hk0, Instr.sameNow, if_true, hnk, h6]
                  congr 3; omega
                · simp only [entPut, hnk, cond_false, List.map_cons, List.modify_succ_cons, h8, hk0, hv0]
      have hg : (getObj b2).run P w = .ok (.map es clock) w := by simp [getObj, Sem.run, hw]
      have hck : (Instr.checkKey false 10000 k (.int .i64 n)).run P w = .ok () w := by
        rw [show (10000 : Nat) = 9999 + 1 from rfl, Instr.checkKey, run_bind, run_underlying hk]
        rfl
      have hlt : b2 < w.heap.size := (Array.getElem?_eq_some_iff.1 hw).1
      have hset : ∀ (es' : Array MapEntry) (c' : Nat), (setObj b2 (.map es' c')).run P w = .ok () { w with heap := w.heap.setIfInBounds b2 (.map es' c') } := by
        intro es' c'
        simp [setObj, Sem.run, hw]
      have fin : ∀ (es' : Array MapEntry) (c' : Nat), es'.toList.map (fun e => (e.key, e.val)) = (entPut n q ents).map (fun x => (Value.int .i64 x.1, x.2)) →
          (execOp a.eval o).run P w = .ok .skip { w with heap := w.heap.setIfInBounds b2 (.map es' c') } → Did P o a.eval w (Aft w0 rs cs fr' (st.upds [.ob id (some (.map (entPut n q ents)))]) a.tmps (.tup [])) := by
        intro es' c' hes hrun
        have hC : Chg (fun b' => m id = some b') w { w with heap := w.heap.setIfInBounds b2 (.map es' c') } :=
          ⟨rfl, rfl, rfl, by simp, fun b' _ hne => by
            have hb' : b2 ≠ b' := fun e => hne (e ▸ hm)
            simp [Array.getElem?_setIfInBounds_ne hb']⟩
        have hbz : ∀ b', m id = some b' → World.bsz w b' ≤ World.bsz { w with heap := w.heap.setIfInBounds b2 (.map es' c') } b' := by
          intro b' hb'
          have : b' = b2 := Option.some.inj (hb'.symm.trans hm)
          subst this
          simp [World.bsz, hw]
        have R2 := R.put hb hp (o' := .map (entPut n q ents)) trivial hC hbz (fs := []) ⟨rfl, b2, es', c', hm, by simp [hlt], hes, hsc'⟩ froz_nil (fun h => by cases h)
        exact .inr (.inl ⟨_, hrun, ⟨_, _, R2.less hfr, [], undef_ok, froz_nil⟩⟩)
      have hex : execOp a.eval o = (do Instr.mapUpdate t (a.eval x) (a.eval y) (a.eval z); pure Next.skip) := by
        rcases ho with ho | ho <;> simp [execOp, ho]
      rcases hfind es.toList ents 0 hents with ⟨h5, h6⟩ | ⟨i, u, h5, h6, h7, h8⟩
      · refine fin (es.push { key := .int .i64 n, val := q, born := clock }) (clock + 1) (by rw [h6]; simp [hents]) ?_
        rw [hex]
        simp only [Instr.mapUpdate, run_bind, run_underlying hu, he, hn, hqv.1, hg, hck, Instr.findKey, run_underlying hk, h5, run_pure, hset]
      · refine fin (es.modify i fun e => { e with key := .int .i64 n, val := q }) clock (by rw [Array.toList_modify]; exact h8) ?_
        have h9 : ((es[i]?).map (·.key)).getD (.int .i64 n) = .int .i64 n := by
          have : es[i]? = es.toList[i]? := by simp
          rw [this, h7]; rfl
        rw [hex]
        simp only [Instr.mapUpdate, run_bind, run_underlying hu, he, hn, hqv.1, hg, hck, Instr.findKey, run_underlying hk, h6, run_pure, Nat.zero_add, h9]
        have hkt : (Instr.keyThatStays (.int .i64 n) (.int .i64 n)).run P w = .ok (.int .i64 n) w := by
          simp [Instr.keyThatStays, Instr.sameBits, run_pure]
        rw [hkt]
        simp only [hset]
    · exact h2.elim
  · exact h2.elim
end
end Go.Den
end
section
namespace Go.Den
open Go
set_option linter.unusedSimpArgs false
set_option linter.unusedVariables false
section
variable {P : Program} {E : Env} {w0 w w' : World} {rs : List Nat} {cs : Cs} {m m' : Gm} {cl : Nat → List Nat} {fr fr' : Nat → Prop} {st : St} {tmps : Array Value}
variable {a : Act} {o : Oper} {nb : Nat} {v : AV} {us : List Upd}
theorem RV_length : ∀ {ds : List RD} {vs : List Value} {gs : List Nat}, RV w ds vs gs → vs.length = ds.length
  | [], _, _, h => by simp only [RV] at h; simp [h.1]
  | d :: ds, _, _, h => by
    simp only [RV] at h
    obtain ⟨v, us, f, g, rfl, _, h3, _⟩ := h
    simp [RV_length h3]
theorem RV_append : ∀ {xs ys : List RD} {vs : List Value} {fs : List Nat}, RV w (xs ++ ys) vs fs ↔ ∃ v1 v2 f g, RV w xs v1 f ∧ RV w ys v2 g ∧ vs = v1 ++ v2 ∧ fs = f ++ g
  | [], ys, vs, fs => by
    simp only [List.nil_append, RV]
    exact ⟨fun h => ⟨[], vs, [], fs, ⟨rfl, rfl⟩, h, rfl, rfl⟩, fun ⟨v1, v2, f, g, ⟨h1, h2⟩, h3, h4, h5⟩ => by subst h1; subst h2; subst h4; subst h5; exact h3⟩
  | x :: xs, ys, vs, fs => by
    simp only [List.cons_append, RV, RV_append (xs := xs)]
    constructor
    · rintro ⟨v, us, f, g, rfl, h2, ⟨v1, v2, f', g', h3, h4, rfl, rfl⟩, rfl⟩
      exact ⟨v :: v1, v2, f ++ f', g', ⟨v, v1, f, f', rfl, h2, h3, rfl⟩, h4, rfl, by simp⟩
    · rintro ⟨v1, v2, f', g', ⟨v, us, f, g, rfl, h2, h3, rfl⟩, h4, rfl, rfl⟩
      exact ⟨v, us ++ v2, f, g ++ g', rfl, h2, ⟨us, v2, g, g', h3, h4, rfl, rfl⟩, by simp⟩
theorem RV_RL {b : Nat} : ∀ {ds : List RD} {vs : List Value} {gs : List Nat} {o : Nat}, RV w ds vs gs → (∀ j (h : j < vs.length), w.cell? ⟨b, o + j, none⟩ = some vs[j]) → RL w b o ds gs
  | [], vs, gs, o, h, _ => by simp only [RV] at h; simp only [RL]; exact h.2
  | d :: ds, vs, gs, o, h, hc => by
    simp only [RV] at h
    obtain ⟨v, us, f, g, rfl, h2, h3, rfl⟩ := h
    simp only [RL]
    refine ⟨v, f, g, (by have := hc 0 (by simp); rw [Nat.add_zero] at this; exact this), h2, RV_RL h3 (fun j hj => ?_), rfl⟩
    have := hc (j + 1) (by simpa using hj)
    simpa [Nat.add_assoc, Nat.add_comm 1] using this
theorem RL_RV {b : Nat} : ∀ {ds : List RD} {gs : List Nat} {o : Nat}, RL w b o ds gs → ∃ vs, RV w ds vs gs ∧ ∀ j (h : j < vs.length), w.cell? ⟨b, o + j, none⟩ = some vs[j]
  | [], gs, o, h => ⟨[], by simpa [RV, RL] using h, fun j h => by simp at h⟩
  | d :: ds, gs, o, h => by
    simp only [RL] at h
    obtain ⟨v, f, g, h1, h2, h3, rfl⟩ := h
    obtain ⟨vs, h4, h5⟩ := RL_RV h3
    refine ⟨v :: vs, by simp only [RV]; exact ⟨v, vs, f, g, rfl, h2, h4, rfl⟩, fun j hj => ?_⟩
    cases j with
    | zero => exact h1
    | succ j => have := h5 j (by simpa using hj); simpa [Nat.add_assoc, Nat.add_comm 1] using this
theorem RE_RL {b k : Nat} : ∀ {es : List (List RD)} {gs : List Nat} {o : Nat}, RE w b o k es gs ↔ (∀ e ∈ es, e.length = k) ∧ RL w b o es.flatten gs
  | [], gs, o => by simp [RE, RL]
  | e :: es, gs, o => by
    simp only [RE, List.flatten_cons, RL_append, List.forall_mem_cons, RE_RL (es := es)]
    constructor
    · rintro ⟨f, g, h1, h2, ⟨h3, h4⟩, rfl⟩
      exact ⟨⟨h1, h3⟩, f, g, h2, by rw [h1]; exact h4, rfl⟩
    · rintro ⟨⟨h1, h3⟩, f, g, h2, h4, rfl⟩
      exact ⟨f, g, h1, h2, ⟨h3, by rw [h1] at h4; exact h4⟩, rfl⟩
def ownL (m : Gm) (cl : Nat → List Nat) (id : Nat) : List Nat := (m id).toList ++ cl id
def FrozBut (m : Gm) (st : St) (w : World) (s fs : List Nat) : Prop :=
  ∀ b ∈ fs, (b < w.heap.size ∧ ¬ m.bad b) ∧ ∀ id, id ∉ s → st.ob id ≠ none → st.pm id = false → m id ≠ some b
def Claims (m : Gm) (cl : Nat → List Nat) (st : St) (s gs : List Nat) : Prop :=
  gs.Nodup ∧ ∀ x ∈ gs, ∃ id ∈ s, (∃ o, st.ob id = some o ∧ deepO o = true) ∧ st.pm id = false ∧ x ∈ ownL m cl id
theorem isLit_fs {d : RD} {v : Value} {gs : List Nat} (h : RR w d v gs) (hl : isLit d = true) : gs = [] := by
  unfold isLit at hl
  split at hl
  · simp only [RR] at h; exact h.2.2
  · cases hl
theorem FrozBut.of {fs : List Nat} (h : Froz m st w fs) (s : List Nat) : FrozBut m st w s fs := fun b hb => ⟨(h b hb).1, fun id _ hl hp => (h b hb).2 id hl hp⟩
theorem FrozBut.mono {s s' fs : List Nat} (h : FrozBut m st w s fs) (hs : ∀ i ∈ s, i ∈ s') : FrozBut m st w s' fs := fun b hb => ⟨(h b hb).1, fun id hi hl hp => (h b hb).2 id (fun h => hi (hs id h)) hl hp⟩
theorem arr_RR (R : Rel w0 rs cs m cl fr st tmps w) {id k : Nat} {deep t : Bool} {els : List (List RD)} {v : Value} {fs : List Nat} (hb : st.ob id = some (.arr k deep els)) (h : AVR (st.mp m fr) w (.aref id t) v fs) :
    ∃ gs, RR w (.sl t els) v gs ∧ FrozBut m st w [id] gs ∧ (deep = true → st.pm id = false → gs.Nodup ∧ ∀ x ∈ gs, x ∈ ownL m cl id) := by
  obtain ⟨_, hnf, hS⟩ := h
  obtain ⟨A, c, rfl, h2, h3, h4⟩ := hS _ _ _ hb
  obtain ⟨f, hO, hF, hcl⟩ := R.ob id _ hb
  by_cases hne : els = []
  · subst hne
    refine ⟨[], ?_, fun b hb => (by cases hb), fun _ _ => ⟨by simp, by simp⟩⟩
    simp only [RR]
    exact ⟨A, c, rfl, h2, h3, .inl ⟨trivial, trivial⟩⟩
  · rcases hO with ⟨h0, _⟩ | ⟨b, av, e, hm, hw, hle, hE⟩
    · exact (hne h0).elim
    · rcases h4 with ⟨h0, _⟩ | ⟨b', hm', rfl, _⟩
      · exact (hne (List.eq_nil_of_length_eq_zero h0)).elim
      · have hbb : b' = b := Option.some.inj (hm'.symm.trans hm)
        subst hbb
        have hm2 : m id = some b' := hm'
        have hmine := R.mine id b' (by simp [hb]) hm2
        refine ⟨b' :: f, ?_, ?_, ?_⟩
        · simp only [RR]
          exact ⟨_, c, rfl, h2, h3, .inr ⟨b', 0 * k, k, f, rfl, hne, rfl, by rw [Nat.zero_mul]; exact hE⟩⟩
        · intro x hx
          rcases List.mem_cons.1 hx with rfl | hx
          · refine ⟨⟨hmine.1, R.good (by simp [hb]) hm2⟩, fun i hi hl hp hmi => hi ?_⟩
            simp [R.inj i id x hl (by simp [hb]) hmi hm']
          · exact ⟨(hF x hx).1, fun i _ hl hp => (hF x hx).2 i hl hp⟩
        · intro hd hp
          have hfc := hcl hd hp
          subst hfc
          have hnd := (R.cl1 id _ hb hd hp).1
          refine ⟨List.nodup_cons.2 ⟨fun hx => ?_, hnd⟩, fun x hx => ?_⟩
          · exact (hF b' hx).2 id (by simp [hb]) hp hm'
          · simp only [ownL, hm2, Option.toList, List.cons_append, List.nil_append]
            exact hx
theorem sref_RR (R : Rel w0 rs cs m cl fr st tmps w) {id k off n : Nat} {deep t : Bool} {els : List (List RD)} {v : Value} {fs : List Nat} (hb : st.ob id = some (.arr k deep els)) (h : AVR (st.mp m fr) w (.sref id off n t) v fs) :
    ∃ gs, RR w (.sl t ((els.drop off).take n)) v gs ∧ FrozBut m st w [id] gs ∧ (deep = true → st.pm id = false → gs.Nodup ∧ ∀ x ∈ gs, x ∈ ownL m cl id) := by
  obtain ⟨_, hnf, hS⟩ := h
  obtain ⟨hon, A, c, rfl, h2, h3, h4⟩ := hS _ _ _ hb
  obtain ⟨f, hO, hF, hcl⟩ := R.ob id _ hb
  have hlen : ((els.drop off).take n).length = n := by simp; omega
  by_cases hne : n = 0
  · subst hne
    refine ⟨[], ?_, fun b hb => (by cases hb), fun _ _ => ⟨by simp, by simp⟩⟩
    simp only [RR]
    exact ⟨A, c, by simp, by simp, fun ht => by rw [hlen]; exact h3 ht, .inl ⟨by simp, trivial⟩⟩
  · rcases hO with ⟨h0, _⟩ | ⟨b, av, e, hm, hw, hle, hE⟩
    · subst h0; simp at hlen; omega
    · rcases h4 with ⟨h0, _⟩ | ⟨b', hm', rfl, _⟩
      · exact (hne h0).elim
      · have hbb : b' = b := Option.some.inj (hm'.symm.trans hm)
        subst hbb
        have hm2 : m id = some b' := hm'
        have hmine := R.mine id b' (by simp [hb]) hm2
        have e0 : els = els.take off ++ ((els.drop off).take n ++ (els.drop off).drop n) := by rw [List.take_append_drop, List.take_append_drop]
        rw [e0, RE_append] at hE
        obtain ⟨f1, g1, _, hE2, e1⟩ := hE
        rw [RE_append] at hE2
        obtain ⟨f2, g2, hE3, _, e2⟩ := hE2
        rw [List.length_take_of_le (by omega)] at hE3
        have hsub : ∀ x ∈ f2, x ∈ f := fun x hx => by subst e1; subst e2; simp [hx]
        refine ⟨b' :: f2, ?_, ?_, ?_⟩
        · simp only [RR]
          exact ⟨_, c, by rw [hlen], by rw [hlen]; exact h2, fun ht => by rw [hlen]; exact h3 ht, .inr ⟨b', off * k, k, f2, rfl, fun hnil => by rw [hnil] at hlen; simp at hlen; omega, rfl, by simpa using hE3⟩⟩
        · intro x hx
          rcases List.mem_cons.1 hx with rfl | hx
          · refine ⟨⟨hmine.1, R.good (by simp [hb]) hm2⟩, fun i hi hl hp hmi => hi ?_⟩
            simp [R.inj i id x hl (by simp [hb]) hmi hm']
          · exact ⟨(hF x (hsub x hx)).1, fun i _ hl hp => (hF x (hsub x hx)).2 i hl hp⟩
        · intro hd hp
          have hfc := hcl hd hp
          have hnd := (R.cl1 id _ hb hd hp).1
          rw [← hfc] at hnd
          have hnd2 : f2.Nodup := by
            subst e1; subst e2
            exact (List.nodup_append.1 (List.nodup_append.1 hnd).2.1).1
          refine ⟨List.nodup_cons.2 ⟨fun hx => ?_, hnd2⟩, fun x hx => ?_⟩
          · exact (hF b' (hsub b' hx)).2 id (by simp [hb]) hp hm'
          · simp only [ownL, hm2, Option.toList, List.cons_append, List.nil_append]
            rcases List.mem_cons.1 hx with rfl | hx
            · simp
            · rw [← hfc]; simp [hsub x hx]
theorem foldC_ok (R : Rel w0 rs cs m cl fr st tmps w) {x : AV} {v : Value} {fs : List Nat} {r : RD × Bool × List Nat} (h : AVR (st.mp m fr) w x v fs) (hF : Froz m st w fs) (hA : Ans E st (foldC x) r) :
    (∀ i ∈ r.2.2, st.ob i ≠ none) ∧ ∃ gs, RR w r.1 v gs ∧ FrozBut m st w r.2.2 gs ∧ (r.2.1 = true → Claims m cl st r.2.2 gs) := by
  unfold foldC at hA
  split at hA
  · simp only [ans_ret] at hA
    subst hA
    refine ⟨by simp, fs, h, FrozBut.of hF _, fun hl => ?_⟩
    have := isLit_fs h hl
    subst this
    exact ⟨by simp, by simp⟩
  · simp only [ans_ret] at hA
    subst hA
    simp only [AVR] at h
    refine ⟨by simp, [], ?_, fun b hb => (by cases hb), fun _ => ⟨by simp, by simp⟩⟩
    simp only [RR]
    exact ⟨none, 0, h.1, Nat.le_refl _, fun _ => rfl, .inl ⟨trivial, trivial⟩⟩
  · rename_i id t
    simp only [ans_ob] at hA
    split at hA
    · rename_i k deep els hb
      simp only [ans_pm, ans_ret] at hA
      subst hA
      obtain ⟨gs, h1, h2, h3⟩ := arr_RR R hb h
      refine ⟨fun i hi => by simp at hi; subst hi; simp [hb], gs, h1, h2, fun hl => ?_⟩
      simp only [Bool.and_eq_true, Bool.not_eq_true'] at hl
      obtain ⟨h4, h5⟩ := h3 hl.1 hl.2
      exact ⟨h4, fun x hx => ⟨id, by simp, ⟨_, hb, hl.1⟩, hl.2, h5 x hx⟩⟩
    · exact hA.elim
  · rename_i id off n t
    simp only [ans_ob] at hA
    split at hA
    · rename_i k deep els hb
      simp only [ans_ret] at hA
      subst hA
      obtain ⟨gs, h1, h2, _⟩ := sref_RR R hb h
      exact ⟨fun i hi => by simp at hi; subst hi; simp [hb], gs, h1, h2, fun hl => by cases hl⟩
    · exact hA.elim
  · exact hA.elim
theorem own_apart (R : Rel w0 rs cs m cl fr st tmps w) {i j : Nat} {o o' : AObj} (hi : st.ob i = some o) (hj : st.ob j = some o') (di : deepO o = true) (dj : deepO o' = true) (pi : st.pm i = false) (pj : st.pm j = false) (hne : i ≠ j) :
    ∀ x ∈ ownL m cl i, x ∉ ownL m cl j := by
  have root : ∀ {p : Nat} {op : AObj}, st.ob p = some op → deepO op = true → st.pm p = false → ∀ x ∈ cl p, ∀ q, st.ob q ≠ none → st.pm q = false → m q ≠ some x := by
    intro p op hp dp pp x hx q hq pq
    obtain ⟨f, _, hF, hc⟩ := R.ob p op hp
    rw [← hc dp pp] at hx
    exact (hF x hx).2 q hq pq
  intro x hx hx'
  simp only [ownL, List.mem_append, Option.mem_toList] at hx hx'
  rcases hx with hx | hx <;> rcases hx' with hx' | hx'
  · exact hne (R.inj i j x (by simp [hi]) (by simp [hj]) hx hx')
  · exact root hj dj pj x hx' i (by simp [hi]) pi hx
  · exact root hi di pi x hx j (by simp [hj]) pj hx'
  · exact R.cl2 i j o o' hi hj di dj pi pj hne x hx hx'
theorem nodupB_spec : ∀ {l : List Nat}, nodupB l = true → l.Nodup
  | [], _ => by simp
  | x :: r, h => by
    simp only [nodupB, Bool.and_eq_true, Bool.not_eq_true', List.any_eq_false] at h
    refine List.nodup_cons.2 ⟨fun hx => h.1 x hx (Nat.beq_refl x), nodupB_spec h.2⟩
theorem Claims.append (R : Rel w0 rs cs m cl fr st tmps w) {s t f g : List Nat} (h1 : Claims m cl st s f) (h2 : Claims m cl st t g) (hd : ∀ i ∈ s, i ∉ t) : Claims m cl st (s ++ t) (f ++ g) := by
  refine ⟨List.nodup_append.2 ⟨h1.1, h2.1, fun x hx y hy e => ?_⟩, fun x hx => ?_⟩
  · subst e
    obtain ⟨i, hi, ⟨o, ho, hdo⟩, hp, hx1⟩ := h1.2 x hx
    obtain ⟨j, hj, ⟨o', ho', hdo'⟩, hp', hx2⟩ := h2.2 x hy
    exact own_apart R ho ho' hdo hdo' hp hp' (fun e => hd i hi (e ▸ hj)) x hx1 hx2
  · rcases List.mem_append.1 hx with hx | hx
    · obtain ⟨i, hi, h⟩ := h1.2 x hx; exact ⟨i, by simp [hi], h⟩
    · obtain ⟨i, hi, h⟩ := h2.2 x hx; exact ⟨i, by simp [hi], h⟩
theorem foldCs_ok (R : Rel w0 rs cs m cl fr st tmps w) : ∀ {xs : List AV} {vs : List Value} {fs : List Nat} {r : List RD × Bool × List Nat}, AVL (st.mp m fr) w xs vs fs → Froz m st w fs → Ans E st (foldCs xs) r →
    (∀ i ∈ r.2.2, st.ob i ≠ none) ∧ ∃ gs, RV w r.1 vs gs ∧ FrozBut m st w r.2.2 gs ∧ (r.2.1 = true → r.2.2.Nodup → Claims m cl st r.2.2 gs)
  | [], vs, fs, r, h, hF, hA => by
    simp only [foldCs, ans_ret] at hA
    subst hA
    simp only [AVL] at h
    exact ⟨by simp, [], by simp only [RV]; exact ⟨h.1, trivial⟩, fun b hb => (by cases hb), fun _ _ => ⟨by simp, by simp⟩⟩
  | x :: xs, vs, fs, r, h, hF, hA => by
    simp only [AVL] at h
    obtain ⟨v, us, f, g, rfl, h1, h2, rfl⟩ := h
    simp only [foldCs, ans_bind, ans_ret] at hA
    obtain ⟨r1, a1, r2, a2, rfl⟩ := hA
    obtain ⟨l1, g1, e1, e2, e3⟩ := foldC_ok R h1 (hF.sub (fun b hb => List.mem_append_left _ hb)) a1
    obtain ⟨l2, g2, e4, e5, e6⟩ := foldCs_ok R h2 (hF.sub (fun b hb => List.mem_append_right _ hb)) a2
    refine ⟨fun i hi => (List.mem_append.1 hi).elim (l1 i) (l2 i), g1 ++ g2, ?_, ?_, ?_⟩
    · simp only [RV]; exact ⟨v, us, g1, g2, rfl, e1, e4, rfl⟩
    · intro b hb
      rcases List.mem_append.1 hb with hb | hb
      · exact (e2.mono (fun i hi => List.mem_append_left _ hi)) b hb
      · exact (e5.mono (fun i hi => List.mem_append_right _ hi)) b hb
    · intro hb hn
      simp only [Bool.and_eq_true] at hb
      have hn' := List.nodup_append.1 hn
      exact (e3 hb.1).append R (e6 hb.2 hn'.2.1) (fun i hi hj => hn'.2.2 i hi i hj rfl)
end
end Go.Den
end
section
namespace Go.Den
open Go
set_option linter.unusedSimpArgs false
set_option linter.unusedVariables false
section
variable {P : Program} {E : Env} {w0 w w' : World} {rs : List Nat} {cs : Cs} {m m' : Gm} {cl : Nat → List Nat} {fr fr' : Nat → Prop} {st : St} {tmps : Array Value}
variable {a : Act} {o : Oper} {nb : Nat} {v : AV} {us : List Upd}
theorem seals_ob : ∀ {s : List Nat} {st : St}, (st.upds (sealU s)).ob = st.ob
  | [], st => rfl
  | i :: s, st => by show ((st.upd (.wax i)).upds (sealU s)).ob = st.ob; rw [seals_ob (s := s)]; rfl
theorem seals_pm : ∀ {s : List Nat} {st : St} {i : Nat}, (st.upds (sealU s)).pm i = false ↔ st.pm i = false ∧ i ∉ s
  | [], st, i => by simp [sealU, St.upds]
  | j :: s, st, i => by
    show ((st.upd (.wax j)).upds (sealU s)).pm i = false ↔ _
    rw [seals_pm (s := s)]
    by_cases h : i = j
    · subst h; rw [upd_seal_same]; simp
    · rw [upd_seal_other _ h]; simp [h]
theorem froz_seals {s gs : List Nat} (h : FrozBut m st w s gs) : Froz m (st.upds (sealU s)) w gs := by
  intro b hb
  refine ⟨(h b hb).1, fun id hl hp hm => ?_⟩
  obtain ⟨h1, h2⟩ := seals_pm.1 hp
  rw [seals_ob] at hl
  exact (h b hb).2 id h2 hl h1 hm
theorem claims_new (R : Rel w0 rs cs m cl fr st tmps w) {s gs : List Nat} (h : Claims m cl st s gs) : gs.Nodup ∧ (∀ b ∈ gs, b ∈ rs ∨ b ∈ cs ∨ w0.heap.size ≤ b) ∧
    ∀ i o', (st.upds (sealU s)).ob i = some o' → deepO o' = true → (st.upds (sealU s)).pm i = false → ∀ b ∈ gs, b ∉ cl i := by
  refine ⟨h.1, fun b hb => ?_, fun i o' ho hd hp b hb => ?_⟩
  · obtain ⟨id, hi, ⟨o, ho, hdo⟩, hp, hx⟩ := h.2 b hb
    simp only [ownL, List.mem_append, Option.mem_toList] at hx
    rcases hx with hx | hx
    · exact (R.mine id b (by simp [ho]) hx).2.imp (fun h => h) .inr
    · exact (R.cl1 id o ho hdo hp).2 b hx
  · obtain ⟨h1, h2⟩ := seals_pm.1 hp
    rw [seals_ob] at ho
    obtain ⟨id, hi, ⟨o, ho2, hdo⟩, hp2, hx⟩ := h.2 b hb
    have := own_apart R ho2 ho hdo hd hp2 h1 (fun e => h2 (e ▸ hi)) b hx
    simp only [ownL, List.mem_append, not_or] at this
    exact this.2
theorem madeArr (R : Rel w0 rs cs m cl fr st tmps w) {id k e : Nat} {deep : Bool} (hid : fr id) {els : List (List RD)} {c : Array Value} {gs : List Nat} (hk : ∀ x ∈ els, x.length = k)
    {vs : List Value} (hV : RV w els.flatten vs gs) (hc : ∃ rest, c.toList = vs ++ rest) (hF : Froz m st w gs)
    (hd : deep = true → gs.Nodup ∧ (∀ b ∈ gs, b ∈ rs ∨ b ∈ cs ∨ w0.heap.size ≤ b) ∧ ∀ i o', st.ob i = some o' → deepO o' = true → st.pm i = false → ∀ b ∈ gs, b ∉ cl i) :
    ∃ cl', Rel w0 rs cs (setM m id (some w.heap.size)) cl' (lessF fr id) (st.upd (.ob id (some (.arr k deep els)))) tmps (pushW w (.cells c e)) ∧
      Ext m st fr w (setM m id (some w.heap.size)) (st.upd (.ob id (some (.arr k deep els)))) (lessF fr id) (pushW w (.cells c e)) := by
  have hbk : ∀ b, some w.heap.size = some b → w.heap.size ≤ b ∧ b < (pushW w (.cells c e)).heap.size := by
    intro b hb; cases hb; rw [pushW_size]; omega
  have hC := pushW_chg w (.cells c e)
  have X := ext_made R hid (some (.arr k deep els)) (some w.heap.size) hC hbk
  obtain ⟨rest, hrest⟩ := hc
  have hlen := RV_length hV
  have hfl : els.flatten.length = els.length * k := by
    clear hV hlen hd X
    induction els with
    | nil => simp
    | cons x xs ih => simp only [List.flatten_cons, List.length_append, List.length_cons]; rw [ih (fun y hy => hk y (by simp [hy])), hk x (by simp), Nat.add_mul]; omega
  have hV' : RV (pushW w (.cells c e)) els.flatten vs gs := hV.keep (fun b hb => X.same hF b hb)
  have hsz : els.length * k ≤ c.size := by
    rw [← Array.length_toList, hrest, List.length_append, hlen, hfl]; omega
  have hL : RE (pushW w (.cells c e)) w.heap.size 0 k els gs := by
    rw [RE_RL]
    refine ⟨hk, RV_RL hV' (fun j hj => ?_)⟩
    have h1 : j < c.size := by rw [← Array.length_toList, hrest, List.length_append]; omega
    have h2 : c[j] = vs[j] := by
      have : c.toList[j]'(by simpa using h1) = vs[j] := by
        simp only [hrest]
        rw [List.getElem_append_left]
      simpa using this
    simp [World.cell?, pushW_new, h1, h2]
  have R2 := R.made hid (.arr k deep els) (some w.heap.size) hC hbk (fs := gs) (.inr ⟨w.heap.size, c, e, by simp [St.mp, setM], pushW_new _ _, hsz, hL⟩) (X.froz hF) hd
  exact ⟨_, R2, X⟩
theorem aref_made {st : St} {m : Gm} {fr : Nat → Prop} {id k b cap : Nat} {deep t : Bool} {els : List (List RD)} (hcap : els.length ≤ cap) (ht : t = true → cap = els.length) (hb : cap * k ≤ World.bsz w' b) :
    AVR ((st.upd (.ob id (some (.arr k deep els)))).mp (setM m id (some b)) (lessF fr id)) w' (.aref id t) (.slice (some ⟨b, 0, none⟩) els.length cap) [] := by
  simp only [AVR]
  refine ⟨⟨trivial, rfl⟩, fun h => h.2 rfl, fun k' d' els' ho => ?_⟩
  simp only [St.mp, upd_ob_same] at ho
  cases ho
  exact ⟨_, cap, rfl, hcap, ht, .inr ⟨b, by simp [St.mp, setM], by simp, by simpa using hb⟩⟩
theorem RV_zeros : ∀ (z : List Value), z.all zeroOk = true → RV w (z.map zeroR) z []
  | [], _ => by simp [RV]
  | v :: z, h => by
    simp only [List.all_cons, Bool.and_eq_true] at h
    simp only [List.map_cons, RV]
    refine ⟨v, z, [], [], rfl, ?_, RV_zeros z h.2, rfl⟩
    have h4 := h.1
    unfold zeroOk at h4
    unfold zeroR
    split at h4
    · simp only [RR]; exact ⟨none, 0, rfl, Nat.le_refl _, fun _ => rfl, .inl ⟨trivial, trivial⟩⟩
    · simp only [RR]; exact ⟨trivial, h4, trivial⟩
theorem RV_rep {z : List Value} {ds : List RD} (h : RV w ds z []) : ∀ n, RV w (List.replicate n ds).flatten (List.replicate n z).flatten []
  | 0 => by simp [RV]
  | n + 1 => by
    rw [List.replicate_succ, List.replicate_succ, List.flatten_cons, List.flatten_cons, RV_append]
    exact ⟨z, _, [], [], h, RV_rep h n, rfl, rfl⟩
theorem range_zero (z : Array Value) : ∀ n, ((Array.range (n * z.size)).map (z[· % z.size]!)).toList = (List.replicate n z.toList).flatten
  | 0 => by simp
  | n + 1 => by
    have ih := range_zero z n
    simp only [Array.toList_map, Array.toList_range] at ih ⊢
    rw [Nat.add_mul, Nat.one_mul, List.range_add, List.map_append, ih, List.replicate_succ', List.flatten_append]
    congr 1
    simp only [List.map_map, List.flatten_cons, List.flatten_nil, List.append_nil]
    apply List.ext_getElem
    · simp
    · intro i h1 h2
      simp only [List.length_map, List.length_range] at h1
      simp only [List.getElem_map, List.getElem_range, Function.comp]
      have : (n * z.size + i) % z.size = i := by
        rw [Nat.add_comm, Nat.add_mul_mod_self_right, Nat.mod_eq_of_lt h1]
      rw [this]
      simp [h1]
end
end Go.Den
end
section
namespace Go.Den
open Go
set_option linter.unusedSimpArgs false
set_option linter.unusedVariables false
section
variable {P : Program} {E : Env} {w0 w w' : World} {rs : List Nat} {cs : Cs} {m m' : Gm} {cl : Nat → List Nat} {fr fr' : Nat → Prop} {st : St} {tmps : Array Value}
variable {a : Act} {o : Oper} {nb : Nat} {v : AV} {us : List Upd}
variable (ET : ∀ t ti, E.tt t = some ti → ttOf P t = some ti)
theorem wrap_self {n : Int} (h0 : 0 ≤ n) (h : n ≤ 4611686018427387904) : IntKind.i64.wrap n = n := by
  have e : (2 ^ IntKind.i64.bits : Int) = 18446744073709551616 := by decide
  have e2 : (2 ^ (IntKind.i64.bits - 1) : Int) = 9223372036854775808 := by decide
  unfold IntKind.wrap
  simp only [e, e2]
  have : n % 18446744073709551616 = n := Int.emod_eq_of_lt h0 (by omega)
  rw [this]
  have : ¬ (9223372036854775808 ≤ n) := by omega
  simp [this]
theorem run_makeSlice {t e k eb : Nat} {ie : TypeInfo} {z : Value} {n : Int} {k1 k2 : IntKind} (htk : tkOf P t = some (.slice e k eb)) (hi : P.info? e = some ie) (hz : ie.zero = some z) (hk : z.cells.size = k)
    (h0 : 0 ≤ n) (hb : n * eb ≤ 140737488355328) (hn : n ≤ 4611686018427387904) :
    (Instr.makeSlice t (.int k1 n) (.int k2 n)).run P w = .ok (.slice (some ⟨w.heap.size, 0, none⟩) n.toNat n.toNat) (pushW w (.cells ⟨(List.replicate n.toNat z.cells.toList).flatten⟩ e)) := by
  obtain ⟨hu, ie', hi', hs, hbt⟩ := tk_slice htk
  have : ie' = ie := Option.some.inj (hi'.symm.trans hi)
  subst this
  have hw := wrap_self h0 hn
  have hbt' : (ie'.bytes : Int) * n ≤ 2 ^ 48 := by rw [hbt, Int.mul_comm]; omega
  unfold Instr.makeSlice
  simp only [run_bind, run_underlying hu, asInt, asIntOf, run_pure, run_typeInfo hi, hw]
  have c1 : (decide (n < 0) || decide (↑ie'.bytes * n > 2 ^ 48)) = false := by
    simp only [Bool.or_eq_false_iff, decide_eq_false_iff_not]; omega
  have c2 : ¬ ((decide (n < 0) || decide (↑ie'.bytes * n > 2 ^ 48)) = true ∨ n < 0 ∨ n > n) := by rw [c1]; simp; omega
  simp only [c1, Bool.false_eq_true, false_or, decide_eq_true_eq, Bool.or_eq_true]
  have c3 : ¬ (n < 0 ∨ n > n) := by omega
  first | rw [if_neg c3] | skip
  have hask : ∀ q, (askRoom q).run P w = .ok () w := by intro q; unfold askRoom; split <;> simp [mark, Sem.run, run_pure]
  simp only [run_bind, hask, run_sizeOf hi]
  have e1 : n.toNat * ie'.size = n.toNat * z.cells.size := by rw [hs, hk]
  by_cases hz0 : n.toNat * ie'.size = 0
  · simp only [hz0, if_true, run_pure, run_newRow]
    have : (List.replicate n.toNat z.cells.toList).flatten = [] := by
      apply List.eq_nil_of_length_eq_zero
      simp
      rw [← e1]; simpa using hz0
    rw [this]
    have e0 : Array.map (fun _ : Nat => (default : Value)) (Array.range 0) = ⟨[]⟩ := by apply Array.ext'; simp
    simp [run_newRow, e0]
  · simp only [hz0, if_false, run_bind, run_zeroValue hi hz, run_pure, run_newRow]
    congr 3
    apply Array.ext'
    rw [e1]
    exact range_zero z.cells n.toNat
include ET in
theorem ok_makeSlice (R : Rel w0 rs cs m cl fr st a.tmps w) (hfr : ∀ id, fr' id → fr id ∧ (id < nb ∨ nb + 64 ≤ id)) (hnb : ∀ id, nb ≤ id → id < nb + 64 → fr id) {t : Nat} {x y : Operand} (ho : o.op = .makeSlice t x y)
    (h : Ans E st (stepOp E nb o) (v, us)) : Did P o a.eval w (Aft w0 rs cs fr' (st.upds us) a.tmps v) := by
  simp only [stepOp, ho] at h
  rw [ans_bind] at h
  obtain ⟨ti, ht, h⟩ := h
  rw [ans_tt] at ht
  obtain ⟨_, _, _, _, _, _, _, _, _, _, htk, _⟩ := (tok_of (ET t ti ht)).info
  split at h
  · rename_i e k eb hs
    rw [hs] at htk
    rw [ans_bind] at h
    obtain ⟨ei, hei, h⟩ := h
    rw [ans_tt] at hei
    rw [ans_bind] at h
    obtain ⟨⟨k1, n⟩, hl, h⟩ := h
    have hn := getI_ok R hl
    simp only [] at h hn
    rw [ans_bind] at h
    obtain ⟨⟨k2, n2⟩, hc, h⟩ := h
    have hm := getI_ok R hc
    simp only [ans_bind, ans_need, ans_ret, Prod.mk.injEq, Bool.and_eq_true, decide_eq_true_eq] at h hm
    obtain ⟨_, ⟨⟨⟨h0, hnm, hb, hbig⟩, hz⟩, hk⟩, rfl, rfl⟩ := h
    subst hnm
    obtain ⟨ie, z, d, hi, _, _, hzz, hzc, _, _, _, _⟩ := (tok_of (ET e ei hei)).info
    have hk' : z.cells.size = k := by rw [← Array.length_toList, hzc]; exact Nat.eq_of_beq_eq_true hk
    have hid : fr nb := hnb nb (by omega) (by omega)
    have hV := RV_rep (w := w) (RV_zeros (w := w) _ hz) n.toNat
    obtain ⟨cl', R2, X2⟩ := madeArr R (e := e) (deep := true) (k := k) hid (els := List.replicate n.toNat (ei.zero.map zeroR)) (c := ⟨(List.replicate n.toNat z.cells.toList).flatten⟩)
      (fun x hx => by rw [List.eq_of_mem_replicate hx, List.length_map]; exact Nat.eq_of_beq_eq_true hk) hV ⟨[], by rw [hzc]; simp⟩ froz_nil (fun _ => ⟨by simp, by simp, by simp⟩)
    have hle : ∀ i, fr' i → lessF fr nb i := fun i hi => by obtain ⟨h1, h2⟩ := hfr i hi; exact ⟨h1, by omega⟩
    refine did_val (u := .slice (some ⟨w.heap.size, 0, none⟩) n.toNat n.toNat) (w' := pushW w (.cells ⟨(List.replicate n.toNat z.cells.toList).flatten⟩ e)) ?_ ⟨_, cl', R2.less hle, [], ?_, froz_nil⟩
    · simp only [execOp, ho, hn, hm, run_bind]
      rw [run_makeSlice htk hi hzz hk' h0 hb hbig]
      rfl
    · have hA := aref_made (w' := pushW w (.cells ⟨(List.replicate n.toNat z.cells.toList).flatten⟩ e)) (st := st) (m := m) (fr := fr) (id := nb) (k := k) (b := w.heap.size) (cap := n.toNat) (deep := true) (t := true) (els := List.replicate n.toNat (ei.zero.map zeroR)) (by simp) (by simp) (by
        simp only [World.bsz, pushW_new]
        simp
        rw [hk']; exact Nat.le_refl _)
      rw [List.length_replicate] at hA
      exact hA.goes (goes_fr hle _) (fun b hb => by cases hb)
  · exact h.elim
theorem fill_seq {k : Nat} : ∀ (us : List Value) (i : Nat) (c : Array Value), (∀ u ∈ us, u.cells.size = k) → (i + us.length) * k ≤ c.size →
    ∃ r, Instr.fill (fun i => some (i * k, k)) c ((us.zipIdx i).map fun x => (x.2, x.1)) = some r ∧ r.toList = c.toList.take (i * k) ++ ((us.map fun u => u.cells.toList).flatten ++ c.toList.drop ((i + us.length) * k))
  | [], i, c, _, _ => ⟨c, rfl, by simp⟩
  | u :: us, i, c, hk, hc => by
    have hu := hk u (by simp)
    simp only [List.length_cons] at hc
    have e1 : (i + (us.length + 1)) * k = i * k + k + us.length * k := by rw [Nat.add_mul, Nat.add_mul]; omega
    have hset := fold_set u.cells.toList 0 (i * k) c (by simp only [Array.length_toList, hu]; omega)
    have hl : u.cells.toList.length = k := by simpa using hu
    generalize hc' : (u.cells.zipIdx.foldl (fun cs (x : Value × Nat) => cs.setIfInBounds (i * k + x.2) x.1) c) = c' at *
    have hset' : c'.toList = c.toList.take (i * k) ++ (u.cells.toList ++ c.toList.drop (i * k + k)) := by
      rw [← hc', ← Array.foldl_toList, Array.toList_zipIdx]
      rw [hset]; simp [hl, hu]
    have hsz : c'.size = c.size := by
      rw [← Array.length_toList, hset']
      simp [hu]
      omega
    obtain ⟨r, h1, h2⟩ := fill_seq us (i + 1) c' (fun x hx => hk x (by simp [hx])) (by rw [hsz, Nat.add_mul, Nat.add_mul]; omega)
    refine ⟨r, ?_, ?_⟩
    · simp only [List.zipIdx_cons, List.map_cons, Instr.fill]
      rw [if_neg (by simp only [hu, ne_eq, not_true_eq_false, decide_false, Bool.false_or, decide_eq_true_eq]; omega)]
      have : (u.cells.zipIdx.foldl (fun cs (x : Value × Nat) => match x with | (c, j) => cs.setIfInBounds (i * k + j) c) c) = c' := hc'
      rw [this]
      exact h1
    · rw [h2, hset']
      have e2 : (i + 1) * k = i * k + k := by rw [Nat.add_mul]; omega
      have e3 : (i + 1 + us.length) * k = i * k + k + us.length * k := by rw [Nat.add_mul, Nat.add_mul]; omega
      have l1 : (c.toList.take (i * k)).length = i * k := by simp; omega
      rw [e2, e3]
      rw [List.take_append, List.drop_append, l1]
      have e4 : i * k + k - i * k = k := by omega
      have e5 : i * k + k + us.length * k - i * k = k + us.length * k := by omega
      rw [e4, e5, List.take_append, List.drop_append, hl]
      have e6 : List.take (i * k + k) (List.take (i * k) c.toList) = List.take (i * k) c.toList := by rw [List.take_take]; congr 1; omega
      have e7 : List.drop (i * k + k + us.length * k) (List.take (i * k) c.toList) = [] := List.drop_of_length_le (by rw [l1]; omega)
      have e8 : List.take k u.cells.toList = u.cells.toList := List.take_of_length_le (by omega)
      have e9 : List.drop (k + us.length * k) u.cells.toList = [] := List.drop_of_length_le (by omega)
      rw [e6, e7, e8, e9]
      simp [List.drop_drop, e1, Nat.add_assoc]
end
end Go.Den
end
section
namespace Go.Den
open Go
set_option linter.unusedSimpArgs false
set_option linter.unusedVariables false
section
variable {P : Program} {E : Env} {w0 w w' : World} {rs : List Nat} {cs : Cs} {m m' : Gm} {cl : Nat → List Nat} {fr fr' : Nat → Prop} {st : St} {tmps : Array Value}
variable {a : Act} {o : Oper} {nb : Nat} {v : AV} {us : List Upd}
variable (ET : ∀ t ti, E.tt t = some ti → ttOf P t = some ti)
theorem foldEls_ok (R : Rel w0 rs cs m cl fr st tmps w) {k : Nat} : ∀ {xs : List AV} {vs : List Value} {fs : List Nat} {r : List (List RD) × Bool × List Nat}, AVL (st.mp m fr) w xs vs fs → Froz m st w fs → Ans E st (foldEls k xs) r →
    (∀ i ∈ r.2.2, st.ob i ≠ none) ∧ (∀ u ∈ vs, u.cells.size = k) ∧ (∀ e ∈ r.1, e.length = k) ∧ r.1.length = xs.length ∧ ∃ gs, RV w r.1.flatten (vs.map fun u => u.cells.toList).flatten gs ∧ FrozBut m st w r.2.2 gs ∧ (r.2.1 = true → r.2.2.Nodup → Claims m cl st r.2.2 gs)
  | [], vs, fs, r, h, hF, hA => by
    simp only [foldEls, ans_ret] at hA
    subst hA
    simp only [AVL] at h
    rw [h.1]
    exact ⟨by simp, by simp, by simp, rfl, [], by simp [RV], fun b hb => (by cases hb), fun _ _ => ⟨by simp, by simp⟩⟩
  | x :: xs, vs, fs, r, h, hF, hA => by
    simp only [AVL] at h
    obtain ⟨v, us, f, g, rfl, h1, h2, rfl⟩ := h
    simp only [foldEls, ans_bind, ans_need, ans_ret, Bool.and_eq_true] at hA
    obtain ⟨_, ⟨hk, hc⟩, r1, a1, r2, a2, rfl⟩ := hA
    have hk := Nat.eq_of_beq_eq_true hk
    have hL := cellsOf_ok h1 hc
    have hlen := AVL_length hL
    obtain ⟨l1, g1, e1, e2, e3⟩ := foldCs_ok R hL (hF.sub (fun b hb => List.mem_append_left _ hb)) a1
    obtain ⟨l2, q1, q2, q3, g2, e4, e5, e6⟩ := foldEls_ok R h2 (hF.sub (fun b hb => List.mem_append_right _ hb)) a2
    have hl1 := RV_length e1
    refine ⟨fun i hi => (List.mem_append.1 hi).elim (l1 i) (l2 i), ?_, ?_, by simp [q3], g1 ++ g2, ?_, ?_, ?_⟩
    · intro u hu
      rcases List.mem_cons.1 hu with rfl | hu
      · rw [← Array.length_toList, hlen, hk]
      · exact q1 u hu
    · intro e he
      rcases List.mem_cons.1 he with rfl | he
      · rw [← hl1, hlen, hk]
      · exact q2 e he
    · simp only [List.flatten_cons, List.map_cons]
      rw [RV_append]
      exact ⟨_, _, g1, g2, e1, e4, rfl, rfl⟩
    · intro b hb
      rcases List.mem_append.1 hb with hb | hb
      · exact (e2.mono (fun i hi => List.mem_append_left _ hi)) b hb
      · exact (e5.mono (fun i hi => List.mem_append_right _ hi)) b hb
    · intro hb hn
      simp only [Bool.and_eq_true] at hb
      have hn' := List.nodup_append.1 hn
      exact (e3 hb.1 hn'.1).append R (e6 hb.2 hn'.2.1) (fun i hi hj => hn'.2.2 i hi i hj rfl)
theorem flat_len {k : Nat} : ∀ {els : List (List RD)}, (∀ x ∈ els, x.length = k) → els.flatten.length = els.length * k
  | [], _ => by simp
  | x :: xs, h => by
    simp only [List.flatten_cons, List.length_append, List.length_cons]
    rw [flat_len (fun y hy => h y (by simp [hy])), h x (by simp), Nat.add_mul]; omega
theorem zip_idx {α : Type} {f : Operand → α} : ∀ (l : List (Nat × Operand)) (i : Nat), l.map (·.1) = (List.range' i l.length) → l.map (fun x => (x.1, f x.2)) = (((l.map (·.2)).map f).zipIdx i).map fun x => (x.2, x.1)
  | [], _, _ => rfl
  | x :: l, i, h => by
    simp only [List.map_cons, List.length_cons, List.range'_succ, List.cons.injEq] at h
    simp only [List.map_cons, List.zipIdx_cons, h.1]
    rw [zip_idx l (i + 1) h.2]
include ET in
theorem ok_buildSlice (R : Rel w0 rs cs m cl fr st a.tmps w) (hfr : ∀ id, fr' id → fr id ∧ (id < nb ∨ nb + 64 ≤ id)) (hnb : ∀ id, nb ≤ id → id < nb + 64 → fr id) {t n : Nat} {ps : Array (Nat × Operand)} (ho : o.op = .buildSlice t n ps)
    (h : Ans E st (stepOp E nb o) (v, us)) : Did P o a.eval w (Aft w0 rs cs fr' (st.upds us) a.tmps v) := by
  simp only [stepOp, ho] at h
  rw [ans_bind] at h
  obtain ⟨ti, ht, h⟩ := h
  rw [ans_tt] at ht
  obtain ⟨_, _, _, _, _, _, _, _, _, _, htk, _⟩ := (tok_of (ET t ti ht)).info
  split at h
  · rename_i e k eb hs
    rw [hs] at htk
    obtain ⟨hu, ie, hie, hik, _⟩ := tk_slice htk
    simp only [ans_bind, ans_tt, ans_need, ans_ret, Prod.mk.injEq, Bool.and_eq_true, beq_iff_eq] at h
    obtain ⟨ei, hei, vs, h1, _, ⟨⟨⟨hn, hidx⟩, hbig⟩, hzk⟩, r, h2, rfl, rfl⟩ := h
    have hn := Nat.eq_of_beq_eq_true hn
    have hbig := Nat.le_of_ble_eq_true hbig
    obtain ⟨ie2, z, d, hie2, _, _, hzz, hzc, _, _, _, _⟩ := (tok_of (ET e ei hei)).info
    have hk' : z.cells.size = k := by rw [← Array.length_toList, hzc]; exact Nat.eq_of_beq_eq_true hzk
    obtain ⟨fs, h3, h4⟩ := opds_ok R h1
    obtain ⟨hl, q1, q2, q3, gs, hV, hFB, hCl⟩ := foldEls_ok R h3 h4 h2
    have hnfr : ∀ i ∈ r.2.2, ¬ fr i := fun i hi => not_fr R (hl i hi)
    have R1 := R.sealedAll hnfr
    have hid : fr nb := hnb nb (by omega) (by omega)
    obtain ⟨rr, hfill, hrr⟩ := fill_seq (k := k) ((ps.toList.map (·.2)).map a.eval) 0 ((Array.range (n * k)).map (z.cells[· % z.cells.size]!)) q1 (by simp [hn])
    have hrr' : rr.toList = (((ps.toList.map (·.2)).map a.eval).map fun u => u.cells.toList).flatten := by
      rw [hrr]
      simp [hn]
    obtain ⟨cl', R2, X2⟩ := madeArr R1 (e := e) (deep := r.2.1 && nodupB r.2.2) (k := k) hid (els := r.1) (c := rr) q2 hV ⟨[], by rw [hrr']; simp⟩ (froz_seals hFB) (fun hd => by
      simp only [Bool.and_eq_true] at hd
      exact claims_new R (hCl hd.1 (nodupB_spec hd.2)))
    have hle : ∀ i, fr' i → lessF fr nb i := fun i hi => by obtain ⟨h1, h2⟩ := hfr i hi; exact ⟨h1, by omega⟩
    have hlen : r.1.length = n := by
      have := AVL_length h3
      simp at this
      omega
    rw [upds_append]
    refine did_val (u := .slice (some ⟨w.heap.size, 0, none⟩) n n) (w' := pushW w (.cells rr e)) ?_ ⟨_, cl', R2.less hle, [], ?_, froz_nil⟩
    · simp only [execOp, ho, Instr.buildSlice, run_bind, run_underlying hu, run_sizeOf hie, hik]
      rw [if_neg (by omega)]
      have hparts : (ps.map fun x => (x.1, a.eval x.2)).toList = (((ps.toList.map (·.2)).map a.eval).zipIdx 0).map fun x => (x.2, x.1) := by
        rw [Array.toList_map]
        exact zip_idx ps.toList 0 (by rw [hidx, List.range_eq_range']; simp [hn])
      have fin : ∀ (arr : Array Value), arr = (Array.range (n * k)).map (z.cells[· % z.cells.size]!) → Instr.fill (fun i => some (i * k, k)) arr (ps.map fun x => (x.1, a.eval x.2)).toList = some rr := by
        intro arr harr
        rw [harr, hparts]; exact hfill
      by_cases hz0 : n * k = 0
      · have h0 := fin ((Array.range (n * k)).map ((#[] : Array Value)[· % (#[] : Array Value).size]!)) (by rw [hz0]; apply Array.ext'; simp)
        simp only [hz0] at h0
        simp only [hz0, if_true, run_bind, run_pure]
        have h0' : Instr.fill (fun i => some (i * k, k)) (Array.map (fun x => (#[] : Array Value)[x % (#[] : Array Value).size]!) (Array.range 0)) (Array.map (fun x => (x.fst, a.eval x.snd)) ps).toList = some rr := h0
        rw [h0']
        simp only [run_bind, run_newRow, run_pure]
      · have h0 := fin _ rfl
        simp only [hz0, if_false, run_bind, run_zeroValue hie2 hzz, run_pure]
        have h0' : Instr.fill (fun i => some (i * k, k)) (Array.map (fun x => z.cells[x % z.cells.size]!) (Array.range (n * k))) (Array.map (fun x => (x.fst, a.eval x.snd)) ps).toList = some rr := h0
        rw [h0']
        simp only [run_bind, run_newRow, run_pure]
    · have hA := aref_made (w' := pushW w (.cells rr e)) (st := st.upds (sealU r.2.2)) (m := m) (fr := fr) (id := nb) (k := k) (b := w.heap.size) (cap := n) (deep := r.2.1 && nodupB r.2.2) (t := true) (els := r.1) (by omega) (fun _ => hlen.symm) (by
        simp only [World.bsz, pushW_new]
        rw [← Array.length_toList, hrr', RV_length hV, flat_len q2, hlen]
        exact Nat.le_refl _)
      rw [hlen] at hA
      exact hA.goes (goes_fr hle _) (fun b hb => by cases hb)
  · exact h.elim
end
end Go.Den
end
section
namespace Go.Den
open Go
set_option linter.unusedSimpArgs false
set_option linter.unusedVariables false
section
variable {P : Program} {E : Env} {w0 w w' : World} {rs : List Nat} {cs : Cs} {m m' : Gm} {cl : Nat → List Nat} {fr fr' : Nat → Prop} {st : St} {tmps : Array Value}
variable {a : Act} {o : Oper} {nb : Nat} {v : AV} {us : List Upd}
variable (ET : ∀ t ti, E.tt t = some ti → ttOf P t = some ti)
theorem RV_splice {xs ds : List RD} {vs us : List Value} {f g : List Nat} (h : RV w xs vs f) (h2 : RV w ds us g) (p : Nat) (hp : p + ds.length ≤ xs.length) :
    ∃ f1 f2 f3, f = f1 ++ (f2 ++ f3) ∧ RV w (splice xs p ds) (splice vs p us) (f1 ++ (g ++ f3)) := by
  have e : xs = xs.take p ++ ((xs.drop p).take ds.length ++ (xs.drop p).drop ds.length) := by rw [List.take_append_drop, List.take_append_drop]
  have hl := RV_length h
  have hl2 := RV_length h2
  rw [e, RV_append] at h
  obtain ⟨v1, v', f1, f', a1, a2, rfl, rfl⟩ := h
  rw [RV_append] at a2
  obtain ⟨v2, v3, f2, f3, a3, a4, rfl, rfl⟩ := a2
  have l1 := RV_length a1
  have l3 := RV_length a3
  rw [List.length_take_of_le (by omega)] at l1
  rw [List.length_take_of_le (by simp; omega)] at l3
  refine ⟨f1, f2, f3, rfl, ?_⟩
  unfold splice
  rw [RV_append]
  refine ⟨v1, us ++ v3, f1, g ++ f3, a1, ?_, ?_, rfl⟩
  · rw [RV_append]
    exact ⟨us, v3, g, f3, h2, by rw [List.drop_drop] at a4; exact a4, rfl, rfl⟩
  · have t1 : (v1 ++ (v2 ++ v3)).take p = v1 := by rw [← l1, List.take_left]
    have t2 : (v1 ++ (v2 ++ v3)).drop (p + us.length) = v3 := by
      rw [← List.append_assoc, hl2, ← l1, ← l3, ← List.length_append, List.drop_left]
    rw [t1, t2]
theorem set_flat {k : Nat} : ∀ {els : List (List RD)} {i j : Nat} {c ds : List RD}, (∀ x ∈ els, x.length = k) → els[i]? = some c → j + ds.length ≤ k →
    (els.set i (splice c j ds)).flatten = splice els.flatten (i * k + j) ds ∧ ∀ x ∈ els.set i (splice c j ds), x.length = k
  | [], i, j, c, ds, _, h, _ => by simp at h
  | x :: xs, 0, j, c, ds, hk, h, hj => by
    simp at h
    subst h
    have hx := hk x (by simp)
    refine ⟨?_, ?_⟩
    · simp only [List.set_cons_zero, List.flatten_cons, Nat.zero_mul, Nat.zero_add, splice, List.append_assoc]
      rw [List.take_append_of_le_length (by omega), List.drop_append_of_le_length (by omega)]
    · intro y hy
      simp only [List.set_cons_zero, List.mem_cons] at hy
      rcases hy with rfl | hy
      · rw [splice_length (by omega)]; exact hx
      · exact hk y (by simp [hy])
  | x :: xs, i + 1, j, c, ds, hk, h, hj => by
    simp only [List.getElem?_cons_succ] at h
    obtain ⟨e1, e2⟩ := set_flat (fun y hy => hk y (by simp [hy])) h hj
    have hx := hk x (by simp)
    refine ⟨?_, ?_⟩
    · simp only [List.set_cons_succ, List.flatten_cons, e1]
      unfold splice
      have e3 : (i + 1) * k + j = x.length + (i * k + j) := by rw [Nat.add_mul, hx]; omega
      rw [e3, Nat.add_assoc x.length, List.take_append, List.drop_append]
      have e4 : x.length + (i * k + j) - x.length = i * k + j := by omega
      have e5 : x.length + (i * k + j + ds.length) - x.length = i * k + j + ds.length := by omega
      rw [e4, e5, List.take_of_length_le (show x.length ≤ x.length + (i * k + j) by omega), List.drop_of_length_le (show x.length ≤ x.length + (i * k + j + ds.length) by omega)]
      simp
    · intro y hy
      simp only [List.set_cons_succ, List.mem_cons] at hy
      rcases hy with rfl | hy
      · exact hx
      · exact e2 y hy
theorem RE_vals {b k : Nat} {els : List (List RD)} {gs : List Nat} (h : RE w b 0 k els gs) : (∀ x ∈ els, x.length = k) ∧ ∃ vs, RV w els.flatten vs gs ∧ vs.length = els.length * k ∧ ∀ j (h : j < vs.length), w.cell? ⟨b, j, none⟩ = some vs[j] := by
  rw [RE_RL] at h
  obtain ⟨vs, h1, h2⟩ := RL_RV h.2
  refine ⟨h.1, vs, h1, by rw [RV_length h1, flat_len h.1], fun j hj => by simpa using h2 j hj⟩
theorem cells_pre {b e : Nat} {c : Array Value} {vs : List Value} (hw : w.heap[b]? = some (.cells c e (0, 0))) (h : ∀ j (h : j < vs.length), w.cell? ⟨b, j, none⟩ = some vs[j]) : ∃ rest, c.toList = vs ++ rest := by
  refine ⟨c.toList.drop vs.length, ?_⟩
  have hle : vs.length ≤ c.toList.length := by
    by_cases h0 : vs.length = 0
    · omega
    · have := h (vs.length - 1) (by omega)
      simp only [World.cell?, hw] at this
      simp at this
      have := (Array.getElem?_eq_some_iff.1 this).1
      simp; omega
  have : c.toList.take vs.length = vs := by
    apply List.ext_getElem
    · simp at hle ⊢; omega
    · intro j h1 h2
      have := h j h2
      simp only [World.cell?, hw] at this
      simp at this
      have h3 := (Array.getElem?_eq_some_iff.1 this)
      simp [h3.2]
  conv => lhs; rw [← List.take_append_drop vs.length c.toList, this]
theorem splice_pre {vs rest us : List Value} {p : Nat} (h : p + us.length ≤ vs.length) : splice (vs ++ rest) p us = splice vs p us ++ rest := by
  unfold splice
  rw [List.take_append_of_le_length (by omega), List.drop_append_of_le_length (by omega)]
  simp
theorem putArr (R : Rel w0 rs cs m cl fr st tmps w) {id k : Nat} {deep deep' : Bool} {els els' : List (List RD)} {b e : Nat} {c c' : Array Value} {gs : List Nat} {vs : List Value} (ho : st.ob id = some (.arr k deep els)) (hp : st.pm id = false)
    (hlen : els'.length = els.length) (hm : m id = some b) (hw : w.heap[b]? = some (.cells c e (0, 0))) (hsz : c'.size = c.size) (hk : ∀ x ∈ els', x.length = k)
    (hV : RV w els'.flatten vs gs) (hc : ∃ rest, c'.toList = vs ++ rest) (hF : Froz m st w gs)
    (hd : deep' = true → gs.Nodup ∧ (∀ b ∈ gs, b ∈ rs ∨ b ∈ cs ∨ w0.heap.size ≤ b) ∧ ∀ i o', i ≠ id → st.ob i = some o' → deepO o' = true → st.pm i = false → ∀ b ∈ gs, b ∉ cl i) :
    ∃ cl', Rel w0 rs cs m cl' fr (st.upd (.ob id (some (.arr k deep' els')))) tmps (w.setRow b c') ∧ Ext m st fr w m (st.upd (.ob id (some (.arr k deep' els')))) fr (w.setRow b c') := by
  have hC : Chg (fun b' => m id = some b') w (w.setRow b c') := setRow_chg hm
  have hbz : ∀ b', m id = some b' → World.bsz w b' ≤ World.bsz (w.setRow b c') b' := by
    intro b' hb'
    have : b' = b := Option.some.inj (hb'.symm.trans hm)
    subst this
    rw [bsz_setRow hw hsz]; exact Nat.le_refl _
  have hs : shape (.arr k deep els) (.arr k deep' els') := ⟨rfl, hlen.symm⟩
  have X := ext_put R ho hp hs hC hbz
  obtain ⟨rest, hrest⟩ := hc
  have hV' : RV (w.setRow b c') els'.flatten vs gs := hV.keep (fun x hx => X.same hF x hx)
  have hl := RV_length hV
  have hfl := flat_len hk
  have hw' := setRow_heap w b c c' e (0, 0) hw
  have hsz2 : els'.length * k ≤ c'.size := by
    rw [← Array.length_toList, hrest, List.length_append, hl, hfl]; omega
  have hE : RE (w.setRow b c') b 0 k els' gs := by
    rw [RE_RL]
    refine ⟨hk, RV_RL hV' (fun j hj => ?_)⟩
    have h1 : j < c'.size := by rw [← Array.length_toList, hrest, List.length_append]; omega
    have h2 : c'[j] = vs[j] := by
      have : c'.toList[j]'(by simpa using h1) = vs[j] := by
        simp only [hrest]
        rw [List.getElem_append_left]
      simpa using this
    simp [World.cell?, hw', h1, h2]
  have R2 := R.put ho hp hs hC hbz (fs := gs) (.inr ⟨b, c', e, hm, hw', hsz2, hE⟩) (X.froz hF) hd
  exact ⟨_, R2, X⟩
include ET in
theorem ok_storeArr (R : Rel w0 rs cs m cl fr st a.tmps w) (hfr : ∀ id, fr' id → fr id) {t : Nat} {x y : Operand} (ho : o.op = .store t x y)
    {ti : TInfo} (ht : E.tt t = some ti) {id i j k : Nat} {deep : Bool} {els : List (List RD)} {c : List RD} (hx : Ans E st (opd x) (.eref id i j)) {q : AV} (hy : Ans E st (opd y) q) (hcl : (cellsOf q).length = ti.size)
    (hc : (cellsOf q).all isCell = true) (hb : st.ob id = some (.arr k deep els)) (hp : st.pm id = false) (hi : els[i]? = some c) (hle : j + ti.size ≤ c.length) {r : List RD × Bool × List Nat} (h : Ans E st (foldCs (cellsOf q)) r) (hnd : nodupB (id :: r.2.2) = true) :
    Did P o a.eval w (Aft w0 rs cs fr' (st.upds (sealU r.2.2 ++ [.ob id (some (.arr k (deep && r.2.1) (els.set i (splice c j r.1))))])) a.tmps (.tup [])) := by
  obtain ⟨ie, z, d, hie, hs, _, _, _, hu, _, _, _⟩ := (tok_of (ET t ti ht)).info
  obtain ⟨fx, hx1, _⟩ := opd_ok R hx
  obtain ⟨fy, hy1, hy2⟩ := opd_ok R hy
  have hL := cellsOf_ok hy1 hc
  have hone := AVL_one hL hc
  have hlenq := AVL_length hL
  obtain ⟨hl, gs, hV, hFB, hCl⟩ := foldCs_ok R hL hy2 h
  have hnd' := nodupB_spec hnd
  have hlr := RV_length hV
  have hnfr : ∀ i ∈ r.2.2, ¬ fr i := fun i hi => not_fr R (hl i hi)
  have R1 := R.sealedAll hnfr
  have hb1 : (st.upds (sealU r.2.2)).ob id = some (.arr k deep els) := by rw [seals_ob]; exact hb
  have hid : id ∉ r.2.2 := (List.nodup_cons.1 hnd').1
  have hp1 : (st.upds (sealU r.2.2)).pm id = false := seals_pm.2 ⟨hp, hid⟩
  obtain ⟨f, hO, hF, hclf⟩ := R1.ob id _ hb1
  obtain ⟨b, hm, he⟩ := hx1.2.2 _ _ _ hb
  rcases hO with ⟨h0, _⟩ | ⟨b', av, e, hm', hw, hsz, hE⟩
  · subst h0; simp at hi
  · have hbb : b' = b := Option.some.inj (hm'.symm.trans hm)
    subst hbb
    obtain ⟨hk, vs, hV0, hvl, hcell⟩ := RE_vals hE
    have hck : c.length = k := hk c (List.mem_of_getElem? hi)
    obtain ⟨hsf, hsk⟩ := set_flat (ds := r.1) (j := j) hk hi (by omega)
    obtain ⟨rest, hrest⟩ := cells_pre hw hcell
    have hilt := (List.getElem?_eq_some_iff.1 hi).1
    have hik : (i + 1) * k ≤ els.length * k := Nat.mul_le_mul_right k hilt
    have hik2 : (i + 1) * k = i * k + k := by rw [Nat.add_mul]; omega
    have hpl : i * k + j + r.1.length ≤ els.flatten.length := by rw [flat_len hk]; omega
    obtain ⟨f1, f2, f3, hf, hV2⟩ := RV_splice hV0 hV (i * k + j) hpl
    have hpre : splice av.toList (i * k + j) (a.eval y).cells.toList = splice vs (i * k + j) (a.eval y).cells.toList ++ rest := by
      rw [hrest]; exact splice_pre (by rw [hvl]; omega)
    have hF2 : Froz m (st.upds (sealU r.2.2)) w (f1 ++ (gs ++ f3)) := by
      intro x hx
      simp only [List.mem_append] at hx
      rcases hx with hx | hx | hx
      · exact hF x (by rw [hf]; simp [hx])
      · exact froz_seals hFB x hx
      · exact hF x (by rw [hf]; simp [hx])
    obtain ⟨cl', R2, X2⟩ := putArr R1 (deep' := deep && r.2.1) (els' := els.set i (splice c j r.1)) (c' := ⟨splice av.toList (i * k + j) (a.eval y).cells.toList⟩) hb1 hp1 (by simp) hm' hw
      (by have := splice_length (xs := av.toList) (ds := (a.eval y).cells.toList) (j := i * k + j) (by rw [hrest, List.length_append, hvl]; omega); simpa using this) hsk (by rw [hsf]; exact hV2) ⟨rest, hpre⟩ hF2 (fun hd => by
        simp only [Bool.and_eq_true] at hd
        have hcn := hCl hd.2 (List.nodup_cons.1 hnd').2
        obtain ⟨c1, c2, c3⟩ := claims_new R hcn
        have hfc := hclf hd.1 hp1
        have hcl1 := R1.cl1 id _ hb1 hd.1 hp1
        rw [← hfc, hf] at hcl1
        -- what is new lies apart from what the array had
        have hap : ∀ x ∈ gs, x ∉ f1 ++ (f2 ++ f3) := by
          intro x hx hx2
          obtain ⟨q', hq', ⟨oq, hoq, hdq⟩, hpq, hxq⟩ := hcn.2 x hx
          have := own_apart R hoq hb hdq hd.1 hpq hp (fun e => hid (e ▸ hq')) x hxq
          simp only [ownL, List.mem_append, not_or] at this
          apply this.2
          have hfc2 : f = cl id := hfc
          rw [← hfc2, hf]; exact hx2
        refine ⟨?_, ?_, ?_⟩
        · have n1 := hcl1.1
          rw [List.nodup_append] at n1 ⊢
          obtain ⟨n1, n2, n3⟩ := n1
          rw [List.nodup_append] at n2
          refine ⟨n1, List.nodup_append.2 ⟨c1, n2.2.1, fun x hx y hy e => hap x hx (by simp [e, hy])⟩, fun x hx y hy e => ?_⟩
          subst e
          rcases List.mem_append.1 hy with hy | hy
          · exact hap x hy (by simp [hx])
          · exact n3 x hx x (by simp [hy]) rfl
        · intro x hx
          simp only [List.mem_append] at hx
          rcases hx with hx | hx | hx
          · exact hcl1.2 x (by simp [hx])
          · exact c2 x hx
          · exact hcl1.2 x (by simp [hx])
        · intro i' o' hne ho' hdo' hpo' x hx
          have old : ∀ y ∈ f1 ++ (f2 ++ f3), y ∉ cl i' := by
            intro y hy
            have := R1.cl2 id i' _ o' hb1 ho' hd.1 hdo' hp1 hpo' (fun e => hne e.symm) y
            rw [← hfc, hf] at this
            exact this hy
          simp only [List.mem_append] at hx
          rcases hx with hx | hx | hx
          · exact old x (by simp [hx])
          · exact c3 i' o' ho' hdo' hpo' x hx
          · exact old x (by simp [hx]))
    rw [upds_append]
    refine .inr (.inl ⟨w.setRow b' ⟨splice av.toList (i * k + j) (a.eval y).cells.toList⟩, ?_, ⟨_, cl', R2.less hfr, [], undef_ok, froz_nil⟩⟩)
    simp only [execOp, ho, Instr.storeAt, he, Instr.sureAddr, run_bind, run_pure]
    rw [run_storeVar hie (by omega) hw (by omega) hone]
end
end Go.Den
end
section
namespace Go.Den
open Go
set_option linter.unusedSimpArgs false
set_option linter.unusedVariables false
section
variable {P : Program} {E : Env} {w0 w w' : World} {rs : List Nat} {cs : Cs} {m m' : Gm} {cl : Nat → List Nat} {fr fr' : Nat → Prop} {st : St} {tmps : Array Value}
def drawW (w : World) (d : Nat) : World := { w with drawn := d }
theorem drawW_chg (S : Nat → Prop) (w : World) (d : Nat) : Chg S w (drawW w d) := ⟨rfl, rfl, rfl, Nat.le_refl _, fun _ _ _ => rfl⟩
theorem growBy_le (n : Nat) (hn : 256 ≤ n) : ∀ (r c : Nat), c < n → Builtin.growBy n r c ≤ 2 * n
  | 0, c, h => by simp only [Builtin.growBy]; omega
  | r + 1, c, h => by
    simp only [Builtin.growBy]
    rw [if_neg (by omega)]
    by_cases h2 : c + (c + 768) / 4 < n
    · exact growBy_le n hn r _ h2
    · cases r with
      | zero => simp only [Builtin.growBy]; omega
      | succ r => simp only [Builtin.growBy]; rw [if_pos (by omega)]; omega
theorem nextcap_le {n c : Nat} (h : c < n) : Builtin.nextslicecap n c ≤ 2 * n := by
  unfold Builtin.nextslicecap
  split
  · omega
  · split
    · omega
    · exact growBy_le n (by omega) 4 c h
theorem run_ask {q : Nat} {w : World} : (askRoom q).run P w = .ok () w := by unfold askRoom; split <;> simp [mark, Sem.run, run_pure]
theorem run_choose_cap {need c e : Nat} (w : World) (hn : need ≤ 4611686018427387904) : ∃ cap, need ≤ cap ∧ (choose (.appendCap need c e)).run P w = .ok cap (drawW w (w.drawn + 1)) := by
  refine ⟨need + (w.tape w.drawn (.appendCap need c e)) % (2 ^ 63 - need), Nat.le_add_right _ _, ?_⟩
  simp [choose, Sem.run, Question.forced, Question.cut, drawW]
theorem run_append {t1 t2 e k eb e2 k2 eb2 : Nat} {ie : TypeInfo} {z : Value} {ty : Nat} {A B : Option Addr} {n c p q : Nat} {os ns : List Value} {args : Array Nat} {vals : Array Value}
    (htk : tkOf P t1 = some (.slice e k eb)) (htk2 : tkOf P t2 = some (.slice e2 k2 eb2)) (hi : P.info? e = some ie) (hz : ie.zero = some z) (hk : z.cells.size = k)
    (ha0 : args[0]? = some t1) (ha1 : args[1]? = some t2) (hv0 : vals[0]? = some (.slice A n c)) (hv1 : vals[1]? = some (.slice B p q))
    (ho : ∀ d, (Builtin.firstCells k n (.slice A n c)).run P (drawW w d) = .ok ⟨os⟩ (drawW w d)) (hs : ∀ d, (Builtin.firstCells k p (.slice B p q)).run P (drawW w d) = .ok ⟨ns⟩ (drawW w d))
    (hb : 2 * (n + p) * eb ≤ 140737488355328) (hbig : n + p ≤ 4611686018427387904) :
    (n + p ≤ c ∧ ∀ w', (match A with | some a => (storeCells (a.add (n * k)) ns).run P w | none => .ok () w) = .ok () w' → (Builtin.append_ args ty vals).run P w = .ok (.slice A (n + p) c) w') ∨
    (c < n + p ∧ ∃ cap rest, n + p ≤ cap ∧ rest.length = (cap - (n + p)) * k ∧ (Builtin.append_ args ty vals).run P w = .ok (.slice (some ⟨w.heap.size, 0, none⟩) (n + p) cap) (pushW (drawW w (w.drawn + 1)) (.cells ⟨os ++ (ns ++ rest)⟩ e))) := by
  obtain ⟨hu, ie', hi', hsz, hbt⟩ := tk_slice htk
  have : ie' = ie := Option.some.inj (hi'.symm.trans hi)
  subst this
  obtain ⟨hu2, _⟩ := tk_slice htk2
  have hw0 : drawW w w.drawn = w := rfl
  have hs0 := hs w.drawn
  rw [hw0] at hs0
  by_cases hle : n + p ≤ c
  · refine .inl ⟨hle, fun w' hst => ?_⟩
    unfold Builtin.append_
    simp only [ha0, ha1, hv0, hv1, run_bind, run_underlying hu, run_underlying hu2, run_sizeOf hi, run_pure, Builtin.lenOf, hsz, Bool.false_eq_true, if_false, hle, if_true, Bool.not_false, hs0]
    cases A with
    | none =>
      simp only at hst ⊢
      cases hst
      simp [run_pure]
    | some a =>
      simp only at hst ⊢
      simp [run_bind, hst, run_pure]
  · refine .inr ⟨by omega, ?_⟩
    obtain ⟨cap, hcap, hch⟩ := run_choose_cap (P := P) (c := c) (e := e) w hbig
    have hcap2 : Builtin.nextslicecap (n + p) c * ie'.bytes ≤ 2 ^ 48 := by
      have h1 := nextcap_le (n := n + p) (c := c) (by omega)
      rw [hbt]
      have h2 := Nat.mul_le_mul_right eb h1
      omega
    have hmax : ¬ (((n + p : Nat) : Int) > IntKind.i64.max) := by
      have : IntKind.i64.max = 9223372036854775807 := by decide
      rw [this]; omega
    refine ⟨cap, (Builtin.zeroCells z.cells (cap - (n + p))).toList, hcap, ?_, ?_⟩
    · simp [Builtin.zeroCells, hk]
    · unfold Builtin.append_
      simp only [ha0, ha1, hv0, hv1, run_bind, run_underlying hu, run_underlying hu2, run_sizeOf hi, run_pure, Builtin.lenOf, hsz, Bool.false_eq_true, if_false, hle, Bool.not_false, if_true]
      have c1 : ¬ ((((n + p : Nat) : Int) > IntKind.i64.max) ∧ (False ∨ ie'.bytes = 0)) := fun h => hmax h.1
      have c2 : ¬ (Builtin.nextslicecap (n + p) c * ie'.bytes > 2 ^ 48) := by omega
      simp only [run_bind, run_typeInfo hi, run_pure, hmax, false_and, if_false, c2, hch, run_ask, ho, hs, run_zeroValue hi hz]
      simp only [run_newRow]
      congr 3
      apply Array.ext'
      simp
end
end Go.Den
end
section
namespace Go.Den
open Go
set_option linter.unusedSimpArgs false
set_option linter.unusedVariables false
section
variable {P : Program} {E : Env} {w0 w w' : World} {rs : List Nat} {cs : Cs} {m m' : Gm} {cl : Nat → List Nat} {fr fr' : Nat → Prop} {st : St} {tmps : Array Value}
variable {a : Act} {o : Oper} {nb : Nat} {v : AV} {us : List Upd}
variable (ET : ∀ t ti, E.tt t = some ti → ttOf P t = some ti)
theorem FrozBut.sub2 {s f g : List Nat} (h : FrozBut m st w s g) (hs : ∀ b ∈ f, b ∈ g) : FrozBut m st w s f := fun b hb => h b (hs b hb)
theorem read_RR {t : Bool} {els : List (List RD)} {v : Value} {gs : List Nat} {k : Nat} (h : RR w (.sl t els) v gs) (hk : ∀ x ∈ els, x.length = k) :
    ∃ A c vs g, v = .slice A els.length c ∧ els.length ≤ c ∧ (t = true → c = els.length) ∧ RV w els.flatten vs g ∧ (∀ x ∈ g, x ∈ gs) ∧ (gs.Nodup → g.Nodup) ∧ vs.length = els.length * k ∧
      (∀ d, (Builtin.firstCells k els.length v).run P (drawW w d) = .ok ⟨vs⟩ (drawW w d)) := by
  simp only [RR] at h
  obtain ⟨A, c, rfl, h2, h3, h4⟩ := h
  rcases h4 with ⟨rfl, rfl⟩ | ⟨b, o, k', g, rfl, hne, rfl, hE⟩
  · refine ⟨A, c, [], [], rfl, h2, h3, by simp [RV], by simp, by simp, by simp, fun d => ?_⟩
    cases A with
    | none => simp [Builtin.firstCells, run_pure]
    | some a => simp [Builtin.firstCells, loadCells, loadCellsFrom, run_pure]
  · have hkk : k' = k := by
      cases els with
      | nil => exact (hne rfl).elim
      | cons x xs => simp only [RE] at hE; obtain ⟨_, _, h5, _⟩ := hE; rw [← h5]; exact hk x (by simp)
    subst hkk
    rw [RE_RL] at hE
    obtain ⟨vs, h5, h6⟩ := RL_RV hE.2
    have hl : vs.length = els.length * k' := by rw [RV_length h5, flat_len hk]
    refine ⟨_, c, vs, g, rfl, h2, h3, h5, by simp +contextual, fun hn => (List.nodup_cons.1 hn).2, hl, fun d => ?_⟩
    simp only [Builtin.firstCells]
    exact run_loadCells (w := drawW w d) hl (fun j hj => h6 j hj)
theorem allLit_fs : ∀ {els : List (List RD)} {vs : List Value} {gs : List Nat}, RV w els.flatten vs gs → allLit els = true → gs = [] := by
  have one : ∀ {ds : List RD} {vs : List Value} {gs : List Nat}, RV w ds vs gs → ds.all isLit = true → gs = [] := by
    intro ds
    induction ds with
    | nil => intro vs gs h _; simp only [RV] at h; exact h.2
    | cons d ds ih =>
      intro vs gs h hl
      simp only [RV] at h
      obtain ⟨v, us, f, g, rfl, h2, h3, rfl⟩ := h
      simp only [List.all_cons, Bool.and_eq_true] at hl
      rw [isLit_fs h2 hl.1, ih h3 hl.2]; rfl
  intro els vs gs h hl
  refine one h ?_
  unfold allLit at hl
  rw [List.all_flatten]
  exact hl
theorem lstOf_ok (R : Rel w0 rs cs m cl fr st tmps w) {k : Nat} {x : AV} {v : Value} {fs : List Nat} {r : List (List RD) × Bool × List Nat} (h : AVR (st.mp m fr) w x v fs) (hF : Froz m st w fs) {sc : Bool} (hA : Ans E st (lstOf k sc x) r) :
    (∀ i ∈ r.2.2, st.ob i ≠ none) ∧ (∀ e ∈ r.1, e.length = k) ∧ r.2.2.Nodup ∧ ∃ A c vs gs, v = .slice A r.1.length c ∧ r.1.length ≤ c ∧ RV w r.1.flatten vs gs ∧ FrozBut m st w r.2.2 gs ∧ (r.2.1 = true → Claims m cl st r.2.2 gs) ∧
      (∀ d, (Builtin.firstCells k r.1.length v).run P (drawW w d) = .ok ⟨vs⟩ (drawW w d)) := by
  unfold lstOf at hA
  split at hA
  · simp only [ans_ret] at hA
    subst hA
    simp only [AVR] at h
    rw [h.1]
    exact ⟨by simp, by simp, by simp, none, 0, [], [], rfl, Nat.le_refl _, by simp [RV], fun b hb => (by cases hb), fun _ => ⟨by simp, by simp⟩, fun d => by simp [Builtin.firstCells, run_pure]⟩
  · rename_i t0 els0
    simp only [ans_bind, ans_need, ans_ret] at hA
    obtain ⟨_, hk, _, hlit, rfl⟩ := hA
    have hlit' : sc = true → allLit els0 = true := fun hs => by rw [hs] at hlit; exact hlit
    have hk' : ∀ e ∈ els0, e.length = k := fun e he => Nat.eq_of_beq_eq_true (List.all_eq_true.1 hk e he)
    simp only [AVR] at h
    obtain ⟨A, c, vs, g, h1, h2, h3, h4, h5, h6, h7, h8⟩ := read_RR (P := P) h hk'
    exact ⟨by simp, hk', by simp, A, c, vs, g, h1, h2, h4, FrozBut.sub2 (FrozBut.of hF []) h5, fun hl => by rw [allLit_fs h4 (hlit' hl)]; exact ⟨by simp, by simp⟩, h8⟩
  · rename_i id t
    simp only [ans_ob] at hA
    split at hA
    · rename_i k' deep els hb
      simp only [ans_pm, ans_bind, ans_need, ans_ret] at hA
      obtain ⟨_, hkk, rfl⟩ := hA
      have hkk := Nat.eq_of_beq_eq_true hkk
      subst hkk
      obtain ⟨f, hO, _, _⟩ := R.ob id _ hb
      have hk' : ∀ e ∈ els, e.length = k := by
        rcases hO with ⟨rfl, _⟩ | ⟨_, _, _, _, _, _, hE⟩
        · simp
        · exact (RE_vals hE).1
      obtain ⟨gs, e1, e2, e3⟩ := arr_RR R hb h
      obtain ⟨A, c, vs, g, h1, h2, h3, h4, h5, h6, h7, h8⟩ := read_RR (P := P) e1 hk'
      refine ⟨fun i hi => by simp at hi; subst hi; simp [hb], hk', by simp, A, c, vs, g, h1, h2, h4, FrozBut.sub2 e2 h5, fun hl => ?_, h8⟩
      simp only [Bool.and_eq_true, Bool.not_eq_true'] at hl
      obtain ⟨e4, e5⟩ := e3 hl.1 hl.2
      exact ⟨h6 e4, fun x hx => ⟨id, by simp, ⟨_, hb, hl.1⟩, hl.2, e5 x (h5 x hx)⟩⟩
    · exact hA.elim
  · rename_i id off n t
    simp only [ans_ob] at hA
    split at hA
    · rename_i k' deep els hb
      simp only [ans_bind, ans_need, ans_ret] at hA
      obtain ⟨_, hkk, _, hlit, rfl⟩ := hA
      have hlit' : sc = true → allLit ((els.drop off).take n) = true := fun hs => by rw [hs] at hlit; exact hlit
      have hkk := Nat.eq_of_beq_eq_true hkk
      subst hkk
      obtain ⟨f, hO, _, _⟩ := R.ob id _ hb
      have hk0 : ∀ e ∈ els, e.length = k := by
        rcases hO with ⟨rfl, _⟩ | ⟨_, _, _, _, _, _, hE⟩
        · simp
        · exact (RE_vals hE).1
      have hk' : ∀ e ∈ (els.drop off).take n, e.length = k := fun e he => hk0 e (List.mem_of_mem_drop (List.mem_of_mem_take he))
      obtain ⟨gs, e1, e2, e3⟩ := sref_RR R hb h
      obtain ⟨A, c, vs, g, h1, h2, h3, h4, h5, h6, h7, h8⟩ := read_RR (P := P) e1 hk'
      exact ⟨fun i hi => by simp at hi; subst hi; simp [hb], hk', by simp, A, c, vs, g, h1, h2, h4, FrozBut.sub2 e2 h5, fun hl => by rw [allLit_fs h4 (hlit' hl)]; exact ⟨by simp, by simp⟩, h8⟩
    · exact hA.elim
  · exact hA.elim
theorem Rel.drew (R : Rel w0 rs cs m cl fr st tmps w) (d : Nat) : Rel w0 rs cs m cl fr st tmps (drawW w d) := R.drawn (drawW_chg _ w d)
theorem RV_drew {ds : List RD} {vs : List Value} {gs : List Nat} (h : RV w ds vs gs) (d : Nat) : RV (drawW w d) ds vs gs := h.keep (fun _ _ => rfl)
theorem Froz.drew {fs : List Nat} (h : Froz m st w fs) (d : Nat) : Froz m st (drawW w d) fs := h
theorem movedArr (R : Rel w0 rs cs m cl fr st tmps w) {id id' k : Nat} {deep deep' : Bool} {els els' : List (List RD)} {b e : Nat} {c c' : Array Value} {gs : List Nat} {vs : List Value} (ho : st.ob id = some (.arr k deep els)) (hp : st.pm id = false) (hid : fr id')
    (hm : m id = some b) (hw : w.heap[b]? = some (.cells c e (0, 0))) (hsz : c'.size = c.size) (hk : ∀ x ∈ els', x.length = k)
    (hV : RV w els'.flatten vs gs) (hc : ∃ rest, c'.toList = vs ++ rest) (hF : Froz m st w gs)
    (hd : deep' = true → gs.Nodup ∧ (∀ b ∈ gs, b ∈ rs ∨ b ∈ cs ∨ w0.heap.size ≤ b) ∧ ∀ i o', i ≠ id → st.ob i = some o' → deepO o' = true → st.pm i = false → ∀ b ∈ gs, b ∉ cl i) :
    ∃ cl', Rel w0 rs cs (setM m id' (some b)) cl' (lessF fr id') ((st.upd (.ob id none)).upd (.ob id' (some (.arr k deep' els')))) tmps (w.setRow b c') := by
  have hne : id ≠ id' := fun h => not_fr R (by simp [ho]) (h ▸ hid)
  have hl : ∀ i, i ≠ id → i ≠ id' → ((st.upd (.ob id none)).upd (.ob id' (some (.arr k deep' els')))).ob i = st.ob i := fun i h1 h2 => by rw [upd_ob_other _ _ h2, upd_ob_other _ _ h1]
  have h_id : ((st.upd (.ob id none)).upd (.ob id' (some (.arr k deep' els')))).ob id = none := by rw [upd_ob_other _ _ hne, upd_ob_same]
  have h_id' : ((st.upd (.ob id none)).upd (.ob id' (some (.arr k deep' els')))).ob id' = some (.arr k deep' els') := upd_ob_same _ _ _
  have live : ∀ i, i ≠ id' → ((st.upd (.ob id none)).upd (.ob id' (some (.arr k deep' els')))).ob i ≠ none → i ≠ id ∧ st.ob i ≠ none := by
    intro i h1 h2
    by_cases h3 : i = id
    · subst h3; exact (h2 h_id).elim
    · rw [hl i h3 h1] at h2; exact ⟨h3, h2⟩
  have hC : Chg (fun b' => m id = some b') w (w.setRow b c') := setRow_chg hm
  have hfr1 : ∀ i, fr i → i ≠ id' → ((st.upd (.ob id none)).upd (.ob id' (some (.arr k deep' els')))).ob i = none := by
    intro i hf h1
    by_cases h3 : i = id
    · subst h3; exact h_id
    · rw [hl i h3 h1]; exact (R.fr i hf).1
  have G : (st.mp m fr).Goes (((st.upd (.ob id none)).upd (.ob id' (some (.arr k deep' els')))).mp (setM m id' (some b)) (lessF fr id')) w (w.setRow b c') := by
    refine ⟨fun i h => h.1, fun i o' hf ho' => ?_, fun i b' hf h1 h2 h3 => ?_, rfl⟩
    · have hi : i ≠ id' := fun h => hf (h ▸ hid)
      obtain ⟨h4, h5⟩ := live i hi (by simp only [St.mp] at ho'; simp [ho'])
      simp only [St.mp] at ho'
      rw [hl i h4 hi] at ho'
      exact ⟨o', ho', shape_refl o', by simp [St.mp, setM, hi]⟩
    · have hi : i ≠ id' := fun h => hf (h ▸ hid)
      obtain ⟨h4, h5⟩ := live i hi h3
      have hbb : b' ≠ b := fun h => h4 (R.inj i id b (arr_live h1) (by simp [ho]) (h ▸ h2) hm)
      exact Nat.le_of_eq (bsz_of (setRow_other w b b' c' hbb)).symm
  have X : ∀ {fs : List Nat}, Froz m st w fs → Froz (setM m id' (some b)) ((st.upd (.ob id none)).upd (.ob id' (some (.arr k deep' els')))) (w.setRow b c') fs := by
    intro fs h
    refine Froz.turn hC G (fun i hf h1 h2 => h2) (fun i b' hf h1 h2 => ?_) h
    by_cases hi : i = id'
    · subst hi
      simp [setM] at h2
      subst h2
      exact .inr ⟨id, by simp [ho], hp, hm⟩
    · exact (h1 (hfr1 i hf hi)).elim
  have same : ∀ {fs : List Nat}, Froz m st w fs → ∀ x ∈ fs, (w.setRow b c').heap[x]? = w.heap[x]? := fun h x hx => setRow_other w b x c' (fun e => (h x hx).2 id (by simp [ho]) hp (e ▸ hm))
  obtain ⟨rest, hrest⟩ := hc
  have hV' : RV (w.setRow b c') els'.flatten vs gs := hV.keep (same hF)
  have hlv := RV_length hV
  have hfl := flat_len hk
  have hw' := setRow_heap w b c c' e (0, 0) hw
  have hsz2 : els'.length * k ≤ c'.size := by
    rw [← Array.length_toList, hrest, List.length_append, hlv, hfl]; omega
  have hE : RE (w.setRow b c') b 0 k els' gs := by
    rw [RE_RL]
    refine ⟨hk, RV_RL hV' (fun j hj => ?_)⟩
    have h1 : j < c'.size := by rw [← Array.length_toList, hrest, List.length_append]; omega
    have h2 : c'[j] = vs[j] := by
      have : c'.toList[j]'(by simpa using h1) = vs[j] := by
        simp only [hrest]
        rw [List.getElem_append_left]
      simpa using this
    simp [World.cell?, hw', h1, h2]
  refine ⟨setC cl id' gs, R.turn rfl hC (fun b' h => ⟨id, by simp [ho], hp, h⟩) G (fun i hf h1 h2 => h2) (fun i b' hf h1 h2 => ?_) (fun i o' ho' => ?_) ?_ ?_ ?_ ?_ ?_⟩
  · by_cases hi : i = id'
    · subst hi
      simp [setM] at h2
      subst h2
      exact .inr ⟨id, by simp [ho], hp, hm⟩
    · exact (h1 (hfr1 i hf hi)).elim
  · by_cases hi : i = id'
    · subst hi
      rw [h_id'] at ho'
      cases ho'
      exact .inr ⟨gs, .inr ⟨b, c', e, by simp [St.mp, setM], hw', hsz2, hE⟩, X hF, fun _ _ => by simp [setC]⟩
    · obtain ⟨h4, h5⟩ := live i hi (by simp [ho'])
      rw [hl i h4 hi] at ho'
      exact .inl ⟨ho', not_fr R h5, fun b' hb' hb2 => h4 (R.inj i id b' h5 (by simp [ho]) hb' hb2), fun _ _ => by simp [setC, hi]⟩
  · intro i i' b' h1 h2 h3 h4
    by_cases hi : i = id'
    · by_cases hi' : i' = id'
      · rw [hi, hi']
      · exfalso
        obtain ⟨h5, h6⟩ := live i' hi' h2
        simp [setM, hi] at h3
        simp [setM, hi'] at h4
        subst h3
        exact h5 (R.inj i' id b h6 (by simp [ho]) h4 hm)
    · obtain ⟨h5, h6⟩ := live i hi h1
      by_cases hi' : i' = id'
      · exfalso
        simp [setM, hi'] at h4
        simp [setM, hi] at h3
        subst h4
        exact h5 (R.inj i id b h6 (by simp [ho]) h3 hm)
      · obtain ⟨h7, h8⟩ := live i' hi' h2
        simp [setM, hi] at h3
        simp [setM, hi'] at h4
        exact R.inj i i' b' h6 h8 h3 h4
  · intro i b' h1 h2
    by_cases hi : i = id'
    · simp [setM, hi] at h2
      subst h2
      have := R.mine id b (by simp [ho]) hm
      exact ⟨by simpa using this.1, this.2⟩
    · obtain ⟨h5, h6⟩ := live i hi h1
      simp [setM, hi] at h2
      have := R.mine i b' h6 h2
      exact ⟨by simpa using this.1, this.2⟩
  · intro i o' h1 h2 h3
    by_cases hi : i = id'
    · subst hi
      rw [h_id'] at h1
      cases h1
      simp only [setC, if_true]
      exact ⟨(hd h2).1, (hd h2).2.1⟩
    · obtain ⟨h5, h6⟩ := live i hi (by simp [h1])
      rw [hl i h5 hi] at h1
      simp only [setC, if_neg hi]
      exact R.cl1 i o' h1 h2 h3
  · intro i i' o1 o2 h1 h2 h3 h4 h5 h6 hne2 x hx
    by_cases hi : i = id'
    · have hi' : i' ≠ id' := fun e => hne2 (hi.trans e.symm)
      obtain ⟨h7, h8⟩ := live i' hi' (by simp [h2])
      subst hi
      rw [h_id'] at h1
      cases h1
      rw [hl i' h7 hi'] at h2
      simp only [setC, if_true] at hx
      simp only [setC, if_neg hi']
      exact (hd h3).2.2 i' o2 h7 h2 h4 h6 x hx
    · obtain ⟨h7, h8⟩ := live i hi (by simp [h1])
      rw [hl i h7 hi] at h1
      simp only [setC, if_neg hi] at hx
      by_cases hi' : i' = id'
      · subst hi'
        rw [h_id'] at h2
        cases h2
        simp only [setC, if_true]
        intro hx2
        exact (hd h4).2.2 i o1 h7 h1 h3 h5 x hx2 hx
      · obtain ⟨h9, h10⟩ := live i' hi' (by simp [h2])
        rw [hl i' h9 hi'] at h2
        simp only [setC, if_neg hi']
        exact R.cl2 i i' o1 o2 h1 h2 h3 h4 h5 h6 hne2 x hx
  · intro i hf
    exact ⟨hfr1 i hf.1 hf.2, (R.fr i hf.1).2⟩
end
end Go.Den
end
