/- The evaluator of straight code on abstract states: definitions. What it cannot know by itself (an element of a list, what a call answers) is given to it, and it says what must be shown of that. -/
import Derived.Test.YtipeimcdjijkgaaEm8
namespace Go.Dm
open Go
set_option linter.unnecessarySimpa false
set_option linter.constructorNameAsVariable false
set_option linter.unusedSectionVars false

inductive TK where
  | int (k : IntKind)
  | bool
  | str
  | ptr (e : TypeId)
  | slice (e : TypeId)
  | struct (flds : List (TypeId × Nat)) (eq : Bool)
  | func
  | map (k e : TypeId)
  | other

structure TI where
  k : TK
  sz : Nat
  bytes : Nat
  zero : List AV
  cz : List Nat

abbrev TyTab := TypeId → Option TI

def AV.zv : AV → Value
  | .int k n => .int k n
  | .bool b => .bool b
  | .str s => .string ⟨s.toArray⟩
  | .nils => .slice none 0 0
  | .nilp => .pointer none
  | .nilfn => .nilFunc
  | .nilmp => .map none
  | _ => undef

def AV.isZ : AV → Bool
  | .int _ _ | .bool _ | .str _ | .nils | .nilp | .nilfn | .nilmp => true
  | _ => false

def TK.agg : TK → Bool
  | .struct _ _ => true
  | _ => false

def TKOk (P : Program) (t : TypeId) : TK → Prop
  | .int k => P.underlying t = some (.int k)
  | .bool => P.underlying t = some .bool
  | .str => P.underlying t = some .string
  | .ptr e => P.underlying t = some (.pointer e)
  | .slice e => P.underlying t = some (.slice e)
  | .struct fl eq => ∃ fs, P.underlying t = some (.struct fs) ∧ fs.toList.map (fun f => (f.type, f.offset)) = fl ∧
      (eq = true → P.stoodInHeld t = false ∧ P.eqGuardType P.depth t = false ∧ fs.toList.all (fun f => decide (f.name ≠ "_")) = true)
  | .func => ∃ ps rs v, P.underlying t = some (.func ps rs v)
  | .map k e => P.underlying t = some (.map k e)
  | .other => ∃ d, P.underlying t = some d ∧ (match d with | .struct _ => false | .array _ _ => false | _ => true) = true

def _root_.Go.Value.isAgg' : Value → Bool
  | .agg _ => true
  | _ => false
structure TyOk1 (P : Program) (t : TypeId) (i : TI) : Prop where
  info : ∃ inf z, P.info? t = some inf ∧ inf.size = i.sz ∧ inf.bytes = i.bytes ∧ inf.zero = some z ∧ z.cells.toList = i.zero.map AV.zv
  lit : i.zero.all AV.isZ = true
  len : i.zero.length = i.sz
  kind : TKOk P t i.k
  one : i.k.agg = false → i.sz = 1
  ag : ∀ inf z, P.info? t = some inf → inf.zero = some z → z.isAgg' = i.k.agg

def TyOk (P : Program) (τ : TyTab) : Prop := ∀ t i, τ t = some i → TyOk1 P t i

def ofConst : Value → Option AV
  | .int k n => some (.int k n)
  | .bool b => some (.bool b)
  | .string s => some (.str s.data.toList)
  | .slice none 0 0 => some .nils
  | .pointer none => some .nilp
  | .nilFunc => some .nilfn
  | .map none => some .nilmp
  | _ => none

def val (s : S) : Operand → Option AV
  | .tmp i => aget s.fr i
  | .const v => ofConst v
  | .func f => some (.fn f [])
  | .global _ => none

/-- a slice that is nil, as an empty list: a value of a type (of each cell: 0, or the size of the elements of the slice that it is) -/
def nrmC : List Nat → List AV → List AV
  | (n + 1) :: l, .nils :: r => .sl (n + 1) [] :: nrmC l r
  | _ :: l, x :: r => x :: nrmC l r
  | [], r => r
  | _, [] => []
def norm (τ : TyTab) (t : TypeId) (x : AV) : AV :=
  match τ t with
  | some ti => match x with
    | .agg cs => .agg (nrmC ti.cz cs)
    | .nils => match ti.cz with
      | [n + 1] => .sl (n + 1) []
      | _ => .nils
    | x => x
  | none => x
def normL (τ : TyTab) : List TypeId → List AV → List AV
  | t :: ts, x :: l => norm τ t x :: normL τ ts l
  | _, l => l

/-- an operand's value, where it was worked out -/
def valW (s : S) (o : Operand) : Option AV :=
  match val s o with
  | some (.when _ x) => some x
  | x => x

/-- of conditions that are known to hold: those that are asked for, each beside the one that is known -/
def findA (d : Nat) : List (Nat × Bool) → Option Bool
  | [] => none
  | (e, c) :: l => match Nat.beq d e with
    | true => some c
    | false => findA d l
def matchA (A : List (Nat × Bool)) : List (Nat × Bool) → Option (List (Bool × Bool))
  | [] => some []
  | (d, c) :: l => match findA d A with
    | some c' => match matchA A l with
      | some r => some ((c', c) :: r)
      | none => none
    | none => none

/-- what must be for an operand to have been worked out -/
def whenOf (A : List (Nat × Bool)) (s : S) (o : Operand) : Option (List (Bool × Bool)) :=
  match val s o with
  | some (.when cs _) => matchA A cs
  | _ => some []
def obs (A : List (Nat × Bool)) (s : S) : List Operand → Option (List (Bool × Bool))
  | [] => some []
  | x :: l => match whenOf A s x with
    | some e => match obs A s l with
      | some r => some (e ++ r)
      | none => none
    | none => none

def toU8 (n : Int) : UInt8 := UInt8.ofNat (n % 256).toNat

def nrm (k : IntKind) (n : Int) : Int :=
  match k with
  | .u8 => ((toU8 n).toNat : Int)
  | k => k.wrap n

def bitsOp (op : BinOp) (k : IntKind) (a b : Int) : Int :=
  match op with
  | .and => nrm k ((BitVec.ofInt k.bits a &&& BitVec.ofInt k.bits b).toNat : Int)
  | .or => nrm k ((BitVec.ofInt k.bits a ||| BitVec.ofInt k.bits b).toNat : Int)
  | .xor => nrm k ((BitVec.ofInt k.bits a ^^^ BitVec.ofInt k.bits b).toNat : Int)
  | .andNot => nrm k ((BitVec.ofInt k.bits a &&& ~~~ BitVec.ofInt k.bits b).toNat : Int)
  | _ => 0

/-- a slot (0), a box (1), a row (2), a map (3), an arena (4) -/
abbrev Key := Nat × Nat

structure Eff where
  x : Option AV
  bx : List (Nat × List AV)
  rw : List (Nat × Rw)
  mp : List (Nat × List (AV × AV))
  ar : List (Nat × Arn)

/-- what is given -/
inductive An where
  | av (x : AV)
  | xs (l : List AV)
  | nat (n : Int)
  | u8 (b : UInt8)
  | str (s : List UInt8)
  | vw (n : Nat)
  | bo (b : Bool)
  | sealed
  | call (r : AV)
  | callB (r : AV)
  | callR (bs rs ms as : List Nat) (r : AV)
  | callE (bs rs ms as : List Nat) (r : AV) (s1 : S)
  | raw (l : List Nat)
  | tr (l : List AV)
  | ubn (b : Bool)
  | ms (l : List (AV × AV))

structure Res where
  gs : List Prop
  eq : List (Bool × Bool)
  e : Eff
  rd : List Key
  an : List An

def Eff.app (e : Eff) (d : Option Nat) (s : S) : S :=
  { fr := match d, e.x with
      | some i, some x => (i, x) :: s.fr
      | some i, none => (i, .any) :: s.fr
      | none, _ => s.fr
    bx := e.bx ++ s.bx
    rw := e.rw ++ s.rw
    mp := e.mp ++ s.mp
    ar := e.ar ++ s.ar }

def retV (an : List An) (x : AV) : Option Res := some ⟨[], [], ⟨some x, [], [], [], []⟩, [], an⟩
def retG (an : List An) (gs : List Prop) (x : AV) : Option Res := some ⟨gs, [], ⟨some x, [], [], [], []⟩, [], an⟩
def retO (an : List An) : Option AV → Option Res
  | some x => retV an x
  | none => none

/-- a row, by its header's number as it is now -/
def curRow (s : S) (i v : Nat) : Option Rw :=
  match aget s.rw i with
  | some r => match Nat.beq v r.ver with
    | true => some r
    | false => none
  | none => none

/-- a pointer that is known not to be nil -/
def unp : AV → AV
  | .popt true x => x
  | x => x

/-- what hangs on sealed memory alone -/
def AV.isP : AV → Bool
  | .int _ _ | .bool _ | .str _ | .nils | .sl _ _ | .rp _ | .nilp | .nilfn | .nilmp => true
  | _ => false
/-- may a cell be put into an object? -/
def elemOk (pu : Nat) (ns : List Nat) : AV → Bool
  | .aptr i _ _ => match pu with
    | 0 => false
    | _ + 1 => memN i ns
  | x => x.isP
def elemsOk (pu : Nat) (ns : List Nat) : List AV → Bool
  | [] => true
  | x :: l => match elemOk pu ns x with
    | true => elemsOk pu ns l
    | false => false

/-- own rows, sealed -/
def sealC (s : S) : AV → Option (AV × List (Nat × Rw))
  | .row i v => match curRow s i v with
    | some r => match r.pu with
      | 0 => some (.sl r.sz r.xs, [(i, { r with k := r.xs.length })])
      | _ + 1 => none
    | none => none
  | x => some (x, [])
def sealL (s : S) : List AV → Option (List AV × List (Nat × Rw))
  | [] => some ([], [])
  | x :: l => match sealC s x with
    | some (y, e) => match sealL s l with
      | some (m, f) => some (y :: m, f ++ e)
      | none => none
    | none => none
def sealA (s : S) : AV → Option (AV × List (Nat × Rw))
  | .agg cs => match sealL s cs with
    | some (ds, e) => some (.agg ds, e)
    | none => none
  | x => sealC s x
def sealAL (s : S) : List AV → Option (List AV × List (Nat × Rw))
  | [] => some ([], [])
  | x :: l => match sealA s x with
    | some (y, e) => match sealAL s l with
      | some (m, f) => some (y :: m, f ++ e)
      | none => none
    | none => none
def rkeys : List (Nat × Rw) → List Key
  | [] => []
  | (i, _) :: l => (2, i) :: rkeys l

def evalInt (an : List An) (k : IntKind) (a b : Int) : BinOp → Option Res
  | .add => retV an (.int k (nrm k (a + b)))
  | .sub => retV an (.int k (nrm k (a - b)))
  | .mul => retV an (.int k (nrm k (a * b)))
  | .quo => retG an [b ≠ 0] (.int k (nrm k (a.tdiv b)))
  | .rem => match k with
    | .u8 => none
    | k => retG an [b ≠ 0] (.int k (a.tmod b))
  | .and => retV an (.int k (bitsOp .and k a b))
  | .or => retV an (.int k (bitsOp .or k a b))
  | .xor => retV an (.int k (bitsOp .xor k a b))
  | .andNot => retV an (.int k (bitsOp .andNot k a b))
  | .eql => retV an (.bool (decide (a = b)))
  | .neq => retV an (.bool (!decide (a = b)))
  | .lss => retV an (.bool (decide (a < b)))
  | .leq => retV an (.bool (decide (a ≤ b)))
  | .gtr => retV an (.bool (decide (b < a)))
  | .geq => retV an (.bool (decide (b ≤ a)))
  | _ => none

def evalShift (an : List An) (k : IntKind) (a b : Int) : BinOp → Option Res
  | .shl => retG an [0 ≤ b] (.int k (nrm k (a * 2 ^ (min b.toNat k.bits))))
  | .shr => match k with
    | .u8 => retG an [0 ≤ b, nrm .u8 (a.fdiv (2 ^ (min b.toNat 8))) = a.fdiv (2 ^ (min b.toNat 8))] (.int .u8 (nrm .u8 (a.fdiv (2 ^ (min b.toNat 8)))))
    | k => retG an [0 ≤ b] (.int k (a.fdiv (2 ^ (min b.toNat k.bits))))
  | _ => none

def isShift : BinOp → Bool
  | .shl | .shr => true
  | _ => false

def evalStr (an : List An) (x y : List UInt8) : BinOp → Option Res
  | .add => retG an [x.length + y.length ≤ 9223372036854775807] (.str (x ++ y))
  | .eql => retV an (.bool (decide (x = y)))
  | .neq => retV an (.bool (!decide (x = y)))
  | .lss => retV an (.bool (Op.bytesLess x y))
  | .leq => retV an (.bool (!Op.bytesLess y x))
  | .gtr => retV an (.bool (Op.bytesLess y x))
  | .geq => retV an (.bool (!Op.bytesLess x y))
  | _ => none

def isBoolT (τ : TyTab) (t : TypeId) : Bool :=
  match τ t with
  | some ⟨.bool, _, _, _, _⟩ => true
  | _ => false

def evalBool (τ : TyTab) (an : List An) (t : TypeId) (x y : Bool) : BinOp → Option Res
  | .eql => match isBoolT τ t with
    | true => retV an (.bool (x == y))
    | false => none
  | .neq => match isBoolT τ t with
    | true => retV an (.bool (!(x == y)))
    | false => none
  | _ => none

inductive Sh where
  | int (k : IntKind)
  | bool
  | str

def sameKind : IntKind → IntKind → Bool
  | .i64, .i64 | .u8, .u8 | .u32, .u32 | .u64, .u64 => true
  | _, _ => false

def hasSh : List Sh → List AV → Bool
  | [], [] => true
  | .int k :: r, .int k' _ :: l => sameKind k k' && hasSh r l
  | .bool :: r, .bool _ :: l => hasSh r l
  | .str :: r, .str _ :: l => hasSh r l
  | _, _ => false

def shapes (f : TypeId → Option (List Sh)) : Nat → List (TypeId × Nat) → Option (List Sh)
  | _, [] => some []
  | o, (t, off) :: l => match Nat.beq off o with
    | true => match f t with
      | some a => match shapes f (o + a.length) l with
        | some b => some (a ++ b)
        | none => none
      | none => none
    | false => none

/-- the cells of a type whose values may be held against each other cell by cell -/
def shapeOf (τ : TyTab) : Nat → TypeId → Option (List Sh)
  | 0, _ => none
  | n + 1, t => match τ t with
    | some ⟨.int k, _, _, _, _⟩ => some [.int k]
    | some ⟨.bool, _, _, _, _⟩ => some [.bool]
    | some ⟨.str, _, _, _, _⟩ => some [.str]
    | some ⟨.struct fl true, sz, _, _, _⟩ => match shapes (shapeOf τ n) 0 fl with
      | some sh => match Nat.beq sh.length sz with
        | true => some sh
        | false => none
      | none => none
    | _ => none

/-- two lists of plain cells: are they the same? -/
def eqB : List AV → List AV → Option Bool
  | [], [] => some true
  | .int _ a :: l, .int _ b :: r => match eqB l r with
    | some e => some (decide (a = b) && e)
    | none => none
  | .str a :: l, .str b :: r => match eqB l r with
    | some e => some (decide (a = b) && e)
    | none => none
  | .bool a :: l, .bool b :: r => match eqB l r with
    | some e => some ((a == b) && e)
    | none => none
  | _, _ => none

def evalAgg (τ : TyTab) (an : List An) (t : TypeId) (cs ds : List AV) (op : BinOp) : Option Res :=
  match τ t with
  | some ⟨.struct _ _, _, _, _, _⟩ => match shapeOf τ 5 t with
    | some sh => match hasSh sh cs with
      | true => match hasSh sh ds with
        | true => match eqB cs ds with
          | some e => match op with
            | .eql => retV an (.bool e)
            | .neq => retV an (.bool (!e))
            | _ => none
          | none => none
        | false => none
      | false => none
    | none => none
  | _ => none

def evalBin (τ : TyTab) (an : List An) (t : TypeId) (op : BinOp) : AV → AV → Option Res
  | .int k a, .int k' b => match isShift op with
    | true => evalShift an k a b op
    | false => match sameKind k k' with
      | true => evalInt an k a b op
      | false => none
  | .str x, .str y => evalStr an x y op
  | .bool x, .bool y => evalBool τ an t x y op
  | .agg cs, .agg ds => evalAgg τ an t cs ds op
  | _, _ => none

def takeAt : List AV → Nat → Nat → Option (List AV)
  | _, _, 0 => some []
  | [], _, _ + 1 => none
  | x :: l, 0, n + 1 => match takeAt l 0 n with
    | some r => some (x :: r)
    | none => none
  | _ :: l, o + 1, n + 1 => takeAt l o (n + 1)

def setAt : List AV → Nat → List AV → Option (List AV)
  | l, _, [] => some l
  | [], _, _ :: _ => none
  | _ :: l, 0, v :: vs => match setAt l 0 vs with
    | some r => some (v :: r)
    | none => none
  | x :: l, o + 1, v :: vs => match setAt l o (v :: vs) with
    | some r => some (x :: r)
    | none => none

def nth {α : Type} : List α → Nat → Option α
  | [], _ => none
  | x :: _, 0 => some x
  | _ :: l, n + 1 => nth l n

/-- what stands at a place, as a variable of a type -/
def partOf (i : TI) (cs : List AV) (off : Nat) : Option AV :=
  match i.k.agg with
  | true => match takeAt cs off i.sz with
    | some r => some (.agg r)
    | none => none
  | false => nth cs off

def fldOf (τ : TyTab) (st : TypeId) (f : Nat) : Option (TI × Nat) :=
  match τ st with
  | some ⟨.struct fl _, _, _, _, _⟩ =>
    match nth fl f with
    | some (t, off) => match τ t with
      | some i => match i.sz with
        | 0 => none
        | _ + 1 => some (i, off)
      | none => none
    | none => none
  | _ => none

def evalFieldAddr (τ : TyTab) (an : List An) (st f : Nat) : AV → Option Res
  | .ptr i o => match fldOf τ st f with
    | some (_, off) => retV an (.ptr i (o + off))
    | none => none
  | .ep i v k o => match fldOf τ st f with
    | some (_, off) => retV an (.ep i v k (o + off))
    | none => none
  | .aptr i k o => match fldOf τ st f with
    | some (_, off) => retV an (.aptr i k (o + off))
    | none => none
  | .rp (.agg cs) => match fldOf τ st f with
    | some (i, off) => match partOf i cs off with
      | some x => retV an (.rp x)
      | none => none
    | none => none
  | _ => none

def evalField (τ : TyTab) (an : List An) (st f : Nat) : AV → Option Res
  | .agg cs => match fldOf τ st f with
    | some (i, off) => retO an (partOf i cs off)
    | none => none
  | _ => none

def fits (i : TI) : AV → Bool
  | .agg cs => match i.k.agg with
    | true => Nat.beq cs.length i.sz
    | false => false
  | .tup _ => false
  | .any => false
  | .when _ _ => false
  | _ => !i.k.agg

def evalLoad (τ : TyTab) (s : S) (an : List An) (t : TypeId) : AV → Option Res
  | .ptr i o => match τ t with
    | some ti => match aget s.bx i with
      | some cs => match partOf ti cs o with
        | some x => some ⟨[], [], ⟨some x, [], [], [], []⟩, [(1, i)], an⟩
        | none => none
      | none => none
    | none => none
  | .rp x => match τ t with
    | some ti => match fits ti x with
      | true => retV an x
      | false => none
    | none => none
  | _ => none

def allCell : List AV → Bool
  | [] => true
  | x :: l => match x.isCell with
    | true => allCell l
    | false => false

def evalStore (τ : TyTab) (s : S) (an : List An) (t : TypeId) (x : AV) : AV → Option Res
  | .ptr i o => match τ t with
    | some ti => match aget s.bx i with
      | some cs => match Nat.beq x.cells.length ti.sz with
        | true => match allCell x.cells with
          | true => match setAt cs o x.cells with
            | some cs' => some ⟨[], [], ⟨none, [(i, cs')], [], [], []⟩, [(1, i)], an⟩
            | none => none
          | false => none
        | false => none
      | none => none
    | none => none
  | _ => none

def evalBox (d : Option Nat) (s : S) (an : List An) (cs : List AV) : Option Res :=
  match d with
  | some i => match aget s.bx i with
    | none => match allCell cs && Nat.blt i nB with
      | true => some ⟨[], [], ⟨some (.ptr i 0), [(i, cs)], [], [], []⟩, [(1, i)], an⟩
      | false => none
    | some _ => none
  | none => none

def evalExtract (an : List An) (i : Nat) : AV → Option Res
  | .tup vs => retO an (nth vs i)
  | _ => none

/-- one of two bools, where what was not worked out is not asked for: 'd' is the slot of the condition, 'p' what it is if this one is picked -/
def pickB (A : List (Nat × Bool)) (d : Nat) (p : Bool) : AV → Option (List (Bool × Bool) × Bool)
  | .bool x => some ([], x)
  | .when cs (.bool x) => match matchA ((d, p) :: A) cs with
    | some e => some (e, x)
    | none => none
  | _ => none

def isT : Operand → Bool
  | .const (.bool true) => true
  | _ => false
def isF : Operand → Bool
  | .const (.bool false) => true
  | _ => false

def pickV (a b : Operand) (p u v : Bool) : Bool :=
  match isT a with
  | true => p || v
  | false => match isF b with
    | true => p && u
    | false => bif p then u else v

def evalPick (A : List (Nat × Bool)) (an : List An) (a b : Operand) (d : Nat) (p : Bool) (x y : AV) : Option Res :=
  match pickB A d p x with
  | some (g, u) => match pickB A d (!p) y with
    | some (h, v) => some ⟨[], g ++ h, ⟨some (.bool (pickV a b p u v)), [], [], [], []⟩, [], an⟩
    | none => none
  | none => none

def evalNilCheck (an : List An) : AV → Option Res
  | .ptr i o => retV an (.ptr i o)
  | .rp x => retV an (.rp x)
  | .ep i v k o => retV an (.ep i v k o)
  | .aptr i k o => retV an (.aptr i k o)
  | _ => none

def evalUn (an : List An) (x : AV) : UnOp → Option Res
  | .not => match x with
    | .bool b => retV an (.bool (!b))
    | _ => none
  | .neg => match x with
    | .int k n => retV an (.int k (nrm k (0 - n)))
    | _ => none
  | .xor => match x with
    | .int k n => retV an (.int k (bitsOp .xor k (if k.signed then -1 else k.max) n))
    | _ => none
  | _ => none

def u8s (l : List UInt8) : List AV := l.map fun b => .int .u8 (b.toNat : Int)

def isBytes (τ : TyTab) (t : TypeId) : Bool :=
  match τ t with
  | some ⟨.slice e, _, _, _, _⟩ => match τ e with
    | some ⟨.int .u8, _, _, _, _⟩ => true
    | _ => false
  | _ => false

def evalConv (τ : TyTab) (an : List An) (src dst : TypeId) : AV → Option Res
  | .int _ n => match τ dst with
    | some ⟨.int k, _, _, _, _⟩ => retV an (.int k (nrm k n))
    | _ => none
  | .str x => match τ dst with
    | some ⟨.str, _, _, _, _⟩ => retV an (.str x)
    | _ => none
  | .sl sz xs => match τ dst with
    | some ⟨.str, _, _, _, _⟩ => match isBytes τ src with
      | true => match Nat.beq sz 1 with
        | true => match an with
          | .str l :: an => retG an [xs = u8s l] (.str l)
          | _ => none
        | false => none
      | false => none
    | _ => none
  | .nils => match τ dst with
    | some ⟨.str, _, _, _, _⟩ => match isBytes τ src with
      | true => retV an (.str [])
      | false => none
    | _ => none
  | _ => none

def vals (s : S) : List Operand → Option (List AV)
  | [] => some []
  | x :: l => match valW s x, vals s l with
    | some v, some vs => some (v :: vs)
    | _, _ => none

/-- the cells of a struct literal -/
def fill (τ : TyTab) (s : S) (st : TypeId) : List AV → List (Nat × Operand) → Option (List AV)
  | cs, [] => some cs
  | cs, (f, x) :: r =>
    match fldOf τ st f with
    | some (i, off) => match valW s x with
      | some v => match Nat.beq v.cells.length i.sz with
        | true => match allCell v.cells with
          | true => match setAt cs off v.cells with
            | some cs' => fill τ s st cs' r
            | none => none
          | false => none
        | false => none
      | none => none
    | none => none

def allTy (τ : TyTab) : List (TypeId × Nat) → Bool
  | [] => true
  | (t, _) :: l => match τ t with
    | some _ => allTy τ l
    | none => false

def evalBuild (τ : TyTab) (s : S) (an : List An) (t : TypeId) (parts : List (Nat × Operand)) : Option Res :=
  match τ t with
  | some ⟨.struct fl _, _, _, z, _⟩ =>
    match allTy τ fl with
    | true => match fill τ s t z parts with
      | some cs => retV an (.agg cs)
      | none => none
    | false => none
  | _ => none

def evalLen (s : S) (an : List An) : TK → AV → Option Res
  | .slice _, .sl _ xs => match an with
    | .nat n :: an => retG an [n = (xs.length : Int)] (.int .i64 n)
    | _ => none
  | .slice _, .nils => retV an (.int .i64 0)
  | .str, .str x => retV an (.int .i64 x.length)
  | .slice _, .row i v => match curRow s i v with
    | some r => match an with
      | .nat n :: an => some ⟨[n = (r.xs.length : Int)], [], ⟨some (.int .i64 n), [], [], [], []⟩, [(2, i)], an⟩
      | _ => none
    | none => none
  | .slice _, .rowv i v _ n => match curRow s i v with
    | some _ => some ⟨[], [], ⟨some (.int .i64 n), [], [], [], []⟩, [(2, i)], an⟩
    | none => none
  | .map _ _, .mp i => match aget s.mp i with
    | some es => match an with
      | .nat n :: an => some ⟨[n = (es.length : Int)], [], ⟨some (.int .i64 n), [], [], [], []⟩, [(3, i)], an⟩
      | _ => none
    | none => none
  | _, _ => none

def evalCap (an : List An) : TK → AV → Option Res
  | .slice _, .nils => retV an (.int .i64 0)
  | _, _ => none

def evalMinMax (mx : Bool) (an : List An) : List AV → Option Res
  | [.int k a, .int k' b] => match sameKind k k' with
    | true => match k with
      | .u8 => none
      | _ => retV an (.int k (match mx with | true => max a b | false => min a b))
    | false => none
  | _ => none

def evalFn (an : List An) (f : FuncId) (caps : Option (List AV)) : Option Res :=
  match caps with
  | some vs => match allCell vs with
    | true => retV an (.fn f vs)
    | false => none
  | none => none

/-- the cells of an element -/
def elemSz (τ : TyTab) (t : TypeId) : Option Nat :=
  match τ t with
  | some ⟨.slice e, _, _, _, _⟩ => match τ e with
    | some i => some i.sz
    | none => none
  | _ => none

def evalIndexAddr (τ : TyTab) (s : S) (an : List An) (t : TypeId) : AV → AV → Option Res
  | .sl sz xs, .int _ n => match elemSz τ t with
    | some z => match Nat.beq sz z with
      | true => match an with
        | .av u :: an => retG an [0 ≤ n ∧ xs[n.toNat]? = some u] (.rp u)
        | _ => none
      | false => none
    | none => none
  | .row i v, .int _ n => match elemSz τ t with
    | some z => match curRow s i v with
      | some r => match Nat.beq r.sz z with
        | true => some ⟨[0 ≤ n ∧ n.toNat < r.xs.length], [], ⟨some (.ep i v n.toNat 0), [], [], [], []⟩, [(2, i)], an⟩
        | false => none
      | none => none
    | none => none
  | .rowv i v off m, .int _ n => match elemSz τ t with
    | some z => match curRow s i v with
      | some r => match Nat.beq r.sz z with
        | true => some ⟨[0 ≤ n ∧ n.toNat < m], [], ⟨some (.ep i v (off + n.toNat) 0), [], [], [], []⟩, [(2, i)], an⟩
        | false => none
      | none => none
    | none => none
  | _, _ => none

def evalIndex (τ : TyTab) (an : List An) (t : TypeId) : AV → AV → Option Res
  | .str x, .int _ n => match τ t with
    | some ⟨.str, _, _, _, _⟩ => match an with
      | .u8 b :: an => retG an [0 ≤ n ∧ x[n.toNat]? = some b] (.int .u8 (b.toNat : Int))
      | _ => none
    | _ => none
  | _, _ => none

/-- a bound of a cut: nothing, or a number -/
def bound (s : S) : Option Operand → Option (Option Int)
  | none => some none
  | some o => match valW s o with
    | some (.int .i64 n) => some (some n)
    | _ => none

def evalSlice (τ : TyTab) (an : List An) (t : TypeId) (lo hi : Option Int) : AV → Option Res
  | .sl sz xs => match elemSz τ t with
    | some z => match Nat.beq sz z with
      | true => match an with
        | .xs ys :: an => match lo, hi with
          | none, none => retG an [ys = xs] (.sl sz ys)
          | some a, none => retG an [0 ≤ a ∧ a.toNat ≤ xs.length ∧ ys = xs.drop a.toNat] (.sl sz ys)
          | none, some b => retG an [0 ≤ b ∧ b.toNat ≤ xs.length ∧ ys = xs.take b.toNat] (.sl sz ys)
          | some a, some b => retG an [0 ≤ a ∧ a ≤ b ∧ b.toNat ≤ xs.length ∧ ys = (xs.take b.toNat).drop a.toNat] (.sl sz ys)
        | _ => none
      | false => none
    | none => none
  | .str x => match τ t with
    | some ⟨.str, _, _, _, _⟩ => match lo, hi with
      | none, none => retV an (.str x)
      | some a, none => retG an [0 ≤ a ∧ a.toNat ≤ x.length] (.str (x.drop a.toNat))
      | none, some b => retG an [0 ≤ b ∧ b.toNat ≤ x.length] (.str (x.take b.toNat))
      | some a, some b => retG an [0 ≤ a ∧ a ≤ b ∧ b.toNat ≤ x.length] (.str ((x.take b.toNat).drop a.toNat))
    | _ => none
  | .nils => match elemSz τ t with
    | some _ => match lo, hi with
      | none, none => retV an .nils
      | some a, none => retG an [a = 0] .nils
      | none, some b => retG an [b = 0] .nils
      | some a, some b => retG an [a = 0 ∧ b = 0] .nils
    | none => none
  | _ => none

/- own rows -/

/-- an element of a row is read -/
def evalLoadEp (τ : TyTab) (s : S) (an : List An) (t : TypeId) (i v k o : Nat) : Option Res :=
  match τ t with
  | some ti => match curRow s i v with
    | some r => match an with
      | .av u :: an => match partOf ti u.cells o with
        | some x => match allCell x.cells with
          | true => match fits ti x with
            | true => some ⟨[r.xs[k]? = some u], [], ⟨some x, [], [], [], []⟩, [(2, i)], an⟩
            | false => none
          | false => none
        | none => none
      | _ => none
    | none => none
  | none => none

/-- an element, with other cells -/
def putCells (ag : Bool) (u : AV) (o : Nat) (cs : List AV) : Option AV :=
  match setAt u.cells o cs with
  | some ds => match ag with
    | true => some (.agg ds)
    | false => match ds with
      | [d] => match d.isCell with
        | true => some d
        | false => none
      | _ => none
  | none => none

/-- an element of a row is written -/
def evalStoreEp (τ : TyTab) (s : S) (an : List An) (t : TypeId) (x : AV) (i v k o : Nat) : Option Res :=
  match τ t with
  | some ti => match curRow s i v with
    | some r => match sealA s (norm τ t x) with
      | some (y, e) => match hasKey e i with
        | false => match Nat.beq y.cells.length ti.sz with
          | true => match elemsOk r.pu r.ns y.cells with
            | true => match an with
              | .av u :: .xs zs :: an => match takeAt u.cells o ti.sz with
                | some old => match allCell old with
                  | true => match putCells (match τ r.ty with | some te => te.k.agg | none => false) u o y.cells with
                    | some u' => some ⟨[r.xs[k]? = some u, zs = r.xs.set k u', r.k ≤ k], [], ⟨none, [], (i, { r with xs := zs }) :: e, [], []⟩, (2, i) :: rkeys e, an⟩
                    | none => none
                  | false => none
                | none => none
              | _ => none
            | false => none
          | false => none
        | true => none
      | none => none
    | none => none
  | none => none

/-- a part of a row: seen (the answer is how long), or sealed and told as a list -/
def evalSliceRow (τ : TyTab) (s : S) (an : List An) (t : TypeId) (lo hi : Option Int) (i v : Nat) : Option Res :=
  match elemSz τ t with
  | some z => match curRow s i v with
    | some r => match Nat.beq r.sz z with
      | true => match an with
        | .vw n :: an => match lo, hi with
          | none, none => some ⟨[n = r.xs.length], [], ⟨some (.rowv i v 0 n), [], [], [], []⟩, [(2, i)], an⟩
          | some a, none => some ⟨[0 ≤ a ∧ a.toNat + n = r.xs.length], [], ⟨some (.rowv i v a.toNat n), [], [], [], []⟩, [(2, i)], an⟩
          | none, some b => some ⟨[0 ≤ b ∧ n = b.toNat ∧ (b.toNat ≤ r.xs.length ∨ b.toNat ≤ r.cm)], [], ⟨some (.rowv i v 0 n), [], [], [], []⟩, [(2, i)], an⟩
          | some a, some b => some ⟨[0 ≤ a ∧ 0 ≤ b ∧ a.toNat + n = b.toNat ∧ (b.toNat ≤ r.xs.length ∨ b.toNat ≤ r.cm)], [], ⟨some (.rowv i v a.toNat n), [], [], [], []⟩, [(2, i)], an⟩
        | .xs ys :: an => match r.pu with
          | 0 => match evalSlice τ [.xs ys] t lo hi (.sl r.sz r.xs) with
            | some q => some ⟨q.gs, q.eq, ⟨q.e.x, [], [(i, { r with k := r.xs.length })], [], []⟩, [(2, i)], an⟩
            | none => none
          | _ + 1 => none
        | .tr ys :: an => match lo, hi with
          | none, some b => match Nat.ble r.pu 1 with
            | true => some ⟨[0 ≤ b ∧ b.toNat ≤ r.xs.length ∧ r.k ≤ b.toNat ∧ ys = r.xs.take b.toNat], [], ⟨some (.row i (v + 1)), [], [(i, { r with ver := r.ver + 1, cm := r.xs.length, nl := false, xs := ys })], [], []⟩, [(2, i)], an⟩
            | false => none
          | _, _ => none
        | _ => none
      | false => none
    | none => none
  | none => none
/-- a part of what is seen of a row -/
def evalSliceV (τ : TyTab) (s : S) (an : List An) (t : TypeId) (lo hi : Option Int) (i v off m : Nat) : Option Res :=
  match elemSz τ t with
  | some z => match curRow s i v with
    | some r => match Nat.beq r.sz z with
      | true => match an with
        | .vw n :: an => match lo, hi with
          | some a, none => some ⟨[0 ≤ a ∧ a.toNat + n = m], [], ⟨some (.rowv i v (off + a.toNat) n), [], [], [], []⟩, [(2, i)], an⟩
          | none, some b => some ⟨[0 ≤ b ∧ n = b.toNat ∧ b.toNat ≤ m], [], ⟨some (.rowv i v off n), [], [], [], []⟩, [(2, i)], an⟩
          | some a, some b => some ⟨[0 ≤ a ∧ 0 ≤ b ∧ a.toNat + n = b.toNat ∧ b.toNat ≤ m], [], ⟨some (.rowv i v (off + a.toNat) n), [], [], [], []⟩, [(2, i)], an⟩
          | none, none => none
        | _ => none
      | false => none
    | none => none
  | none => none
/-- a slice of three bounds is only looked at for whether it is one -/
def evalSlice3 (s : S) (an : List An) (a b m : Int) : AV → Option Res
  | .sl _ xs => retG an [0 ≤ a ∧ a ≤ b ∧ b ≤ m ∧ m.toNat ≤ xs.length] .any
  | .nils => retG an [0 ≤ a ∧ a ≤ b ∧ b ≤ m ∧ m.toNat ≤ 0] .any
  | .row i v => match curRow s i v with
    | some r => some ⟨[0 ≤ a ∧ a ≤ b ∧ b ≤ m ∧ m.toNat ≤ r.xs.length], [], ⟨some .any, [], [], [], []⟩, [(2, i)], an⟩
    | none => none
  | _ => none

/-- what is appended: its elements, what must be shown, and what they are read of -/
def srcOf (s : S) (sz : Nat) (u8 : Bool) : AV → Option (List AV × List Prop × List Key)
  | .sl z ys => match Nat.beq z sz with
    | true => some (ys, [], [])
    | false => none
  | .nils => some ([], [], [])
  | .str l => match u8 with
    | true => some (u8s l, [], [])
    | false => none
  | .row j v => match curRow s j v with
    | some r => match r.pu with
      | 0 => match Nat.beq r.sz sz with
        | true => some (r.xs, [], [(2, j)])
        | false => none
      | _ + 1 => none
    | none => none
  | .rowv j v off n => match curRow s j v with
    | some r => match r.pu with
      | 0 => match Nat.beq r.sz sz with
        | true => some ((r.xs.drop off).take n, [off + n ≤ r.xs.length], [(2, j)])
        | false => none
      | _ + 1 => none
    | none => none
  | _ => none
/-- of a row that names arenas: another row that names no others -/
def srcA (s : S) (sz : Nat) (ns : List Nat) : AV → Option (List AV × List Prop × List Key)
  | .row j v => match curRow s j v with
    | some r => match r.pu with
      | 1 => match allN (fun i => memN i ns) r.ns with
        | true => match Nat.beq r.sz sz with
          | true => some (r.xs, [], [(2, j)])
          | false => none
        | false => none
      | _ => none
    | none => none
  | _ => none
def srcAny (s : S) (sz : Nat) (u8 : Bool) (pu : Nat) (ns : List Nat) (x : AV) : Option (List AV × List Prop × List Key) :=
  match srcOf s sz u8 x with
  | some r => some r
  | none => match pu with
    | 0 => none
    | _ + 1 => srcA s sz ns x

def isU8 (τ : TyTab) (e : TypeId) : Bool :=
  match τ e with
  | some ⟨.int .u8, _, _, _, _⟩ => true
  | _ => false
def isStrT (τ : TyTab) (t : TypeId) : Bool :=
  match τ t with
  | some ⟨.str, _, _, _, _⟩ => true
  | _ => false
def isSlT (τ : TyTab) (t : TypeId) : Bool :=
  match τ t with
  | some ⟨.slice _, _, _, _, _⟩ => true
  | _ => false

/-- elements are put behind the first ones of a row -/
def appendTo (s : S) (an : List An) (bytes : Nat) (i : Nat) (r : Rw) (full : Bool) (n0 : Nat) (u8 : Bool) (x2 : AV) (rd : List Key) : Option Res :=
  match srcAny s r.sz u8 r.pu r.ns x2 with
  | some (ys, gs, ks) => match an with
    | .xs zs :: an => match Nat.ble 1 bytes with
      | true => match Nat.ble 1 r.sz with
        | true => some ⟨[zs = (bif full then r.xs else r.xs.take n0) ++ ys, zs.length * bytes ≤ 140737488351232] ++ ((bif full then [] else [n0 ≤ r.xs.length ∧ r.k ≤ n0]) ++ gs), [],
            ⟨some (.row i (r.ver + 1)), [], [(i, { r with ver := r.ver + 1, cm := bif full then r.cm else r.xs.length, nl := bif full then r.nl else false, xs := zs })], [], []⟩, (2, i) :: (ks ++ rd), an⟩
        | false => none
      | false => none
    | _ => none
  | none => none

def evalAppend (τ : TyTab) (s : S) (an : List An) (d : Option Nat) (t t2 : TypeId) (x1 x2 : AV) : Option Res :=
  match τ t with
  | some ⟨.slice e, _, _, _, _⟩ => match τ e with
    | some ie =>
      match isStrT τ t2 || isSlT τ t2 with
      | true => match x1 with
        | .row i v => match curRow s i v with
          | some r => match Nat.beq r.ty e with
            | true => match Nat.beq r.sz ie.sz with
              | true => appendTo s an ie.bytes i r true 0 (isU8 τ e) x2 []
              | false => none
            | false => none
          | none => none
        | .rowv i v 0 n => match curRow s i v with
          | some r => match Nat.beq r.ty e with
            | true => match Nat.beq r.sz ie.sz with
              | true => match r.pu with
                | 0 => appendTo s an ie.bytes i r false n (isU8 τ e) x2 []
                | _ + 1 => none
              | false => none
            | false => none
          | none => none
        | .nils => match d with
          | some i => match aget s.rw i with
            | none => match Nat.blt i nB with
              | true => appendTo s an ie.bytes i ⟨e, ie.sz, 0, 0, 0, true, 0, [], []⟩ true 0 (isU8 τ e) x2 [(2, i)]
              | false => none
            | some _ => none
          | none => none
        | _ => none
      | false => none
    | none => none
  | _ => none

/-- the elements of a literal -/
def litParts : Nat → List (Nat × Operand) → Option (List Operand)
  | _, [] => some []
  | k, (i, x) :: l => match Nat.beq i k with
    | true => match litParts (k + 1) l with
      | some r => some (x :: r)
      | none => none
    | false => none
def sizesOk (sz : Nat) : List AV → Bool
  | [] => true
  | x :: l => match Nat.beq x.cells.length sz with
    | true => sizesOk sz l
    | false => false
def normE (τ : TyTab) (e : TypeId) : List AV → List AV
  | [] => []
  | x :: l => norm τ e x :: normE τ e l
def arNames : List AV → List Nat
  | [] => []
  | .aptr i _ _ :: l => i :: arNames l
  | _ :: l => arNames l
def cellsAll : List AV → List AV
  | [] => []
  | x :: l => x.cells ++ cellsAll l
def shapeOk (ag : Bool) : List AV → Bool
  | [] => true
  | .agg _ :: l => match ag with
    | true => shapeOk ag l
    | false => false
  | _ :: l => match ag with
    | true => false
    | false => shapeOk ag l

def evalBuildSlice (τ : TyTab) (s : S) (an : List An) (d : Option Nat) (t : TypeId) (len : Nat) (parts : List (Nat × Operand)) : Option Res :=
  match τ t with
  | some ⟨.slice e, _, _, _, _⟩ => match τ e with
    | some ie => match litParts 0 parts with
      | some ops => match Nat.beq ops.length len with
        | true => match Nat.ble (len * ie.sz) 16777216 && Nat.ble len 16777216 with
          | true => match vals s ops with
            | some vs => match sealAL s (normE τ e vs) with
              | some (ws, ef) => match sizesOk ie.sz ws with
                | true => match shapeOk ie.k.agg ws with
                  | true => match an with
                    | .sealed :: an => match elemsOk 0 [] (cellsAll ws) with
                      | true => some ⟨[], [], ⟨some (.sl ie.sz ws), [], ef, [], []⟩, rkeys ef, an⟩
                      | false => none
                    | an => match d with
                      | some i => match aget s.rw i with
                        | none => match hasKey ef i || Nat.ble nB i with
                         | true => none
                         | false => match elemsOk 0 [] (cellsAll ws) with
                          | true => some ⟨[], [], ⟨some (.row i 0), [], (i, ⟨e, ie.sz, 0, 0, 0, match ws with | [] => false | _ :: _ => true, 0, [], ws⟩) :: ef, [], []⟩, (2, i) :: rkeys ef, an⟩
                          | false => match elemsOk 1 (arNames (cellsAll ws)) (cellsAll ws) with
                            | true => some ⟨[], [], ⟨some (.row i 0), [], (i, ⟨e, ie.sz, 0, 0, 0, match ws with | [] => false | _ :: _ => true, 1, arNames (cellsAll ws), ws⟩) :: ef, [], []⟩, (2, i) :: rkeys ef, an⟩
                            | false => none
                        | some _ => none
                      | none => none
                  | false => none
                | false => none
              | none => none
            | none => none
          | false => none
        | false => none
      | none => none
    | none => none
  | _ => none

/-- the zero value of a type, as an element -/
def zeroEl (τ : TyTab) (e : TypeId) (ie : TI) : Option AV :=
  match ie.k.agg with
  | true => some (norm τ e (.agg ie.zero))
  | false => match ie.zero with
    | [z] => some (norm τ e z)
    | _ => none

def evalMakeSlice (τ : TyTab) (s : S) (an : List An) (d : Option Nat) (t : TypeId) (n c : Int) : Option Res :=
  match τ t with
  | some ⟨.slice e, _, _, _, _⟩ => match τ e with
    | some ie => match zeroEl τ e ie with
      | some z => match d with
        | some i => match aget s.rw i with
          | none => match an with
            | .xs zs :: an => match Nat.ble 1 ie.bytes && elemsOk 0 [] z.cells && Nat.blt i nB with
              | true => some ⟨[0 ≤ n ∧ n ≤ c ∧ c.toNat * ie.bytes ≤ 140737488351232, zs = List.replicate n.toNat z], [], ⟨some (.row i 0), [], [(i, ⟨e, ie.sz, 0, 0, 0, false, 0, [], zs⟩)], [], []⟩, [(2, i)], an⟩
              | false => none
            | _ => none
          | some _ => none
        | none => none
      | none => none
    | none => none
  | _ => none

def isI64T (τ : TyTab) (t : TypeId) : Bool :=
  match τ t with
  | some ⟨.int .i64, _, _, _, _⟩ => true
  | _ => false
/-- zeros are put behind nothing -/
def evalAppZ (τ : TyTab) (s : S) (an : List An) (d : Option Nat) (t : TypeId) (x1 x2 : AV) : Option Res :=
  match x1 with
  | .nils => match x2 with
    | .int .i64 n => match τ t with
      | some ⟨.slice e, _, _, _, _⟩ => match τ e with
        | some ie => match zeroEl τ e ie with
          | some z => match d with
            | some i => match aget s.rw i with
              | none => match an with
                | .xs zs :: an => match Nat.ble 1 ie.bytes && Nat.ble 1 ie.sz && elemsOk 0 [] z.cells && Nat.blt i nB with
                  | true => some ⟨[0 ≤ n ∧ n.toNat * ie.bytes ≤ 140737488351232, zs = List.replicate n.toNat z], [], ⟨some (.row i 0), [], [(i, ⟨e, ie.sz, 0, 0, 0, true, 0, [], zs⟩)], [], []⟩, [(2, i)], an⟩
                  | false => none
                | _ => none
              | some _ => none
            | none => none
          | none => none
        | none => none
      | _ => none
    | _ => none
  | _ => none
def evalApp2 (τ : TyTab) (s : S) (an : List An) (d : Option Nat) (t t2 : TypeId) (x1 x2 : AV) : Option Res :=
  match isI64T τ t2 with
  | true => evalAppZ τ s an d t x1 x2
  | false => evalAppend τ s an d t t2 x1 x2

/-- a text's bytes, in memory of their own, which is sealed -/
def evalBytesOf (τ : TyTab) (an : List An) (dst : TypeId) (l : List UInt8) : Option Res :=
  match τ dst with
  | some ⟨.slice e, _, _, _, _⟩ => match τ e with
    | some ⟨.int .u8, sz, _, _, _⟩ => retG an [l.length ≤ 140737488351232] (.sl sz (u8s l))
    | _ => none
  | _ => none
/-- a row's bytes as a text -/
def evalStrRow (τ : TyTab) (s : S) (an : List An) (src dst : TypeId) (i v : Nat) : Option Res :=
  match curRow s i v with
  | some r => match r.pu with
    | 0 => match isStrT τ dst with
      | true => match isBytes τ src with
        | true => match Nat.beq r.sz 1 with
          | true => match an with
            | .str l :: an => some ⟨[r.xs = u8s l], [], ⟨some (.str l), [], [], [], []⟩, [(2, i)], an⟩
            | _ => none
          | false => none
        | false => none
      | false => none
    | _ + 1 => none
  | none => none

def evalClear (τ : TyTab) (s : S) (an : List An) (t : TypeId) (i v off n : Nat) : Option Res :=
  match τ t with
  | some ⟨.slice e, _, _, _, _⟩ => match τ e with
    | some ie => match zeroEl τ e ie with
      | some z => match curRow s i v with
        | some r => match Nat.beq r.ty e with
          | true => match Nat.beq r.sz ie.sz with
            | true => match r.pu with
              | 0 => match elemsOk 0 [] z.cells with
               | false => none
               | true => match an with
                | .xs zs :: an => some ⟨[zs = r.xs.take off ++ List.replicate (min n (r.xs.length - off)) z ++ r.xs.drop (off + n), r.k ≤ off], [], ⟨some (.tup []), [], [(i, { r with xs := zs })], [], []⟩, [(2, i)], an⟩
                | _ => none
              | _ + 1 => none
            | false => none
          | false => none
        | none => none
      | none => none
    | none => none
  | _ => none

/-- is a value nil? -/
def nilB : AV → Option Bool
  | .nilp => some true
  | .ptr _ _ => some false
  | .rp _ => some false
  | .ep _ _ _ _ => some false
  | .aptr _ _ _ => some false
  | .popt b (.ptr _ _) => some (!b)
  | .popt b (.rp _) => some (!b)
  | .popt b (.ep _ _ _ _) => some (!b)
  | .popt b (.aptr _ _ _) => some (!b)
  | _ => none
def isPtrT (τ : TyTab) (t : TypeId) : Bool :=
  match τ t with
  | some ⟨.ptr _, _, _, _, _⟩ => true
  | _ => false
def isNilp : AV → Bool
  | .nilp => true
  | _ => false
/-- a pointer held against nil -/
def evalNil (τ : TyTab) (an : List An) (t : TypeId) (v u : AV) (op : BinOp) : Option Res :=
  match isPtrT τ t with
  | true => match isNilp u with
    | true => match nilB v with
      | some b => match op with
        | .eql => retV an (.bool b)
        | .neq => retV an (.bool (!b))
        | _ => none
      | none => none
    | false => none
  | false => none
/-- a row held against nil -/
def evalNilRow (τ : TyTab) (s : S) (an : List An) (t : TypeId) (i v : Nat) (u : AV) (op : BinOp) : Option Res :=
  match isSlT τ t with
  | true => match u with
    | .nils => match curRow s i v with
      | some r => match an with
        | .bo b :: an => match r.nl with
          | true => match op with
            | .eql => some ⟨[b = true ↔ r.xs = []], [], ⟨some (.bool b), [], [], [], []⟩, [(2, i)], an⟩
            | .neq => some ⟨[b = true ↔ r.xs = []], [], ⟨some (.bool (!b)), [], [], [], []⟩, [(2, i)], an⟩
            | _ => none
          | false => none
        | .ubn b :: an => match op with
          | .eql => some ⟨[r.xs = [] → b = true], [], ⟨some (.ub b true), [], [], [], []⟩, [(2, i)], an⟩
          | .neq => some ⟨[r.xs = [] → b = true], [], ⟨some (.ub true b), [], [], [], []⟩, [(2, i)], an⟩
          | _ => none
        | _ => none
      | none => none
    | _ => none
  | false => none

/- maps -/

def keyEq : AV → AV → Bool
  | .int _ a, .int _ b => decide (a = b)
  | .str a, .str b => decide (a = b)
  | _, _ => false
def keyOk : TK → AV → Bool
  | .int q, .int q' _ => sameKind q q'
  | .str, .str _ => true
  | _, _ => false
def keysOk (tk : TK) : List (AV × AV) → Bool
  | [] => true
  | (k, _) :: l => keyOk tk k && keysOk tk l
def mlook (k : AV) : List (AV × AV) → Option AV
  | [] => none
  | (k', v) :: l => match keyEq k' k with
    | true => some v
    | false => mlook k l
def mputA (k v : AV) : List (AV × AV) → List (AV × AV)
  | [] => [(k, v)]
  | (k', v') :: l => match keyEq k' k with
    | true => (k, v) :: l
    | false => (k', v') :: mputA k v l
def orZ (o : Option AV) (z : AV) : AV := match o with
  | some v => v
  | none => z

def evalMakeMap (τ : TyTab) (s : S) (an : List An) (d : Option Nat) (t : TypeId) : Option Res :=
  match τ t with
  | some ⟨.map _ _, _, _, _, _⟩ => match d with
    | some i => match aget s.mp i with
      | none => match Nat.blt i nB with
        | true => some ⟨[], [], ⟨some (.mp i), [], [], [(i, [])], []⟩, [(3, i)], an⟩
        | false => none
      | some _ => none
    | none => none
  | _ => none
def evalLookup (τ : TyTab) (s : S) (an : List An) (t : TypeId) (ok : Bool) (x key : AV) : Option Res :=
  match τ t with
  | some ⟨.map kt et, _, _, _, _⟩ => match τ kt with
    | some ik => match τ et with
      | some ie => match zeroEl τ et ie with
        | some z => match keyOk ik.k key with
          | true => match x with
            | .mp i => match aget s.mp i with
              | some es => match an with
                | .av v :: .bo b :: an => some ⟨[keysOk ik.k es = true, orZ (mlook key es) z = v, (mlook key es).isSome = b], [], ⟨some (match ok with | true => .tup [v, .bool b] | false => v), [], [], [], []⟩, [(3, i)], an⟩
                | _ => none
              | none => none
            | _ => none
          | false => none
        | none => none
      | none => none
    | none => none
  | _ => none
def evalMapUpdate (τ : TyTab) (s : S) (an : List An) (d : Option Nat) (t : TypeId) (x key v : AV) : Option Res :=
  match d with
  | some _ => none
  | none => match τ t with
    | some ⟨.map kt et, _, _, _, _⟩ => match τ kt with
      | some ik => match keyOk ik.k key with
        | true => match x with
          | .mp i => match aget s.mp i with
            | some es => match sealA s (norm τ et v) with
              | some (y, e) => match AV.isPure y with
               | false => none
               | true => match an with
                | .ms es' :: an => some ⟨[keysOk ik.k es = true, es' = mputA key y es], [], ⟨none, [], e, [(i, es')], []⟩, (3, i) :: rkeys e, an⟩
                | _ => none
              | none => none
            | none => none
          | _ => none
        | false => none
      | none => none
    | _ => none

/-- a list held against nil: if it is nil it is empty -/
def evalNilSl (τ : TyTab) (an : List An) (t : TypeId) (xs : List AV) (u : AV) (op : BinOp) : Option Res :=
  match isSlT τ t with
  | true => match u with
    | .nils => match an with
      | .bo b :: an => match op with
        | .eql => retG an [xs = [] → b = true] (.ub b true)
        | .neq => retG an [xs = [] → b = true] (.ub true b)
        | _ => none
      | _ => none
    | _ => none
  | false => none
/-- what is nil held against nil -/
def evalNilN (τ : TyTab) (an : List An) (t : TypeId) (u : AV) (op : BinOp) : Option Res :=
  match isSlT τ t with
  | true => match u with
    | .nils => match op with
      | .eql => retV an (.bool true)
      | .neq => retV an (.bool false)
      | _ => none
    | _ => none
  | false => none

def evalBuiltin (τ : TyTab) (s : S) (an : List An) (d : Option Nat) (args : List Operand) (tys : List TypeId) : Builtin → Option Res
  | .append => match args, tys with
    | [x, y], [t, u] => match valW s x with
      | some v => match valW s y with
        | some w => evalApp2 τ s an d t u v w
        | none => none
      | none => none
    | _, _ => none
  | .clear => match args, tys with
    | [x], [t] => match valW s x with
      | some (.rowv i v off n) => evalClear τ s an t i v off n
      | _ => none
    | _, _ => none
  | .len => match args, tys with
    | [x], [t] => match τ t with
      | some ti => match valW s x with
        | some v => evalLen s an ti.k v
        | none => none
      | none => none
    | _, _ => none
  | .cap => match args, tys with
    | [x], [t] => match τ t with
      | some ti => match valW s x with
        | some v => evalCap an ti.k v
        | none => none
      | none => none
    | _, _ => none
  | .min => match vals s args with
    | some vs => evalMinMax false an vs
    | none => none
  | .max => match vals s args with
    | some vs => evalMinMax true an vs
    | none => none
  | _ => none

/-- what an operation does, all that it reads having been worked out; calls of functions stand apart -/
def evalOp (τ : TyTab) (A : List (Nat × Bool)) (d : Option Nat) (s : S) (an : List An) : Op → Option Res
  | .move x => retO an (valW s x)
  | .assign x => retO an (valW s x)
  | .pick (.tmp d) a b => match valW s (.tmp d) with
    | some (.bool p) => match val s a with
      | some x => match val s b with
        | some y => evalPick A an a b d p x y
        | none => none
      | none => none
    | _ => none
  | .alloc t => match τ t with
    | some ti => evalBox d s an ti.zero
    | none => none
  | .box _ x => match valW s x with
    | some v => evalBox d s an v.cells
    | none => none
  | .build t parts => evalBuild τ s an t parts.toList
  | .load t a => match valW s a with
    | some v => match unp v with
      | .ep i vr k o => evalLoadEp τ s an t i vr k o
      | u => evalLoad τ s an t u
    | none => none
  | .store t a x => match d with
    | none => match valW s x with
      | some v => match valW s a with
        | some u => match unp u with
          | .ep i vr k o => evalStoreEp τ s an t v i vr k o
          | u => evalStore τ s an t v u
        | none => none
      | none => none
    | some _ => none
  | .nilCheck x => match valW s x with
    | some v => evalNilCheck an (unp v)
    | none => none
  | .binOp op t x y _ => match valW s x with
    | some v => match valW s y with
      | some u => match v with
        | .row i vr => evalNilRow τ s an t i vr u op
        | .sl _ xs => evalNilSl τ an t xs u op
        | .nils => evalNilN τ an t u op
        | v => match evalNil τ an t v u op with
          | some r => some r
          | none => evalBin τ an t op v u
      | none => none
    | none => none
  | .unOp op _ x => match valW s x with
    | some v => evalUn an v op
    | none => none
  | .convert src dst x => match τ src with
    | some _ => match valW s x with
      | some (.row i vr) => evalStrRow τ s an src dst i vr
      | some (.str l) => match isStrT τ dst with
        | true => evalConv τ an src dst (.str l)
        | false => match isStrT τ src with
          | true => evalBytesOf τ an dst l
          | false => none
      | some v => evalConv τ an src dst v
      | none => none
    | none => none
  | .fieldAddr t x f => match valW s x with
    | some v => evalFieldAddr τ an t f (unp v)
    | none => none
  | .field t x f => match valW s x with
    | some v => evalField τ an t f v
    | none => none
  | .extract x i => match valW s x with
    | some v => evalExtract an i v
    | none => none
  | .makeFunc (.func f) first caps => match first.toList with
    | [] => evalFn an f (vals s caps.toList)
    | _ :: _ => none
  | .indexAddr t x i => match valW s x with
    | some v => match valW s i with
      | some u => evalIndexAddr τ s an t v u
      | none => none
    | none => none
  | .index t x i => match valW s x with
    | some v => match valW s i with
      | some u => evalIndex τ an t v u
      | none => none
    | none => none
  | .slice t x lo hi none => match valW s x with
    | some v => match bound s lo with
      | some l => match bound s hi with
        | some h => match v with
          | .row i vr => evalSliceRow τ s an t l h i vr
          | .rowv i vr off m => evalSliceV τ s an t l h i vr off m
          | v => evalSlice τ an t l h v
        | none => none
      | none => none
    | none => none
  | .slice t x (some lo) (some hi) (some mx) => match valW s x with
    | some v => match bound s (some lo) with
      | some (some a) => match bound s (some hi) with
        | some (some b) => match bound s (some mx) with
          | some (some m) => match elemSz τ t with
            | some _ => evalSlice3 s an a b m v
            | none => none
          | _ => none
        | _ => none
      | _ => none
    | none => none
  | .buildSlice t len parts => evalBuildSlice τ s an d t len parts.toList
  | .makeSlice t n c => match valW s n with
    | some (.int .i64 a) => match valW s c with
      | some (.int .i64 b) => evalMakeSlice τ s an d t a b
      | _ => none
    | _ => none
  | .makeMap t none => evalMakeMap τ s an d t
  | .lookup t x k ok => match valW s x with
    | some v => match valW s k with
      | some u => evalLookup τ s an t ok v u
      | none => none
    | none => none
  | .mapUpdate t m k x => match valW s m with
    | some v => match valW s k with
      | some u => match valW s x with
        | some y => evalMapUpdate τ s an d t v u y
        | none => none
      | none => none
    | none => none
  | .call c => match c.callee with
    | .builtin b => evalBuiltin τ s an d c.args.toList c.argTypes.toList b
    | _ => none
  | _ => none

end Go.Dm
