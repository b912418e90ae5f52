/- The evaluator of straight code on abstract states: definitions. What it cannot know by itself (an element of a list, what a call answers) is given to it, and it says what must be shown of that. -/
import Derived.Test.YtgflfhdbihahcaaDm3
namespace Go.Dm
open Go

inductive TK where
  | int (k : IntKind)
  | bool
  | str
  | ptr (e : TypeId)
  | slice (e : TypeId)
  | struct (flds : List (TypeId × Nat)) (eq : Bool)
  | func
  | map (k e : TypeId)
  | other

structure TI where
  k : TK
  sz : Nat
  bytes : Nat
  zero : List AV
  cz : List Nat

abbrev TyTab := TypeId → Option TI

def AV.zv : AV → Value
  | .int k n => .int k n
  | .bool b => .bool b
  | .str s => .string ⟨s.toArray⟩
  | .nils => .slice none 0 0
  | .nilp => .pointer none
  | .nilfn => .nilFunc
  | .nilmp => .map none
  | _ => undef

def AV.isZ : AV → Bool
  | .int _ _ | .bool _ | .str _ | .nils | .nilp | .nilfn | .nilmp => true
  | _ => false

def TK.agg : TK → Bool
  | .struct _ _ => true
  | _ => false

def TKOk (P : Program) (t : TypeId) : TK → Prop
  | .int k => P.underlying t = some (.int k)
  | .bool => P.underlying t = some .bool
  | .str => P.underlying t = some .string
  | .ptr e => P.underlying t = some (.pointer e)
  | .slice e => P.underlying t = some (.slice e)
  | .struct fl eq => ∃ fs, P.underlying t = some (.struct fs) ∧ fs.toList.map (fun f => (f.type, f.offset)) = fl ∧
      (eq = true → P.stoodInHeld t = false ∧ P.eqGuardType P.depth t = false ∧ fs.toList.all (fun f => decide (f.name ≠ "_")) = true)
  | .func => ∃ ps rs v, P.underlying t = some (.func ps rs v)
  | .map k e => P.underlying t = some (.map k e)
  | .other => ∃ d, P.underlying t = some d ∧ (match d with | .struct _ => false | .array _ _ => false | _ => true) = true

structure TyOk1 (P : Program) (t : TypeId) (i : TI) : Prop where
  info : ∃ inf z, P.info? t = some inf ∧ inf.size = i.sz ∧ inf.bytes = i.bytes ∧ inf.zero = some z ∧ z.cells.toList = i.zero.map AV.zv
  lit : i.zero.all AV.isZ = true
  len : i.zero.length = i.sz
  kind : TKOk P t i.k
  one : i.k.agg = false → i.sz = 1

def TyOk (P : Program) (τ : TyTab) : Prop := ∀ t i, τ t = some i → TyOk1 P t i

def ofConst : Value → Option AV
  | .int k n => some (.int k n)
  | .bool b => some (.bool b)
  | .string s => some (.str s.data.toList)
  | .slice none 0 0 => some .nils
  | .pointer none => some .nilp
  | .nilFunc => some .nilfn
  | .map none => some .nilmp
  | _ => none

def val (s : S) : Operand → Option AV
  | .tmp i => aget s.fr i
  | .const v => ofConst v
  | .func f => some (.fn f [])
  | .global _ => none

/-- a slice that is nil, as an empty list: a value of a type (of each cell: 0, or the size of the elements of the slice that it is) -/
def nrmC : List Nat → List AV → List AV
  | (n + 1) :: l, .nils :: r => .sl (n + 1) [] :: nrmC l r
  | _ :: l, x :: r => x :: nrmC l r
  | [], r => r
  | _, [] => []
def norm (τ : TyTab) (t : TypeId) (x : AV) : AV :=
  match τ t with
  | some ti => match x with
    | .agg cs => .agg (nrmC ti.cz cs)
    | .nils => match ti.cz with
      | [n + 1] => .sl (n + 1) []
      | _ => .nils
    | x => x
  | none => x
def normL (τ : TyTab) : List TypeId → List AV → List AV
  | t :: ts, x :: l => norm τ t x :: normL τ ts l
  | _, l => l

/-- an operand's value, where it was worked out -/
def valW (s : S) (o : Operand) : Option AV :=
  match val s o with
  | some (.when _ x) => some x
  | x => x

/-- of conditions that are known to hold: those that are asked for, each beside the one that is known -/
def findA (d : Nat) : List (Nat × Bool) → Option Bool
  | [] => none
  | (e, c) :: l => match Nat.beq d e with
    | true => some c
    | false => findA d l
def matchA (A : List (Nat × Bool)) : List (Nat × Bool) → Option (List (Bool × Bool))
  | [] => some []
  | (d, c) :: l => match findA d A with
    | some c' => match matchA A l with
      | some r => some ((c', c) :: r)
      | none => none
    | none => none

/-- what must be for an operand to have been worked out -/
def whenOf (A : List (Nat × Bool)) (s : S) (o : Operand) : Option (List (Bool × Bool)) :=
  match val s o with
  | some (.when cs _) => matchA A cs
  | _ => some []
def obs (A : List (Nat × Bool)) (s : S) : List Operand → Option (List (Bool × Bool))
  | [] => some []
  | x :: l => match whenOf A s x with
    | some e => match obs A s l with
      | some r => some (e ++ r)
      | none => none
    | none => none

def toU8 (n : Int) : UInt8 := UInt8.ofNat (n % 256).toNat

def nrm (k : IntKind) (n : Int) : Int :=
  match k with
  | .u8 => ((toU8 n).toNat : Int)
  | k => k.wrap n

def bitsOp (op : BinOp) (k : IntKind) (a b : Int) : Int :=
  match op with
  | .and => nrm k ((BitVec.ofInt k.bits a &&& BitVec.ofInt k.bits b).toNat : Int)
  | .or => nrm k ((BitVec.ofInt k.bits a ||| BitVec.ofInt k.bits b).toNat : Int)
  | .xor => nrm k ((BitVec.ofInt k.bits a ^^^ BitVec.ofInt k.bits b).toNat : Int)
  | .andNot => nrm k ((BitVec.ofInt k.bits a &&& ~~~ BitVec.ofInt k.bits b).toNat : Int)
  | _ => 0

/-- a slot (0), a box (1), a row (2), a map (3) -/
abbrev Key := Nat × Nat

structure Eff where
  x : Option AV
  bx : List (Nat × List AV)
  rw : List (Nat × Option Rw)
  mp : List (Nat × List (AV × AV))

/-- what is given -/
inductive An where
  | av (x : AV)
  | xs (l : List AV)
  | nat (n : Int)
  | u8 (b : UInt8)
  | str (s : List UInt8)
  | call (r : AV)
  | callG (r : AV)

structure Res where
  gs : List Prop
  eq : List (Bool × Bool)
  e : Eff
  rd : List Key
  an : List An

def Eff.app (e : Eff) (d : Option Nat) (s : S) : S :=
  { fr := match d, e.x with
      | some i, some x => (i, x) :: s.fr
      | some i, none => (i, .any) :: s.fr
      | none, _ => s.fr
    bx := e.bx ++ s.bx
    rw := e.rw ++ s.rw
    mp := e.mp ++ s.mp }

def retV (an : List An) (x : AV) : Option Res := some ⟨[], [], ⟨some x, [], [], []⟩, [], an⟩
def retG (an : List An) (gs : List Prop) (x : AV) : Option Res := some ⟨gs, [], ⟨some x, [], [], []⟩, [], an⟩
def retO (an : List An) : Option AV → Option Res
  | some x => retV an x
  | none => none

def evalInt (an : List An) (k : IntKind) (a b : Int) : BinOp → Option Res
  | .add => retV an (.int k (nrm k (a + b)))
  | .sub => retV an (.int k (nrm k (a - b)))
  | .mul => retV an (.int k (nrm k (a * b)))
  | .quo => retG an [b ≠ 0] (.int k (nrm k (a.tdiv b)))
  | .rem => match k with
    | .u8 => none
    | k => retG an [b ≠ 0] (.int k (a.tmod b))
  | .and => retV an (.int k (bitsOp .and k a b))
  | .or => retV an (.int k (bitsOp .or k a b))
  | .xor => retV an (.int k (bitsOp .xor k a b))
  | .andNot => retV an (.int k (bitsOp .andNot k a b))
  | .eql => retV an (.bool (decide (a = b)))
  | .neq => retV an (.bool (!decide (a = b)))
  | .lss => retV an (.bool (decide (a < b)))
  | .leq => retV an (.bool (decide (a ≤ b)))
  | .gtr => retV an (.bool (decide (b < a)))
  | .geq => retV an (.bool (decide (b ≤ a)))
  | _ => none

def evalShift (an : List An) (k : IntKind) (a b : Int) : BinOp → Option Res
  | .shl => retG an [0 ≤ b] (.int k (nrm k (a * 2 ^ (min b.toNat k.bits))))
  | .shr => match k with
    | .u8 => retG an [0 ≤ b, nrm .u8 (a.fdiv (2 ^ (min b.toNat 8))) = a.fdiv (2 ^ (min b.toNat 8))] (.int .u8 (nrm .u8 (a.fdiv (2 ^ (min b.toNat 8)))))
    | k => retG an [0 ≤ b] (.int k (a.fdiv (2 ^ (min b.toNat k.bits))))
  | _ => none

def isShift : BinOp → Bool
  | .shl | .shr => true
  | _ => false

def evalStr (an : List An) (x y : List UInt8) : BinOp → Option Res
  | .add => retG an [x.length + y.length ≤ 9223372036854775807] (.str (x ++ y))
  | .eql => retV an (.bool (decide (x = y)))
  | .neq => retV an (.bool (!decide (x = y)))
  | .lss => retV an (.bool (Op.bytesLess x y))
  | .leq => retV an (.bool (!Op.bytesLess y x))
  | .gtr => retV an (.bool (Op.bytesLess y x))
  | .geq => retV an (.bool (!Op.bytesLess x y))
  | _ => none

def isBoolT (τ : TyTab) (t : TypeId) : Bool :=
  match τ t with
  | some ⟨.bool, _, _, _, _⟩ => true
  | _ => false

def evalBool (τ : TyTab) (an : List An) (t : TypeId) (x y : Bool) : BinOp → Option Res
  | .eql => match isBoolT τ t with
    | true => retV an (.bool (x == y))
    | false => none
  | .neq => match isBoolT τ t with
    | true => retV an (.bool (!(x == y)))
    | false => none
  | _ => none

inductive Sh where
  | int (k : IntKind)
  | bool
  | str

def sameKind : IntKind → IntKind → Bool
  | .i64, .i64 | .u8, .u8 | .u32, .u32 | .u64, .u64 => true
  | _, _ => false

def hasSh : List Sh → List AV → Bool
  | [], [] => true
  | .int k :: r, .int k' _ :: l => sameKind k k' && hasSh r l
  | .bool :: r, .bool _ :: l => hasSh r l
  | .str :: r, .str _ :: l => hasSh r l
  | _, _ => false

def shapes (f : TypeId → Option (List Sh)) : Nat → List (TypeId × Nat) → Option (List Sh)
  | _, [] => some []
  | o, (t, off) :: l => match Nat.beq off o with
    | true => match f t with
      | some a => match shapes f (o + a.length) l with
        | some b => some (a ++ b)
        | none => none
      | none => none
    | false => none

/-- the cells of a type whose values may be held against each other cell by cell -/
def shapeOf (τ : TyTab) : Nat → TypeId → Option (List Sh)
  | 0, _ => none
  | n + 1, t => match τ t with
    | some ⟨.int k, _, _, _, _⟩ => some [.int k]
    | some ⟨.bool, _, _, _, _⟩ => some [.bool]
    | some ⟨.str, _, _, _, _⟩ => some [.str]
    | some ⟨.struct fl true, sz, _, _, _⟩ => match shapes (shapeOf τ n) 0 fl with
      | some sh => match Nat.beq sh.length sz with
        | true => some sh
        | false => none
      | none => none
    | _ => none

/-- two lists of plain cells: are they the same? -/
def eqB : List AV → List AV → Option Bool
  | [], [] => some true
  | .int _ a :: l, .int _ b :: r => match eqB l r with
    | some e => some (decide (a = b) && e)
    | none => none
  | .str a :: l, .str b :: r => match eqB l r with
    | some e => some (decide (a = b) && e)
    | none => none
  | .bool a :: l, .bool b :: r => match eqB l r with
    | some e => some ((a == b) && e)
    | none => none
  | _, _ => none

def evalAgg (τ : TyTab) (an : List An) (t : TypeId) (cs ds : List AV) (op : BinOp) : Option Res :=
  match τ t with
  | some ⟨.struct _ _, _, _, _, _⟩ => match shapeOf τ 5 t with
    | some sh => match hasSh sh cs with
      | true => match hasSh sh ds with
        | true => match eqB cs ds with
          | some e => match op with
            | .eql => retV an (.bool e)
            | .neq => retV an (.bool (!e))
            | _ => none
          | none => none
        | false => none
      | false => none
    | none => none
  | _ => none

def evalBin (τ : TyTab) (an : List An) (t : TypeId) (op : BinOp) : AV → AV → Option Res
  | .int k a, .int k' b => match isShift op with
    | true => evalShift an k a b op
    | false => match sameKind k k' with
      | true => evalInt an k a b op
      | false => none
  | .str x, .str y => evalStr an x y op
  | .bool x, .bool y => evalBool τ an t x y op
  | .agg cs, .agg ds => evalAgg τ an t cs ds op
  | _, _ => none

def takeAt : List AV → Nat → Nat → Option (List AV)
  | _, _, 0 => some []
  | [], _, _ + 1 => none
  | x :: l, 0, n + 1 => match takeAt l 0 n with
    | some r => some (x :: r)
    | none => none
  | _ :: l, o + 1, n + 1 => takeAt l o (n + 1)

def setAt : List AV → Nat → List AV → Option (List AV)
  | l, _, [] => some l
  | [], _, _ :: _ => none
  | _ :: l, 0, v :: vs => match setAt l 0 vs with
    | some r => some (v :: r)
    | none => none
  | x :: l, o + 1, v :: vs => match setAt l o (v :: vs) with
    | some r => some (x :: r)
    | none => none

def nth {α : Type} : List α → Nat → Option α
  | [], _ => none
  | x :: _, 0 => some x
  | _ :: l, n + 1 => nth l n

/-- what stands at a place, as a variable of a type -/
def partOf (i : TI) (cs : List AV) (off : Nat) : Option AV :=
  match i.k.agg with
  | true => match takeAt cs off i.sz with
    | some r => some (.agg r)
    | none => none
  | false => nth cs off

def fldOf (τ : TyTab) (st : TypeId) (f : Nat) : Option (TI × Nat) :=
  match τ st with
  | some ⟨.struct fl _, _, _, _, _⟩ =>
    match nth fl f with
    | some (t, off) => match τ t with
      | some i => match i.sz with
        | 0 => none
        | _ + 1 => some (i, off)
      | none => none
    | none => none
  | _ => none

def evalFieldAddr (τ : TyTab) (an : List An) (st f : Nat) : AV → Option Res
  | .ptr i o => match fldOf τ st f with
    | some (_, off) => retV an (.ptr i (o + off))
    | none => none
  | .ep i k o => match fldOf τ st f with
    | some (_, off) => retV an (.ep i k (o + off))
    | none => none
  | .rp (.agg cs) => match fldOf τ st f with
    | some (i, off) => match partOf i cs off with
      | some x => retV an (.rp x)
      | none => none
    | none => none
  | _ => none

def evalField (τ : TyTab) (an : List An) (st f : Nat) : AV → Option Res
  | .agg cs => match fldOf τ st f with
    | some (i, off) => retO an (partOf i cs off)
    | none => none
  | _ => none

def fits (i : TI) : AV → Bool
  | .agg cs => match i.k.agg with
    | true => Nat.beq cs.length i.sz
    | false => false
  | .tup _ => false
  | .any => false
  | .when _ _ => false
  | _ => !i.k.agg

def evalLoad (τ : TyTab) (s : S) (an : List An) (t : TypeId) : AV → Option Res
  | .ptr i o => match τ t with
    | some ti => match aget s.bx i with
      | some cs => match partOf ti cs o with
        | some x => some ⟨[], [], ⟨some x, [], [], []⟩, [(1, i)], an⟩
        | none => none
      | none => none
    | none => none
  | .rp x => match τ t with
    | some ti => match fits ti x with
      | true => retV an x
      | false => none
    | none => none
  | _ => none

def allCell : List AV → Bool
  | [] => true
  | x :: l => match x.isCell with
    | true => allCell l
    | false => false

def evalStore (τ : TyTab) (s : S) (an : List An) (t : TypeId) (x : AV) : AV → Option Res
  | .ptr i o => match τ t with
    | some ti => match aget s.bx i with
      | some cs => match Nat.beq x.cells.length ti.sz with
        | true => match allCell x.cells with
          | true => match setAt cs o x.cells with
            | some cs' => some ⟨[], [], ⟨none, [(i, cs')], [], []⟩, [(1, i)], an⟩
            | none => none
          | false => none
        | false => none
      | none => none
    | none => none
  | _ => none

def evalBox (d : Option Nat) (s : S) (an : List An) (cs : List AV) : Option Res :=
  match d with
  | some i => match aget s.bx i with
    | none => match allCell cs with
      | true => some ⟨[], [], ⟨some (.ptr i 0), [(i, cs)], [], []⟩, [(1, i)], an⟩
      | false => none
    | some _ => none
  | none => none

def evalExtract (an : List An) (i : Nat) : AV → Option Res
  | .tup vs => retO an (nth vs i)
  | _ => none

/-- one of two bools, where what was not worked out is not asked for: 'd' is the slot of the condition, 'p' what it is if this one is picked -/
def pickB (A : List (Nat × Bool)) (d : Nat) (p : Bool) : AV → Option (List (Bool × Bool) × Bool)
  | .bool x => some ([], x)
  | .when cs (.bool x) => match matchA ((d, p) :: A) cs with
    | some e => some (e, x)
    | none => none
  | _ => none

def isT : Operand → Bool
  | .const (.bool true) => true
  | _ => false
def isF : Operand → Bool
  | .const (.bool false) => true
  | _ => false

def pickV (a b : Operand) (p u v : Bool) : Bool :=
  match isT a with
  | true => p || v
  | false => match isF b with
    | true => p && u
    | false => bif p then u else v

def evalPick (A : List (Nat × Bool)) (an : List An) (a b : Operand) (d : Nat) (p : Bool) (x y : AV) : Option Res :=
  match pickB A d p x with
  | some (g, u) => match pickB A d (!p) y with
    | some (h, v) => some ⟨[], g ++ h, ⟨some (.bool (pickV a b p u v)), [], [], []⟩, [], an⟩
    | none => none
  | none => none

def evalNilCheck (an : List An) : AV → Option Res
  | .ptr i o => retV an (.ptr i o)
  | .rp x => retV an (.rp x)
  | .ep i k o => retV an (.ep i k o)
  | _ => none

def evalUn (an : List An) (x : AV) : UnOp → Option Res
  | .not => match x with
    | .bool b => retV an (.bool (!b))
    | _ => none
  | .neg => match x with
    | .int k n => retV an (.int k (nrm k (0 - n)))
    | _ => none
  | .xor => match x with
    | .int k n => retV an (.int k (bitsOp .xor k (if k.signed then -1 else k.max) n))
    | _ => none
  | _ => none

def u8s (l : List UInt8) : List AV := l.map fun b => .int .u8 (b.toNat : Int)

def isBytes (τ : TyTab) (t : TypeId) : Bool :=
  match τ t with
  | some ⟨.slice e, _, _, _, _⟩ => match τ e with
    | some ⟨.int .u8, _, _, _, _⟩ => true
    | _ => false
  | _ => false

def evalConv (τ : TyTab) (an : List An) (src dst : TypeId) : AV → Option Res
  | .int _ n => match τ dst with
    | some ⟨.int k, _, _, _, _⟩ => retV an (.int k (nrm k n))
    | _ => none
  | .str x => match τ dst with
    | some ⟨.str, _, _, _, _⟩ => retV an (.str x)
    | _ => none
  | .sl sz xs => match τ dst with
    | some ⟨.str, _, _, _, _⟩ => match isBytes τ src with
      | true => match Nat.beq sz 1 with
        | true => match an with
          | .str l :: an => retG an [xs = u8s l] (.str l)
          | _ => none
        | false => none
      | false => none
    | _ => none
  | .nils => match τ dst with
    | some ⟨.str, _, _, _, _⟩ => match isBytes τ src with
      | true => retV an (.str [])
      | false => none
    | _ => none
  | _ => none

def vals (s : S) : List Operand → Option (List AV)
  | [] => some []
  | x :: l => match valW s x, vals s l with
    | some v, some vs => some (v :: vs)
    | _, _ => none

/-- the cells of a struct literal -/
def fill (τ : TyTab) (s : S) (st : TypeId) : List AV → List (Nat × Operand) → Option (List AV)
  | cs, [] => some cs
  | cs, (f, x) :: r =>
    match fldOf τ st f with
    | some (i, off) => match valW s x with
      | some v => match Nat.beq v.cells.length i.sz with
        | true => match allCell v.cells with
          | true => match setAt cs off v.cells with
            | some cs' => fill τ s st cs' r
            | none => none
          | false => none
        | false => none
      | none => none
    | none => none

def allTy (τ : TyTab) : List (TypeId × Nat) → Bool
  | [] => true
  | (t, _) :: l => match τ t with
    | some _ => allTy τ l
    | none => false

def evalBuild (τ : TyTab) (s : S) (an : List An) (t : TypeId) (parts : List (Nat × Operand)) : Option Res :=
  match τ t with
  | some ⟨.struct fl _, _, _, z, _⟩ =>
    match allTy τ fl with
    | true => match fill τ s t z parts with
      | some cs => retV an (.agg cs)
      | none => none
    | false => none
  | _ => none

def evalLen (s : S) (an : List An) : TK → AV → Option Res
  | .slice _, .sl _ xs => match an with
    | .nat n :: an => retG an [n = (xs.length : Int)] (.int .i64 n)
    | _ => none
  | .slice _, .nils => retV an (.int .i64 0)
  | .str, .str x => retV an (.int .i64 x.length)
  | .slice _, .row i => match rget s.rw i with
    | some r => match an with
      | .nat n :: an => some ⟨[n = (r.xs.length : Int)], [], ⟨some (.int .i64 n), [], [], []⟩, [(2, i)], an⟩
      | _ => none
    | none => none
  | .slice _, .rowv _ _ n => retV an (.int .i64 n)
  | _, _ => none

def evalMinMax (mx : Bool) (an : List An) : List AV → Option Res
  | [.int k a, .int k' b] => match sameKind k k' with
    | true => match k with
      | .u8 => none
      | _ => retV an (.int k (match mx with | true => max a b | false => min a b))
    | false => none
  | _ => none

def evalFn (an : List An) (f : FuncId) (caps : Option (List AV)) : Option Res :=
  match caps with
  | some vs => match allCell vs with
    | true => retV an (.fn f vs)
    | false => none
  | none => none

/-- the cells of an element -/
def elemSz (τ : TyTab) (t : TypeId) : Option Nat :=
  match τ t with
  | some ⟨.slice e, _, _, _, _⟩ => match τ e with
    | some i => some i.sz
    | none => none
  | _ => none

def evalIndexAddr (τ : TyTab) (s : S) (an : List An) (t : TypeId) : AV → AV → Option Res
  | .sl sz xs, .int _ n => match elemSz τ t with
    | some z => match Nat.beq sz z with
      | true => match an with
        | .av u :: an => retG an [0 ≤ n ∧ xs[n.toNat]? = some u] (.rp u)
        | _ => none
      | false => none
    | none => none
  | .row i, .int _ n => match elemSz τ t with
    | some z => match rget s.rw i with
      | some r => match Nat.beq r.sz z with
        | true => some ⟨[0 ≤ n ∧ n.toNat < r.xs.length], [], ⟨some (.ep i n.toNat 0), [], [], []⟩, [(2, i)], an⟩
        | false => none
      | none => none
    | none => none
  | _, _ => none

def evalIndex (τ : TyTab) (an : List An) (t : TypeId) : AV → AV → Option Res
  | .str x, .int _ n => match τ t with
    | some ⟨.str, _, _, _, _⟩ => match an with
      | .u8 b :: an => retG an [0 ≤ n ∧ x[n.toNat]? = some b] (.int .u8 (b.toNat : Int))
      | _ => none
    | _ => none
  | _, _ => none

/-- a bound of a cut: nothing, or a number -/
def bound (s : S) : Option Operand → Option (Option Int)
  | none => some none
  | some o => match valW s o with
    | some (.int .i64 n) => some (some n)
    | _ => none

def evalSlice (τ : TyTab) (an : List An) (t : TypeId) (lo hi : Option Int) : AV → Option Res
  | .sl sz xs => match elemSz τ t with
    | some z => match Nat.beq sz z with
      | true => match an with
        | .xs ys :: an => match lo, hi with
          | none, none => retG an [ys = xs] (.sl sz ys)
          | some a, none => retG an [0 ≤ a ∧ a.toNat ≤ xs.length ∧ ys = xs.drop a.toNat] (.sl sz ys)
          | none, some b => retG an [0 ≤ b ∧ b.toNat ≤ xs.length ∧ ys = xs.take b.toNat] (.sl sz ys)
          | some a, some b => retG an [0 ≤ a ∧ a ≤ b ∧ b.toNat ≤ xs.length ∧ ys = (xs.take b.toNat).drop a.toNat] (.sl sz ys)
        | _ => none
      | false => none
    | none => none
  | .str x => match τ t with
    | some ⟨.str, _, _, _, _⟩ => match lo, hi with
      | none, none => retV an (.str x)
      | some a, none => retG an [0 ≤ a ∧ a.toNat ≤ x.length] (.str (x.drop a.toNat))
      | none, some b => retG an [0 ≤ b ∧ b.toNat ≤ x.length] (.str (x.take b.toNat))
      | some a, some b => retG an [0 ≤ a ∧ a ≤ b ∧ b.toNat ≤ x.length] (.str ((x.take b.toNat).drop a.toNat))
    | _ => none
  | _ => none

def evalBuiltin (τ : TyTab) (s : S) (an : List An) (args : List Operand) (tys : List TypeId) : Builtin → Option Res
  | .len => match args, tys with
    | [x], [t] => match τ t with
      | some ti => match valW s x with
        | some v => evalLen s an ti.k v
        | none => none
      | none => none
    | _, _ => none
  | .min => match vals s args with
    | some vs => evalMinMax false an vs
    | none => none
  | .max => match vals s args with
    | some vs => evalMinMax true an vs
    | none => none
  | _ => none

/-- what an operation does, all that it reads having been worked out; calls of functions stand apart -/
def evalOp (τ : TyTab) (A : List (Nat × Bool)) (d : Option Nat) (s : S) (an : List An) : Op → Option Res
  | .move x => retO an (valW s x)
  | .assign x => retO an (valW s x)
  | .pick (.tmp d) a b => match valW s (.tmp d) with
    | some (.bool p) => match val s a with
      | some x => match val s b with
        | some y => evalPick A an a b d p x y
        | none => none
      | none => none
    | _ => none
  | .alloc t => match τ t with
    | some ti => evalBox d s an ti.zero
    | none => none
  | .box _ x => match valW s x with
    | some v => evalBox d s an v.cells
    | none => none
  | .build t parts => evalBuild τ s an t parts.toList
  | .load t a => match valW s a with
    | some v => evalLoad τ s an t v
    | none => none
  | .store t a x => match d with
    | none => match valW s x with
      | some v => match valW s a with
        | some u => evalStore τ s an t v u
        | none => none
      | none => none
    | some _ => none
  | .nilCheck x => match valW s x with
    | some v => evalNilCheck an v
    | none => none
  | .binOp op t x y _ => match valW s x with
    | some v => match valW s y with
      | some u => evalBin τ an t op v u
      | none => none
    | none => none
  | .unOp op _ x => match valW s x with
    | some v => evalUn an v op
    | none => none
  | .convert src dst x => match τ src with
    | some _ => match valW s x with
      | some v => evalConv τ an src dst v
      | none => none
    | none => none
  | .fieldAddr t x f => match valW s x with
    | some v => evalFieldAddr τ an t f v
    | none => none
  | .field t x f => match valW s x with
    | some v => evalField τ an t f v
    | none => none
  | .extract x i => match valW s x with
    | some v => evalExtract an i v
    | none => none
  | .makeFunc (.func f) first caps => match first.toList with
    | [] => evalFn an f (vals s caps.toList)
    | _ :: _ => none
  | .indexAddr t x i => match valW s x with
    | some v => match valW s i with
      | some u => evalIndexAddr τ s an t v u
      | none => none
    | none => none
  | .index t x i => match valW s x with
    | some v => match valW s i with
      | some u => evalIndex τ an t v u
      | none => none
    | none => none
  | .slice t x lo hi none => match valW s x with
    | some v => match bound s lo with
      | some l => match bound s hi with
        | some h => evalSlice τ an t l h v
        | none => none
      | none => none
    | none => none
  | .call c => match c.callee with
    | .builtin b => evalBuiltin τ s an c.args.toList c.argTypes.toList b
    | _ => none
  | _ => none

end Go.Dm
