/- The evaluator of straight code on abstract states: definitions. -/
import Derived.Test.YtgflfhdbihahcaaAbCtl
namespace Go.Ab
open Go

inductive TK where
  | int (k : IntKind)
  | bool
  | str
  | ptr (e : TypeId)
  | slice (e : TypeId)
  | struct (flds : List (TypeId × Nat)) (eq : Bool)
  | func
  | map (k e : TypeId)
  | other

structure TI where
  k : TK
  sz : Nat
  bytes : Nat
  zero : List AV

abbrev TyTab := TypeId → Option TI

def AV.zv : AV → Value
  | .int k n => .int k n
  | .bool b => .bool b
  | .str s => .string ⟨s.toArray⟩
  | .nils => .slice none 0 0
  | .nilp => .pointer none
  | .nilfn => .nilFunc
  | .nilmp => .map none
  | _ => undef

def AV.isZ : AV → Bool
  | .int _ _ | .bool _ | .str _ | .nils | .nilp | .nilfn | .nilmp => true
  | _ => false

/-- a value of one cell -/
def AV.isCell : AV → Bool
  | .agg _ | .tup _ | .any => false
  | _ => true

def TK.agg : TK → Bool
  | .struct _ _ => true
  | _ => false

def TKOk (P : Program) (t : TypeId) : TK → Prop
  | .int k => P.underlying t = some (.int k)
  | .bool => P.underlying t = some .bool
  | .str => P.underlying t = some .string
  | .ptr e => P.underlying t = some (.pointer e)
  | .slice e => P.underlying t = some (.slice e)
  | .struct fl eq => ∃ fs, P.underlying t = some (.struct fs) ∧ fs.toList.map (fun f => (f.type, f.offset)) = fl ∧
      (eq = true → P.stoodInHeld t = false ∧ P.eqGuardType P.depth t = false ∧ fs.toList.all (fun f => decide (f.name ≠ "_")) = true)
  | .func => ∃ ps rs v, P.underlying t = some (.func ps rs v)
  | .map k e => P.underlying t = some (.map k e)
  | .other => ∃ d, P.underlying t = some d ∧ (match d with | .struct _ => false | .array _ _ => false | _ => true) = true

structure TyOk1 (P : Program) (t : TypeId) (i : TI) : Prop where
  info : ∃ inf z, P.info? t = some inf ∧ inf.size = i.sz ∧ inf.bytes = i.bytes ∧ inf.zero = some z ∧ z.cells.toList = i.zero.map AV.zv
  lit : i.zero.all AV.isZ = true
  len : i.zero.length = i.sz
  kind : TKOk P t i.k
  one : i.k.agg = false → i.sz = 1

def TyOk (P : Program) (τ : TyTab) : Prop := ∀ t i, τ t = some i → TyOk1 P t i

def ofConst : Value → Option AV
  | .int k n => some (.int k n)
  | .bool b => some (.bool b)
  | .string s => some (.str s.data.toList)
  | .slice none 0 0 => some .nils
  | .pointer none => some .nilp
  | .nilFunc => some .nilfn
  | .map none => some .nilmp
  | _ => none

def val (s : S) : Operand → Option AV
  | .tmp i => aget s.fr i
  | .const v => ofConst v
  | .func f => some (.fn f [])
  | .global _ => none

inductive T where
  | leaf (os : List Oper) (s : S)
  | guard (p : Prop) (t : T)
  | split (p : Prop) (t u : T)
  | stop

def T.all (K : List Oper → S → Prop) : T → Prop
  | .leaf os s => K os s
  | .guard p t => p ∧ t.all K
  | .split p t u => (p → t.all K) ∧ (¬ p → u.all K)
  | .stop => False

def T.bindOr : T → T → (S → T) → T
  | .leaf _ s, _, f => f s
  | .guard p t, alt, f => .guard p (t.bindOr alt f)
  | .split p t u, alt, f => .split p (t.bindOr alt f) (u.bindOr alt f)
  | .stop, alt, _ => alt

def setD (d : Option Nat) (v : AV) (s : S) : S :=
  match d with
  | some i => { s with fr := aput s.fr i v }
  | none => s

def ret1 (d : Option Nat) (s : S) : Option AV → T
  | some v => .leaf [] (setD d v s)
  | none => .stop

open Classical in
/-- the one or the other, as a sentence is true or not -/
noncomputable def T.dec (p : Prop) (t u : T) : T := if p then t else u
theorem T.dec_true (t u : T) : T.dec True t u = t := if_pos trivial
theorem T.dec_false (t u : T) : T.dec False t u = u := if_neg not_false
theorem T.dec_pos {p : Prop} (h : p) (t u : T) : T.dec p t u = t := if_pos h
theorem T.dec_neg {p : Prop} (h : ¬ p) (t u : T) : T.dec p t u = u := if_neg h
theorem T.dec_bindOr (p : Prop) (t u alt : T) (f : S → T) : (T.dec p t u).bindOr alt f = T.dec p (t.bindOr alt f) (u.bindOr alt f) := by
  by_cases h : p
  · rw [T.dec_pos h, T.dec_pos h]
  · rw [T.dec_neg h, T.dec_neg h]
theorem T.dec_all (p : Prop) (t u : T) (K : List Oper → S → Prop) : (T.dec p t u).all K = ((p → t.all K) ∧ (¬ p → u.all K)) := by
  by_cases h : p
  · rw [T.dec_pos h]; simp [h]
  · rw [T.dec_neg h]; simp [h]

noncomputable def ret2 (d : Option Nat) (s : S) (p : Prop) : T :=
  T.dec p (.leaf [] (setD d (.bool true) s)) (.leaf [] (setD d (.bool false) s))

def bitsOp (op : BinOp) (k : IntKind) (a b : Int) : Int :=
  match op with
  | .and => k.wrap ((BitVec.ofInt k.bits a &&& BitVec.ofInt k.bits b).toNat : Int)
  | .or => k.wrap ((BitVec.ofInt k.bits a ||| BitVec.ofInt k.bits b).toNat : Int)
  | .xor => k.wrap ((BitVec.ofInt k.bits a ^^^ BitVec.ofInt k.bits b).toNat : Int)
  | .andNot => k.wrap ((BitVec.ofInt k.bits a &&& ~~~ BitVec.ofInt k.bits b).toNat : Int)
  | _ => 0

noncomputable def evalInt (d : Option Nat) (s : S) (k : IntKind) (a b : Int) : BinOp → T
  | .add => ret1 d s (some (.int k (k.wrap (a + b))))
  | .sub => ret1 d s (some (.int k (k.wrap (a - b))))
  | .mul => ret1 d s (some (.int k (k.wrap (a * b))))
  | .quo => .guard (b ≠ 0) (ret1 d s (some (.int k (k.wrap (a.tdiv b)))))
  | .rem => .guard (b ≠ 0) (ret1 d s (some (.int k (a.tmod b))))
  | .and => ret1 d s (some (.int k (bitsOp .and k a b)))
  | .or => ret1 d s (some (.int k (bitsOp .or k a b)))
  | .xor => ret1 d s (some (.int k (bitsOp .xor k a b)))
  | .andNot => ret1 d s (some (.int k (bitsOp .andNot k a b)))
  | .eql => ret2 d s (a = b)
  | .neq => T.dec (a = b) (.leaf [] (setD d (.bool false) s)) (.leaf [] (setD d (.bool true) s))
  | .lss => ret2 d s (a < b)
  | .leq => ret2 d s (a ≤ b)
  | .gtr => ret2 d s (b < a)
  | .geq => ret2 d s (b ≤ a)
  | _ => .stop

noncomputable def evalShift (d : Option Nat) (s : S) (k : IntKind) (a b : Int) : BinOp → T
  | .shl => .guard (0 ≤ b) (ret1 d s (some (.int k (k.wrap (a * 2 ^ (min b.toNat k.bits))))))
  | .shr => .guard (0 ≤ b) (ret1 d s (some (.int k (a.fdiv (2 ^ (min b.toNat k.bits))))))
  | _ => .stop

def isShift : BinOp → Bool
  | .shl | .shr => true
  | _ => false

noncomputable def evalStr (d : Option Nat) (s : S) (x y : List UInt8) : BinOp → T
  | .add => .guard (x.length + y.length ≤ 9223372036854775807) (ret1 d s (some (.str (x ++ y))))
  | .eql => ret2 d s (x = y)
  | .neq => T.dec (x = y) (.leaf [] (setD d (.bool false) s)) (.leaf [] (setD d (.bool true) s))
  | .lss => ret2 d s (Op.bytesLess x y = true)
  | .leq => ret2 d s (Op.bytesLess y x = false)
  | .gtr => ret2 d s (Op.bytesLess y x = true)
  | .geq => ret2 d s (Op.bytesLess x y = false)
  | _ => .stop

def isBoolT (τ : TyTab) (t : TypeId) : Bool :=
  match τ t with
  | some ⟨.bool, _, _, _⟩ => true
  | _ => false

noncomputable def evalBool (τ : TyTab) (d : Option Nat) (s : S) (t : TypeId) (x y : Bool) : BinOp → T
  | .eql => if isBoolT τ t then ret1 d s (some (.bool (x == y))) else .stop
  | .neq => if isBoolT τ t then ret1 d s (some (.bool (x != y))) else .stop
  | _ => .stop

/-- two lists of plain cells are the same -/
def cellsEq : List AV → List AV → Prop
  | [], [] => True
  | .int _ a :: l, .int _ b :: r => a = b ∧ cellsEq l r
  | .str a :: l, .str b :: r => a = b ∧ cellsEq l r
  | .bool a :: l, .bool b :: r => a = b ∧ cellsEq l r
  | _, _ => False

inductive Sh where
  | int (k : IntKind)
  | bool
  | str

def hasSh : List Sh → List AV → Bool
  | [], [] => true
  | .int k :: r, .int k' _ :: l => decide (k = k') && hasSh r l
  | .bool :: r, .bool _ :: l => hasSh r l
  | .str :: r, .str _ :: l => hasSh r l
  | _, _ => false

def shapes (f : TypeId → Option (List Sh)) : Nat → List (TypeId × Nat) → Option (List Sh)
  | _, [] => some []
  | o, (t, off) :: l => if off = o then
      match f t with
      | some a => (shapes f (o + a.length) l).map (a ++ ·)
      | none => none
    else none

/-- the cells of a type whose values may be held against each other cell by cell -/
def shapeOf (τ : TyTab) : Nat → TypeId → Option (List Sh)
  | 0, _ => none
  | n + 1, t => match τ t with
    | some ⟨.int k, _, _, _⟩ => some [.int k]
    | some ⟨.bool, _, _, _⟩ => some [.bool]
    | some ⟨.str, _, _, _⟩ => some [.str]
    | some ⟨.struct fl true, sz, _, _⟩ => match shapes (shapeOf τ n) 0 fl with
      | some sh => if sh.length = sz then some sh else none
      | none => none
    | _ => none

noncomputable def evalAgg (τ : TyTab) (d : Option Nat) (s : S) (t : TypeId) (cs ds : List AV) (op : BinOp) : T :=
  match shapeOf τ 5 t with
  | some sh =>
    if (((τ t).map (·.k.agg)).getD false = true) ∧ hasSh sh cs = true ∧ hasSh sh ds = true then
      match op with
      | .eql => ret2 d s (cellsEq cs ds)
      | .neq => T.dec (cellsEq cs ds) (.leaf [] (setD d (.bool false) s)) (.leaf [] (setD d (.bool true) s))
      | _ => .stop
    else .stop
  | none => .stop

noncomputable def evalBin (τ : TyTab) (d : Option Nat) (s : S) (t : TypeId) (op : BinOp) : AV → AV → T
  | .int k a, .int k' b => if isShift op then evalShift d s k a b op else if k = k' then evalInt d s k a b op else .stop
  | .str x, .str y => evalStr d s x y op
  | .bool x, .bool y => evalBool τ d s t x y op
  | .agg cs, .agg ds => evalAgg τ d s t cs ds op
  | _, _ => .stop

def takeAt : List AV → Nat → Nat → Option (List AV)
  | _, _, 0 => some []
  | [], _, _ + 1 => none
  | x :: l, 0, n + 1 => (takeAt l 0 n).map (x :: ·)
  | _ :: l, o + 1, n + 1 => takeAt l o (n + 1)

def setAt : List AV → Nat → List AV → Option (List AV)
  | l, _, [] => some l
  | [], _, _ :: _ => none
  | _ :: l, 0, v :: vs => (setAt l 0 vs).map (v :: ·)
  | x :: l, o + 1, v :: vs => (setAt l o (v :: vs)).map (x :: ·)

def nth {α : Type} : List α → Nat → Option α
  | [], _ => none
  | x :: _, 0 => some x
  | _ :: l, n + 1 => nth l n

/-- what stands at a place, as a variable of a type -/
def partOf (i : TI) (cs : List AV) (off : Nat) : Option AV :=
  if i.k.agg then (takeAt cs off i.sz).map .agg else nth cs off

def fldOf (τ : TyTab) (st : TypeId) (f : Nat) : Option (TI × Nat) :=
  match τ st with
  | some ⟨.struct fl _, _, _, _⟩ =>
    match nth fl f with
    | some (t, off) => match τ t with
      | some i => if i.sz = 0 then none else some (i, off)
      | none => none
    | none => none
  | _ => none

def evalFieldAddr (τ : TyTab) (d : Option Nat) (s : S) (st f : Nat) : AV → T
  | .ptr i o => match fldOf τ st f with
    | some (_, off) => ret1 d s (some (.ptr i (o + off)))
    | none => .stop
  | .ep i z k o => match fldOf τ st f with
    | some (_, off) => ret1 d s (some (.ep i z k (o + off)))
    | none => .stop
  | .rp (.agg cs) => match fldOf τ st f with
    | some (i, off) => ret1 d s ((partOf i cs off).map .rp)
    | none => .stop
  | _ => .stop

def evalField (τ : TyTab) (d : Option Nat) (s : S) (st f : Nat) : AV → T
  | .agg cs => match fldOf τ st f with
    | some (i, off) => ret1 d s (partOf i cs off)
    | none => .stop
  | _ => .stop

def fits (i : TI) : AV → Bool
  | .agg cs => i.k.agg && decide (cs.length = i.sz)
  | .tup _ => false
  | .any => false
  | _ => !i.k.agg

def evalLoad (τ : TyTab) (d : Option Nat) (s : S) (t : TypeId) : AV → T
  | .ptr i o => match τ t, aget s.bx i with
    | some ti, some cs => ret1 d s (partOf ti cs o)
    | _, _ => .stop
  | .rp x => match τ t with
    | some ti => if fits ti x then ret1 d s (some x) else .stop
    | none => .stop
  | _ => .stop

def evalStore (τ : TyTab) (s : S) (t : TypeId) (x : AV) : AV → T
  | .ptr i o => match τ t, aget s.bx i with
    | some ti, some cs =>
      if x.cells.length = ti.sz ∧ x.cells.all AV.isCell = true then
        match setAt cs o x.cells with
        | some cs' => .leaf [] { s with bx := aput s.bx i cs' }
        | none => .stop
      else .stop
    | _, _ => .stop
  | _ => .stop

def evalBox (d : Option Nat) (s : S) (cs : List AV) : T :=
  match d with
  | some i => match aget s.bx i with
    | none => if cs.all AV.isCell then .leaf [] { s with fr := aput s.fr i (.ptr i 0), bx := aput s.bx i cs } else .stop
    | some _ => .stop
  | none => .stop

def evalExtract (d : Option Nat) (s : S) (i : Nat) : AV → T
  | .tup vs => ret1 d s (nth vs i)
  | _ => .stop

def evalPick (d : Option Nat) (s : S) (a b : Option AV) : AV → T
  | .bool true => ret1 d s a
  | .bool false => ret1 d s b
  | _ => .stop

def evalNilCheck (d : Option Nat) (s : S) : AV → T
  | .ptr i o => ret1 d s (some (.ptr i o))
  | .rp x => ret1 d s (some (.rp x))
  | .ep i z k o => ret1 d s (some (.ep i z k o))
  | _ => .stop

def evalNot (d : Option Nat) (s : S) : AV → T
  | .bool b => ret1 d s (some (.bool (!b)))
  | _ => .stop

noncomputable def evalUn (d : Option Nat) (s : S) (x : Option AV) : UnOp → T
  | .not => match x with
    | some v => evalNot d s v
    | none => .stop
  | .neg => match x with
    | some (.int k n) => ret1 d s (some (.int k (k.wrap (0 - n))))
    | _ => .stop
  | .xor => match x with
    | some (.int k n) => ret1 d s (some (.int k (bitsOp .xor k (if k.signed then -1 else k.max) n)))
    | _ => .stop
  | _ => .stop

def evalConv (τ : TyTab) (d : Option Nat) (s : S) (dst : TypeId) : AV → T
  | .int _ n => match τ dst with
    | some ⟨.int k, _, _, _⟩ => ret1 d s (some (.int k (k.wrap n)))
    | _ => .stop
  | .str x => match τ dst with
    | some ⟨.str, _, _, _⟩ => ret1 d s (some (.str x))
    | _ => .stop
  | _ => .stop

def vals (s : S) : List Operand → Option (List AV)
  | [] => some []
  | x :: l => match val s x, vals s l with
    | some v, some vs => some (v :: vs)
    | _, _ => none

/-- the cells of a struct literal -/
def fill (τ : TyTab) (s : S) (st : TypeId) : List AV → List (Nat × Operand) → Option (List AV)
  | cs, [] => some cs
  | cs, (f, x) :: r =>
    match fldOf τ st f, val s x with
    | some (i, off), some v =>
      if v.cells.length = i.sz ∧ v.cells.all AV.isCell = true then
        match setAt cs off v.cells with
        | some cs' => fill τ s st cs' r
        | none => none
      else none
    | _, _ => none

def evalBuild (τ : TyTab) (d : Option Nat) (s : S) (t : TypeId) (parts : List (Nat × Operand)) : T :=
  match τ t with
  | some ⟨.struct fl _, _, _, z⟩ =>
    if fl.all (fun p => (τ p.1).isSome) then
      match fill τ s t z parts with
      | some cs => ret1 d s (some (.agg cs))
      | none => .stop
    else .stop
  | _ => .stop

def evalLen (d : Option Nat) (s : S) : TK → AV → T
  | .slice _, .sl _ xs => ret1 d s (some (.int .i64 xs.length))
  | .slice _, .nils => ret1 d s (some (.int .i64 0))
  | .str, .str x => ret1 d s (some (.int .i64 x.length))
  | .slice _, .row i st => match aget s.rw i with
    | some r => if st = r.st then ret1 d s (some (.int .i64 r.xs.length)) else .stop
    | none => .stop
  | .slice _, .rowv _ _ _ n => ret1 d s (some (.int .i64 n))
  | _, _ => .stop

def evalMinMax (mx : Bool) (d : Option Nat) (s : S) : List AV → T
  | [.int k a, .int k' b] => if k = k' then ret1 d s (some (.int k (if mx then max a b else min a b))) else .stop
  | _ => .stop

def evalFn (d : Option Nat) (s : S) (f : FuncId) (caps : Option (List AV)) : T :=
  match caps with
  | some vs => if vs.all AV.isCell then ret1 d s (some (.fn f vs)) else .stop
  | none => .stop

def evalOp1 (x : Option AV) (f : AV → T) : T :=
  match x with
  | some v => f v
  | none => .stop

def evalOp2 (x y : Option AV) (f : AV → AV → T) : T :=
  match x, y with
  | some v, some u => f v u
  | _, _ => .stop

noncomputable def evalBuiltin (τ : TyTab) (d : Option Nat) (s : S) (args : List Operand) (tys : List TypeId) : Builtin → T
  | .len => match args, tys with
    | [x], [t] => match τ t with
      | some ti => evalOp1 (val s x) (evalLen d s ti.k)
      | none => .stop
    | _, _ => .stop
  | .min => match vals s args with
    | some vs => evalMinMax false d s vs
    | none => .stop
  | .max => match vals s args with
    | some vs => evalMinMax true d s vs
    | none => .stop
  | _ => .stop

noncomputable def evalCallee (τ : TyTab) (d : Option Nat) (s : S) (args : List Operand) (tys : List TypeId) : Callee → T
  | .builtin b => evalBuiltin τ d s args tys b
  | _ => .stop

noncomputable def evalOp (τ : TyTab) (d : Option Nat) (s : S) : Op → T
  | .move x => ret1 d s (val s x)
  | .assign x => ret1 d s (val s x)
  | .pick c a b => evalOp1 (val s c) (evalPick d s (val s a) (val s b))
  | .alloc t => match τ t with
    | some ti => evalBox d s ti.zero
    | none => .stop
  | .box _ x => evalOp1 (val s x) fun v => evalBox d s v.cells
  | .build t parts => evalBuild τ d s t parts.toList
  | .load t a => evalOp1 (val s a) (evalLoad τ d s t)
  | .store t a x => match d with
    | none => evalOp2 (val s x) (val s a) (evalStore τ s t)
    | some _ => .stop
  | .nilCheck x => evalOp1 (val s x) (evalNilCheck d s)
  | .binOp op t x y _ => evalOp2 (val s x) (val s y) (evalBin τ d s t op)
  | .unOp op _ x => evalUn d s (val s x) op
  | .convert src dst x => if (τ src).isSome then evalOp1 (val s x) (evalConv τ d s dst) else .stop
  | .fieldAddr t x f => evalOp1 (val s x) (evalFieldAddr τ d s t f)
  | .field t x f => evalOp1 (val s x) (evalField τ d s t f)
  | .extract x i => evalOp1 (val s x) (evalExtract d s i)
  | .makeFunc (.func f) first caps => if first.toList.isEmpty then evalFn d s f (vals s caps.toList) else .stop
  | .call c => evalCallee τ d s c.args.toList c.argTypes.toList c.callee
  | _ => .stop

def guardSlot (all : List Oper) (j : Nat) : Option Nat := (nth all j).bind (·.dst)

theorem beq_tt : (true == true) = true := rfl
theorem beq_tf : (true == false) = false := rfl
theorem beq_ft : (false == true) = false := rfl
theorem beq_ff : (false == false) = true := rfl
theorem bne_tt : (true != true) = false := rfl
theorem bne_tf : (true != false) = true := rfl
theorem bne_ft : (false != true) = true := rfl
theorem bne_ff : (false != false) = false := rfl
def wantedOk (all : List Oper) (s : S) (gd : Option (Nat × Bool)) : Option Bool :=
  match gd with
  | none => some true
  | some (j, want) => match (guardSlot all j).bind (aget s.fr) with
    | some (.bool b) => some (b == want)
    | some (.tup []) => some false
    | _ => none

noncomputable def goE (τ : TyTab) (o : Oper) (os : List Oper) (F : S → T) (s : S) : Option Bool → T
  | some true => (evalOp τ o.dst s o.op).bindOr (.leaf (o :: os) s) F
  | some false => F (setD o.dst (.tup []) s)
  | none => .leaf (o :: os) s

theorem goE_t (τ : TyTab) (o : Oper) (os : List Oper) (F : S → T) (s : S) : goE τ o os F s (some true) = (evalOp τ o.dst s o.op).bindOr (.leaf (o :: os) s) F := rfl
theorem goE_f (τ : TyTab) (o : Oper) (os : List Oper) (F : S → T) (s : S) : goE τ o os F s (some false) = F (setD o.dst (.tup []) s) := rfl
theorem goE_n (τ : TyTab) (o : Oper) (os : List Oper) (F : S → T) (s : S) : goE τ o os F s none = .leaf (o :: os) s := rfl

noncomputable def eval (τ : TyTab) (all : List Oper) : List Oper → S → T
  | [], s => .leaf [] s
  | o :: os, s => goE τ o os (eval τ all os) s (wantedOk all s o.guard)

theorem eval_nil (τ : TyTab) (all : List Oper) (s : S) : eval τ all [] s = .leaf [] s := rfl
theorem eval_cons (τ : TyTab) (all : List Oper) (o : Oper) (os : List Oper) (s : S) : eval τ all (o :: os) s = goE τ o os (eval τ all os) s (wantedOk all s o.guard) := rfl

end Go.Ab
