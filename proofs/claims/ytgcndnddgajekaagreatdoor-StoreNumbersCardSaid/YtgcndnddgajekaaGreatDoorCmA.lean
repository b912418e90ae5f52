/- The interpreter of closed runs, part CmA. -/
import Derived.Test.YtgcndnddgajekaaGreatDoorAl
import Derived.WalkKit
import Derived.LoopN
set_option linter.unusedVariables false
set_option linter.unusedSectionVars false
namespace Go.Cm
open Go
noncomputable section
inductive CV where
 | int (k:IntKind) (n:Int)
 | bool (b:Bool)
 | str (l:List Nat)
 | nilp
 | nils
 | se
 | nilm
 | nilf
 | nili
 | ptr (i off:Nat)
 | sl (i off len cap:Nat) (ex:Bool) (sz:Nat)
 | mp (i:Nat)
 | fn (f:FuncId) (caps:List CV)
 | ifc (t:TypeId) (x:CV)
 | agg (cs:List CV)
 | tup (cs:List CV)
instance:Inhabited CV:=⟨.nilp⟩
def CV.cells:CV->List CV
 | .agg cs=>cs
 | x=>[x]
inductive Blk where
 | cells (fam:Nat) (cs:List CV)
 | mp (es:List (CV×CV))
 | it (s:List Nat) (pos:Nat)
inductive Tr (α:Type) where
 | lf
 | nd (v:Option α) (l r:Tr α)
def Tr.get {α:Type}(t:Tr α):Nat->Option α:=Tr.rec (motive:=fun _=>Nat->Option α) (fun _=>none)
 (fun v _ _ ihl ihr n=>Bool.rec (motive:=fun _=>Option α) (Bool.rec (motive:=fun _=>Option α) (ihl (Nat.div n 2)) (ihr (Nat.sub (Nat.div n 2) 1)) (Nat.beq (Nat.mod n 2) 0)) v (Nat.beq n 0)) t
def Tr.gR {α:Type}(v:Option α)(l t:Tr α):Tr α:=Tr.rec (motive:=fun _=>Tr α) (.nd v l .lf) (fun a b c _ _=>.nd v l (.nd a b c)) t
def Tr.gL {α:Type}(v:Option α)(r t:Tr α):Tr α:=Tr.rec (motive:=fun _=>Tr α) (.nd v .lf r) (fun a b c _ _=>.nd v (.nd a b c) r) t
def Tr.mk {α:Type}(x:Option α)(f:Nat):Nat->Tr α:=Nat.rec (motive:=fun _=>Nat->Tr α) (fun _=>.lf)
 (fun _ ih n=>Bool.rec (motive:=fun _=>Tr α) (Bool.rec (motive:=fun _=>Tr α) (Tr.gL none .lf (ih (Nat.div n 2))) (Tr.gR none .lf (ih (Nat.sub (Nat.div n 2) 1))) (Nat.beq (Nat.mod n 2) 0)) (.nd x .lf .lf) (Nat.beq n 0)) f
def Tr.set {α:Type}(t:Tr α)(n:Nat)(x:Option α):Tr α:=Tr.rec (motive:=fun _=>Nat->Tr α) (fun n=>Tr.mk x (Nat.succ n) n)
 (fun v l r ihl ihr n=>Bool.rec (motive:=fun _=>Tr α) (Bool.rec (motive:=fun _=>Tr α) (Tr.gL v r (ihl (Nat.div n 2))) (Tr.gR v l (ihr (Nat.sub (Nat.div n 2) 1))) (Nat.beq (Nat.mod n 2) 0)) (.nd x l r) (Nat.beq n 0)) t n
def fN {β:Type}(n:Nat)(k:Nat->β):β:=match n with
 | 0=>k 0
 | m+1=>k (m+1)
def fB {β:Type}(b:Bool)(k:Bool->β):β:=match b with
 | true=>k true
 | false=>k false
def fI {β:Type}(n:Int)(k:Int->β):β:=match n with
 | .ofNat m=>fN m fun m=>k (.ofNat m)
 | .negSucc m=>fN m fun m=>k (.negSucc m)
def fK {β:Type}(n:IntKind)(k:IntKind->β):β:=match n with
 | .i8=>k .i8
 | .i16=>k .i16
 | .i32=>k .i32
 | .i64=>k .i64
 | .u8=>k .u8
 | .u16=>k .u16
 | .u32=>k .u32
 | .u64=>k .u64
def fL {α β:Type}(f:α->(α->β)->β):List α->(List α->β)->β
 | [],k=>k []
 | x::l,k=>f x fun x=>fL f l fun l=>k (x::l)
def fV {β:Type}:Nat->CV->(CV->β)->β
 | 0,x,k=>k x
 | d+1,x,k=>match x with
  | .int kd n=>fK kd fun kd=>fI n fun n=>k (.int kd n)
  | .bool b=>fB b fun b=>k (.bool b)
  | .str l=>fL fN l fun l=>k (.str l)
  | .nilp=>k .nilp
  | .nils=>k .nils
  | .se=>k .se
  | .nilm=>k .nilm
  | .nilf=>k .nilf
  | .nili=>k .nili
  | .ptr i o=>fN i fun i=>fN o fun o=>k (.ptr i o)
  | .sl i o n c ex sz=>fN i fun i=>fN o fun o=>fN n fun n=>fN c fun c=>fB ex fun ex=>fN sz fun sz=>k (.sl i o n c ex sz)
  | .mp i=>fN i fun i=>k (.mp i)
  | .fn f cs=>fL (fV d) cs fun cs=>k (.fn f cs)
  | .ifc t x=>fV d x fun x=>k (.ifc t x)
  | .agg cs=>fL (fV d) cs fun cs=>k (.agg cs)
  | .tup cs=>fL (fV d) cs fun cs=>k (.tup cs)
def fA {β:Type}(x:CV)(k:CV->β):β:=match x with
 | .int kd n=>fK kd fun kd=>fI n fun n=>k (.int kd n)
 | .bool b=>fB b fun b=>k (.bool b)
 | .ptr i o=>fN i fun i=>fN o fun o=>k (.ptr i o)
 | .sl i o n c ex sz=>fN i fun i=>fN o fun o=>fN n fun n=>fN c fun c=>fB ex fun ex=>fN sz fun sz=>k (.sl i o n c ex sz)
 | x=>k x
def fS {β α:Type}(l:List α)(k:List α->β):β:=fL (fun x k=>k x) l k
def seqL {α β:Type}(f:α->Option β):List α->Option (List β)
 | []=>some []
 | x::l=>match f x with
  | some y=>match seqL f l with
   | some r=>some (y::r)
   | none=>none
  | none=>none
def ofVal:Nat->Value->Option CV
 | 0,_=>none
 | d+1,v=>match v with
  | .int k n=>some (.int k n)
  | .bool b=>some (.bool b)
  | .string s=>some (.str (s.data.toList.map UInt8.toNat))
  | .pointer none=>some .nilp
  | .slice none 0 0=>some .nils
  | .map none=>some .nilm
  | .nilFunc=>some .nilf
  | .nilIface=>some .nili
  | .func (.func f) ⟨[]⟩ ⟨cs⟩=>match seqL (ofVal d) cs with
   | some l=>some (.fn f l)
   | none=>none
  | .iface t x=>match ofVal d x with
   | some x=>some (.ifc t x)
   | none=>none
  | .agg ⟨cs⟩=>match seqL (ofVal d) cs with
   | some l=>some (.agg l)
   | none=>none
  | .tuple ⟨cs⟩=>match seqL (ofVal d) cs with
   | some l=>some (.tup l)
   | none=>none
  | _=>none
def conc:Nat->CV->Option Value
 | 0,_=>none
 | d+1,x=>match x with
  | .int k n=>some (.int k n)
  | .bool b=>some (.bool b)
  | .str l=>some (.string ⟨⟨l.map UInt8.ofNat⟩⟩)
  | .nilp=>some (.pointer none)
  | .nils=>some (.slice none 0 0)
  | .nilm=>some (.map none)
  | .nilf=>some .nilFunc
  | .nili=>some .nilIface
  | .fn f cs=>match seqL (conc d) cs with
   | some l=>some (.func (.func f) #[] ⟨l⟩)
   | none=>none
  | .ifc t x=>match conc d x with
   | some x=>some (.iface t x)
   | none=>none
  | .agg cs=>match seqL (conc d) cs with
   | some l=>some (.agg ⟨l⟩)
   | none=>none
  | .tup cs=>match seqL (conc d) cs with
   | some l=>some (.tuple ⟨l⟩)
   | none=>none
  | _=>none
def strip {α:Type}(P:Program):Sem α->Option α
 | .pure a=>some a
 | .program k=>strip P (k P)
 | .mark _ k=>strip P k
 | _=>none
structure Hp where
 t:Tr Blk
 fm:Tr (List Nat)
 nx:Nat
abbrev Lo:=Tr CV
def val (L:Lo):Operand->Option CV
 | .tmp t=>L.get t
 | .const v=>ofVal 5 v
 | .func f=>some (.fn f [])
 | .global _=>none
def vals (L:Lo):List Operand->Option (List CV):=seqL (val L)
def zgi {α:Type}:List α->Nat->Nat->Option (List α)
 | _,_,0=>some []
 | [],_,_+1=>none
 | x::l,0,n+1=>match zgi l 0 n with
  | some r=>some (x::r)
  | none=>none
 | _::l,o+1,n+1=>zgi l o (n+1)
def zjv {α:Type}:List α->Nat->List α->Option (List α)
 | l,_,[]=>some l
 | [],_,_::_=>none
 | _::l,0,v::vs=>match zjv l 0 vs with
  | some r=>some (v::r)
  | none=>none
 | x::l,o+1,v::vs=>match zjv l o (v::vs) with
  | some r=>some (x::r)
  | none=>none
def nth {α:Type}(l:List α):Nat->Option α:=List.rec (motive:=fun _=>Nat->Option α) (fun _=>none) (fun x _ ih n=>Nat.rec (motive:=fun _=>Option α) (some x) (fun m _=>ih m) n) l
def isCell:CV->Bool
 | .agg _=>false
 | .tup _=>false
 | _=>true
def zat:List CV->Bool
 | []=>true
 | x::l=>match isCell x with
  | true=>zat l
  | false=>false
def cellsOk:CV->Bool
 | .agg cs=>zat cs
 | .tup _=>false
 | _=>true
def szOf (P:Program)(t:TypeId):Option Nat:=match P.info? t with
 | some i=>some i.size
 | none=>none
def zeroOf (P:Program)(t:TypeId):Option (List CV):=match P.info? t with
 | some i=>match i.zero with
  | some z=>match seqL (ofVal 5) z.cells.toList with
   | some l=>match zat l with
    | true=>some l
    | false=>none
   | none=>none
  | none=>none
 | none=>none
def aggT (P:Program)(t:TypeId):Option Bool:=match P.underlying t with
 | some (.struct _)=>some true
 | some (.array _ _)=>some true
 | some _=>some false
 | none=>none
def elemT (P:Program)(t:TypeId):Option TypeId:=match P.underlying t with
 | some (.slice e)=>some e
 | _=>none
def zeroV (P:Program)(t:TypeId):Option CV:=match P.info? t with
 | some i=>match i.zero with
  | some z=>ofVal 6 z
  | none=>none
 | none=>none
def ziu (P:Program)(t:TypeId)(cs:List CV)(off:Nat):Option CV:=match aggT P t with
 | some true=>match szOf P t with
  | some n=>match zgi cs off n with
   | some r=>some (.agg r)
   | none=>none
  | none=>none
 | some false=>nth cs off
 | none=>none
def cellsOf (H:Hp)(i:Nat):Option (Nat×List CV):=match H.t.get i with
 | some (.cells f cs)=>some (f,cs)
 | _=>none
def fieldOf (P:Program)(st:TypeId)(f:Nat):Option (TypeId×Nat):=match P.underlying st with
 | some (.struct fs)=>match nth fs.toList f with
  | some fd=>some (fd.type,fd.offset)
  | none=>none
 | _=>none
def dropL (t:Tr Blk):List Nat->Nat->Tr Blk
 | [],_=>t
 | j::l,i=>match Nat.beq j i with
  | true=>dropL t l i
  | false=>dropL (t.set j none) l i
def wr (H:Hp)(i f:Nat)(cs:List CV):Option Hp:=match H.fm.get f with
 | some m=>match (dropL H.t m i).set i (some (.cells f cs)) with
  | .lf=>none
  | .nd a b c=>match H.fm.set f (some [i]) with
   | .lf=>none
   | .nd x y z=>some ⟨.nd a b c,.nd x y z,H.nx⟩
 | none=>none
def newB (H:Hp)(B:Blk):Option Hp:=fN H.nx fun n=>match H.t.set n (some B) with
 | .lf=>none
 | .nd a b c=>match H.fm.set n (some [n]) with
  | .lf=>none
  | .nd x y z=>fN (n+1) fun m=>some ⟨.nd a b c,.nd x y z,m⟩
abbrev Ans:=Option (CV×Hp)
def rho (L:Lo)(x:Operand):Value:=match val L x with
 | some c=>match conc 5 c with
  | some v=>v
  | none=>.tuple #[]
 | none=>.tuple #[]
def closed (L:Lo):List Operand->Bool
 | []=>true
 | x::l=>match val L x with
  | some c=>match conc 5 c with
   | some _=>closed L l
   | none=>false
  | none=>false
def noSel:Op->Bool
 | .select ..=>false
 | _=>true
def evalPure (P:Program)(L:Lo)(o:Oper):Option CV:=match noSel o.op&&closed L o.op.operands.toList with
 | true=>match strip P (execOp (rho L) o) with
  | some (.value v)=>match ofVal 6 v with
   | some c=>fV 6 c some
   | none=>none
  | _=>none
 | false=>none
def intOf:CV->Option Int
 | .int _ n=>some n
 | _=>none
def natOf (c:CV):Option Nat:=match c with
 | .int _ (.ofNat n)=>some n
 | _=>none
def optNat (L:Lo)(d:Nat):Option Operand->Option Nat
 | none=>some d
 | some x=>match val L x with
  | some c=>natOf c
  | none=>none
def fillP (P:Program)(L:Lo)(fs:List Field):List (Nat×Operand)->List CV->Option (List CV)
 | [],cs=>some cs
 | (i,x)::l,cs=>match nth fs i with
  | some fd=>match szOf P fd.type with
   | some 0=>none
   | some (n+1)=>match val L x with
    | some v=>match Nat.beq v.cells.length (n+1) with
     | true=>match cellsOk v with
      | true=>match zjv cs fd.offset v.cells with
       | some cs'=>fillP P L fs l cs'
       | none=>none
      | false=>none
     | false=>none
    | none=>none
   | none=>none
  | none=>none
def fillE (n:Nat)(L:Lo):List (Nat×Operand)->List CV->Option (List CV)
 | [],cs=>some cs
 | (i,x)::l,cs=>match val L x with
  | some v=>match Nat.beq v.cells.length n with
   | true=>match cellsOk v with
    | true=>match zjv cs (i*n) v.cells with
     | some cs'=>fillE n L l cs'
     | none=>none
    | false=>none
   | false=>none
  | none=>none
def allSz (P:Program):List Field->Bool
 | []=>true
 | f::l=>match szOf P f.type with
  | some _=>allSz P l
  | none=>false
def rep {α:Type}(l:List α):Nat->List α
 | 0=>[]
 | n+1=>l++rep l n
def bytesT (P:Program)(e:TypeId):Option Nat:=match P.info? e with
 | some i=>some i.bytes
 | none=>none
def nilEq (P:Program)(t:TypeId)(a b:CV):Option CV:=match P.underlying t with
 | some (.pointer _)=>match a,b with
  | .ptr _ _,.nilp=>some (.bool false)
  | .nilp,.ptr _ _=>some (.bool false)
  | _,_=>none
 | some (.slice _)=>match a,b with
  | .sl ..,.nils=>some (.bool false)
  | .nils,.sl ..=>some (.bool false)
  | _,_=>none
 | some (.func _ _ _)=>match a,b with
  | .fn ..,.nilf=>some (.bool false)
  | _,_=>none
 | some (.map _ _)=>match a,b with
  | .mp _,.nilm=>some (.bool false)
  | _,_=>none
 | _=>none
def evalAddr_pick (P:Program)(L:Lo)(c:Operand)(a:Operand)(b:Operand):Option CV:=match val L c with
 | some (.bool true)=>val L a
 | some (.bool false)=>val L b
 | _=>none
def zne (P:Program)(L:Lo)(x:Operand):Option CV:=match val L x with
 | some (.ptr i off)=>some (.ptr i off)
 | _=>none
def zlw (P:Program)(L:Lo)(t:TypeId)(x:Operand)(f:Nat):Option CV:=match val L x with
 | some (.ptr i off)=>match fieldOf P t f with
  | some (e,d)=>match szOf P e with
   | some (_+1)=>some (.ptr i (off+d))
   | _=>none
  | none=>none
 | _=>none
def evalAddr_field (P:Program)(L:Lo)(t:TypeId)(x:Operand)(f:Nat):Option CV:=match val L x with
 | some (.agg cs)=>match fieldOf P t f with
  | some (e,d)=>ziu P e cs d
  | none=>none
 | _=>none
def evalAddr_extract (P:Program)(L:Lo)(x:Operand)(i:Nat):Option CV:=match val L x with
 | some (.tup cs)=>nth cs i
 | _=>none
def zlp (P:Program)(L:Lo)(t:TypeId)(x:Operand)(y:Operand):Option CV:=match val L x with
 | some (.sl i off len _ _ sz)=>match val L y with
  | some c=>match natOf c with
   | some n=>match Nat.blt n len with
    | true=>match elemT P t with
     | some e=>match szOf P e with
      | some m=>match Nat.beq m sz with
       | true=>some (.ptr i (off+n*sz))
       | false=>none
      | none=>none
     | none=>none
    | false=>none
   | none=>none
  | none=>none
 | _=>none
def evalAddr_slice (P:Program)(L:Lo)(t:TypeId)(x:Operand)(lo:Option Operand)(hi:Option Operand):Option CV:=match val L x with
 | some (.sl i off len cap ex sz)=>match elemT P t with
  | some e=>match szOf P e with
   | some m=>match Nat.beq m sz with
    | true=>match optNat L len hi with
     | some h=>match optNat L 0 lo with
      | some l=>match Nat.ble h cap with
       | true=>match Nat.ble l h with
        | true=>match Nat.beq l cap with
         | true=>some .se
         | false=>some (.sl i (off+l*sz) (h - l) (cap - l) ex sz)
        | false=>none
       | false=>none
      | none=>none
     | none=>none
    | false=>none
   | none=>none
  | none=>none
 | _=>none
def evalAddr_slice3 (P:Program)(L:Lo)(t:TypeId)(x:Operand)(lo:Option Operand)(hi:Option Operand)(mx:Operand):Option CV:=match val L x with
 | some (.sl i off len cap ex sz)=>match elemT P t with
  | some e=>match szOf P e with
   | some m=>match Nat.beq m sz with
    | true=>match optNat L 0 (some mx) with
     | some k=>match hi with
      | some hi=>match optNat L 0 (some hi) with
       | some h=>match optNat L 0 lo with
        | some l=>match Nat.ble k cap with
         | true=>match Nat.ble h k with
          | true=>match Nat.ble l h with
           | true=>match Nat.beq l k with
            | true=>some .se
            | false=>some (.sl i (off+l*sz) (h - l) (k - l) true sz)
           | false=>none
          | false=>none
         | false=>none
        | none=>none
       | none=>none
      | none=>none
     | none=>none
    | false=>none
   | none=>none
  | none=>none
 | _=>none
def evalAddr_build (P:Program)(L:Lo)(t:TypeId)(ps:Array (Nat×Operand)):Option CV:=match P.underlying t with
 | some (.struct fs)=>match zeroOf P t with
  | some z=>match allSz P fs.toList with
   | true=>match fillP P L fs.toList ps.toList z with
    | some cs=>some (.agg cs)
    | none=>none
   | false=>none
  | none=>none
 | some (.array _ e)=>match zeroOf P t with
  | some z=>match szOf P e with
   | some 0=>none
   | some (n+1)=>match fillE (n+1) L ps.toList z with
    | some cs=>some (.agg cs)
    | none=>none
   | none=>none
  | none=>none
 | _=>none
def zmq (P:Program)(L:Lo)(f:Nat)(cs:Array Operand):Option CV:=match vals L cs.toList with
 | some l=>some (.fn f l)
 | none=>none
def fastI (op:BinOp)(m n:Nat):Option CV:=match op with
 | .add=>match Nat.blt (m+n) 9223372036854775808 with
  | true=>some (.int .i64 (.ofNat (m+n)))
  | false=>none
 | .sub=>match Nat.ble n m with
  | true=>match Nat.blt m 9223372036854775808 with
   | true=>some (.int .i64 (.ofNat (m - n)))
   | false=>none
  | false=>none
 | .eql=>some (.bool (Nat.beq m n))
 | .neq=>some (.bool (!Nat.beq m n))
 | .lss=>some (.bool (Nat.blt m n))
 | .leq=>some (.bool (Nat.ble m n))
 | .gtr=>some (.bool (Nat.blt n m))
 | .geq=>some (.bool (Nat.ble n m))
 | _=>none
def fastB (op:BinOp):CV->CV->Option CV
 | .int .i64 (.ofNat m),.int .i64 (.ofNat n)=>fastI op m n
 | _,_=>none
def nilB (P:Program)(op:BinOp)(t:TypeId)(a b:CV):Option CV:=match op with
 | .eql=>nilEq P t a b
 | .neq=>match nilEq P t a b with
  | some (.bool true)=>some (.bool false)
  | some (.bool false)=>some (.bool true)
  | _=>none
 | _=>none
def evalAddr_binOp (P:Program)(L:Lo)(op:BinOp)(t:TypeId)(x:Operand)(y:Operand):Option CV:=match val L x with
 | some a=>match val L y with
  | some b=>match fastB op a b with
   | some c=>some c
   | none=>nilB P op t a b
  | none=>none
 | none=>none
def evalAddr_call (P:Program)(L:Lo)(c:Call):Option CV:=match c.callee with
 | .builtin .len=>match c.args.toList,c.argTypes.toList with
  | [x],[t]=>match elemT P t with
   | some _=>match val L x with
    | some (.sl _ _ n _ _ _)=>some (.int .i64 (.ofNat n))
    | some .se=>some (.int .i64 0)
    | _=>none
   | none=>none
  | _,_=>none
 | .builtin .cap=>match c.args.toList,c.argTypes.toList with
  | [x],[t]=>match elemT P t with
   | some _=>match val L x with
    | some (.sl _ _ _ n true _)=>some (.int .i64 (.ofNat n))
    | _=>none
   | none=>none
  | _,_=>none
 | _=>none
def evalAddr (P:Program)(L:Lo)(o:Oper):Option CV:=match o.op with
 | .move x=>val L x
 | .assign x=>val L x
 | .pick c a b=>evalAddr_pick P L c a b
 | .nilCheck x=>zne P L x
 | .fieldAddr t x f=>zlw P L t x f
 | .field t x f=>evalAddr_field P L t x f
 | .extract x i=>evalAddr_extract P L x i
 | .indexAddr t x y=>zlp P L t x y
 | .slice t x lo hi none=>evalAddr_slice P L t x lo hi
 | .slice t x lo hi (some mx)=>evalAddr_slice3 P L t x lo hi mx
 | .build t ps=>evalAddr_build P L t ps
 | .makeFunc (.func f) ⟨[]⟩ cs=>zmq P L f cs
 | .makeInterface t x=>none
 | .binOp op t x y _=>evalAddr_binOp P L op t x y
 | .call c=>evalAddr_call P L c
 | _=>none
def sameK (a b:IntKind):Bool:=match a,b with
 | .i8,.i8=>true | .i16,.i16=>true | .i32,.i32=>true | .i64,.i64=>true
 | .u8,.u8=>true | .u16,.u16=>true | .u32,.u32=>true | .u64,.u64=>true
 | _,_=>false
def sameI (a b:Int):Bool:=match a,b with
 | .ofNat m,.ofNat n=>Nat.beq m n
 | .negSucc m,.negSucc n=>Nat.beq m n
 | _,_=>false
def sameL:List Nat->List Nat->Bool
 | [],[]=>true
 | x::l,y::r=>match Nat.beq x y with
  | true=>sameL l r
  | false=>false
 | _,_=>false
def sameV:CV->CV->Option Bool
 | .int k a,.int k' b=>match sameK k k' with
  | true=>some (sameI a b)
  | false=>none
 | .str a,.str b=>some (sameL a b)
 | _,_=>none
def findV (k:CV):List (CV×CV)->Option (Option CV)
 | []=>some none
 | (a,v)::l=>match sameV k a with
  | some true=>some (some v)
  | some false=>findV k l
  | none=>none
def keyT (P:Program)(t:TypeId):CV->Bool
 | .int _ _=>match P.underlying t with
  | some (.int _)=>true
  | _=>false
 | .str _=>match P.underlying t with
  | some .string=>true
  | _=>false
 | _=>false
def zgy:CV->Option Nat
 | .int .u8 (.ofNat n)=>match Nat.blt n 256 with
  | true=>some n
  | false=>none
 | _=>none
def byteT (P:Program)(t:TypeId):Bool:=match P.underlying t with
 | some (.slice e)=>match P.underlying e with
  | some (.int .u8)=>true
  | _=>false
 | _=>false
def evalRead_load (P:Program)(L:Lo)(H:Hp)(t:TypeId)(x:Operand):Option CV:=match val L x with
 | some (.ptr i off)=>match cellsOf H i with
  | some (_,cs)=>ziu P t cs off
  | none=>none
 | _=>none
def evalRead_lookup (P:Program)(L:Lo)(H:Hp)(t:TypeId)(x:Operand)(y:Operand)(ok:Bool):Option CV:=match val L y with
 | some k=>match P.underlying t with
  | some (.map kt e)=>match keyT P kt k with
   | true=>match val L x with
    | some (.mp i)=>match H.t.get i with
     | some (.mp es)=>match findV k es with
      | some (some v)=>match ok with
       | true=>some (.tup [v,.bool true])
       | false=>some v
      | some none=>match zeroV P e with
       | some v=>match ok with
        | true=>some (.tup [v,.bool false])
        | false=>some v
       | none=>none
      | none=>none
     | _=>none
    | _=>none
   | false=>none
  | _=>none
 | none=>none
def evalRead_convert (P:Program)(L:Lo)(H:Hp)(src:TypeId)(dst:TypeId)(x:Operand):Option CV:=match val L x with
 | some (.sl i off len _ _ _)=>match P.underlying dst with
  | some .string=>match byteT P src with
   | true=>match cellsOf H i with
    | some (_,cs)=>match zgi cs off len with
     | some r=>match seqL zgy r with
      | some l=>some (.str l)
      | none=>none
     | none=>none
    | none=>none
   | false=>none
  | _=>none
 | _=>none
def evalRead (P:Program)(L:Lo)(H:Hp)(o:Oper):Option CV:=match o.op with
 | .load t x=>evalRead_load P L H t x
 | .lookup t x y ok=>evalRead_lookup P L H t x y ok
 | .convert src dst x=>evalRead_convert P L H src dst x
 | _=>none
def zmh (P:Program)(L:Lo)(n:Nat)(t:TypeId):Option (CV×Blk):=match zeroOf P t with
 | some z=>some (.ptr n 0,.cells n z)
 | none=>none
def evalMake_box (P:Program)(L:Lo)(n:Nat)(t:TypeId)(x:Operand):Option (CV×Blk):=match val L x with
 | some v=>match cellsOk v with
  | true=>some (.ptr n 0,.cells n v.cells)
  | false=>none
 | none=>none
def zhp (P:Program)(L:Lo)(n:Nat)(t:TypeId)(len:Nat)(ps:Array (Nat×Operand)):Option (CV×Blk):=match elemT P t with
 | some e=>match szOf P e with
  | some 0=>none
  | some (s+1)=>match zeroOf P e with
   | some z=>match Nat.beq z.length (s+1) with
    | true=>match Nat.ble (len*(s+1)) 16777216 with
     | true=>match fillE (s+1) L ps.toList (rep z len) with
      | some cs=>some (.sl n 0 len len true (s+1),.cells n cs)
      | none=>none
     | false=>none
    | false=>none
   | none=>none
  | none=>none
 | none=>none
def zh5 (P:Program)(L:Lo)(n:Nat)(t:TypeId)(x:Operand)(y:Operand):Option (CV×Blk):=match val L x with
 | some cx=>match natOf cx with
  | some l=>match val L y with
   | some cy=>match natOf cy with
    | some c=>match Nat.ble l c with
     | true=>match elemT P t with
      | some e=>match szOf P e with
       | some sz=>match zeroOf P e with
        | some z=>match bytesT P e with
         | some by'=>match Nat.beq z.length sz&&(Nat.ble (by'*c) 281474976710656&&Nat.ble c 9223372036854775807) with
          | true=>some (.sl n 0 l c true sz,.cells n (rep z c))
          | false=>none
         | none=>none
        | none=>none
       | none=>none
      | none=>none
     | false=>none
    | none=>none
   | none=>none
  | none=>none
 | none=>none
def zl9 (P:Program)(L:Lo)(n:Nat)(t:TypeId)(x:Operand):Option (CV×Blk):=match P.underlying t with
 | some .string=>match val L x with
  | some (.str l)=>some (.ptr n 0,.it l 0)
  | _=>none
 | _=>none
def zjw (P:Program)(L:Lo)(n:Nat)(s:TypeId)(t:TypeId)(x:Operand):Option (CV×Blk):=match val L x with
 | some (.str l)=>match P.underlying s with
  | some .string=>match byteT P t with
   | true=>match Nat.ble l.length 9223372036854775807 with
    | true=>some (.sl n 0 l.length l.length false 1,.cells n (l.map fun b=>.int .u8 (.ofNat b)))
    | false=>none
   | false=>none
  | _=>none
 | _=>none
def zom (P:Program)(L:Lo)(n:Nat)(o:Oper):Option (CV×Blk):=match o.op with
 | .alloc t=>zmh P L n t
 | .box t x=>evalMake_box P L n t x
 | .buildSlice t len ps=>zhp P L n t len ps
 | .makeSlice t x y=>zh5 P L n t x y
 | .makeMap t none=>some (.mp n,.mp [])
 | .range t x=>zl9 P L n t x
 | .convert s t x=>zjw P L n s t x
 | _=>none
def src (H:Hp)(sz:Nat):CV->Option (Nat×List CV)
 | .nils=>some (0,[])
 | .se=>some (0,[])
 | .str l=>match Nat.beq sz 1 with
  | true=>some (l.length,l.map fun b=>.int .u8 (.ofNat b))
  | false=>none
 | .sl i off len _ _ _=>match cellsOf H i with
  | some (_,cs)=>match zgi cs off (len*sz) with
   | some r=>some (len,r)
   | none=>none
  | none=>none
 | _=>none
def also (H:Hp)(i f:Nat)(cs:List CV):Option Hp:=fN H.nx fun n=>match H.t.set n (some (.cells f cs)) with
 | .lf=>none
 | .nd a b c=>match H.fm.set f (some [i,n]) with
  | .lf=>none
  | .nd x y z=>fN (n+1) fun m=>some ⟨.nd a b c,.nd x y z,m⟩
def capOk (by' need:Nat):Bool:=Nat.ble (need*by') 140737488355328&&Nat.ble need 9223372036854775807
def evalApp (H:Hp)(by' sz m:Nat)(news:List CV):CV->Ans
 | .nils=>match m with
  | 0=>some (.nils,H)
  | m+1=>match capOk by' (m+1) with
   | true=>fS news fun news=>match newB H (.cells H.nx news) with
    | some H'=>some (.sl H.nx 0 (m+1) (m+1) false sz,H')
    | none=>none
   | false=>none
 | .sl i off len cap ex z=>match Nat.beq z sz with
  | true=>match m with
   | 0=>some (.sl i off len cap ex z,H)
   | m+1=>fN (len+(m+1)) fun need=>match cellsOf H i with
    | some (f,cs)=>match Nat.ble need cap with
     | true=>match zjv cs (off+len*sz) news with
      | some cs'=>fS cs' fun cs'=>match wr H i f cs' with
       | some H'=>some (.sl i off need cap ex z,H')
       | none=>none
      | none=>none
     | false=>match (match capOk by' need with | true=>zgi cs off (len*sz) | false=>none) with
      | some olds=>fS (olds++news) fun all=>match ex with
       | true=>match newB H (.cells H.nx all) with
        | some H'=>some (.sl H.nx 0 need need false sz,H')
        | none=>none
       | false=>match wr H i f (cs.take (off+len*sz)) with
        | some H1=>match also H1 i f all with
         | some H2=>some (.sl H1.nx 0 need need false sz,H2)
         | none=>none
        | none=>none
      | none=>none
    | none=>none
  | false=>none
 | _=>none
def updV (k v:CV):List (CV×CV)->Option (List (CV×CV))
 | []=>some [(k,v)]
 | (a,u)::l=>match sameV k a with
  | some true=>some ((a,v)::l)
  | some false=>match updV k v l with
   | some r=>some ((a,u)::r)
   | none=>none
  | none=>none
def setT (H:Hp)(i:Nat)(B:Blk):Option Hp:=match H.t.set i (some B) with
 | .lf=>none
 | .nd a b c=>some ⟨.nd a b c,H.fm,H.nx⟩
def intT (P:Program)(t:TypeId):Bool:=match P.underlying t with
 | some (.int _)=>true
 | _=>false
def seqT (P:Program)(t:TypeId):Bool:=match P.underlying t with
 | some (.slice _)=>true
 | some .string=>true
 | _=>false
def zmi (P:Program)(L:Lo)(H:Hp)(t:TypeId)(x:Operand)(y:Operand):Ans:=match val L x with
 | some (.ptr i off)=>match cellsOf H i with
  | some (f,cs)=>match val L y with
   | some v=>match szOf P t with
    | some n=>match Nat.beq v.cells.length n&&cellsOk v with
     | true=>match zjv cs off v.cells with
      | some cs'=>fS cs' fun cs'=>match wr H i f cs' with
       | some H'=>some (.tup [],H')
       | none=>none
      | none=>none
     | false=>none
    | none=>none
   | none=>none
  | none=>none
 | _=>none
def zip (P:Program)(L:Lo)(H:Hp)(t:TypeId)(x:Operand)(y:Operand)(z:Operand):Ans:=match val L x with
 | some (.mp i)=>match val L y with
  | some k=>match val L z with
   | some v=>match P.underlying t with
    | some (.map kt _)=>match keyT P kt k with
     | true=>match H.t.get i with
      | some (.mp es)=>match updV k v es with
       | some es'=>match setT H i (.mp es') with
        | some H'=>some (.tup [],H')
        | none=>none
       | none=>none
      | _=>none
     | false=>none
    | _=>none
   | none=>none
  | none=>none
 | _=>none
def zny (P:Program)(L:Lo)(H:Hp)(x:Operand):Ans:=match val L x with
 | some (.ptr i 0)=>match H.t.get i with
  | some (.it s p)=>match Nat.blt p s.length with
   | true=>match nth s p with
    | some b=>match Nat.blt b 128 with
     | true=>fN (p+1) fun q=>match setT H i (.it s q) with
      | some H'=>some (.tup [.bool true,.int .i64 (.ofNat p),.int .i32 (.ofNat b)],H')
      | none=>none
     | false=>none
    | none=>none
   | false=>some (.tup [.bool false],H)
  | _=>none
 | _=>none
def znq (P:Program)(L:Lo)(H:Hp)(c:Call):Ans:=match c.callee with
 | .builtin .append=>match c.args.toList with
  | [x,y]=>match c.argTypes.toList with
   | [t,t2]=>match elemT P t with
    | some e=>match szOf P e with
     | some sz=>match val L x with
      | some a=>match val L y with
       | some b=>match bytesT P e with
        | some by'=>match zeroOf P e with
         | some z=>match Nat.beq z.length sz&&Nat.blt 0 sz with
          | true=>match intT P t2 with
           | true=>match natOf b with
            | some m=>match capOk by' m with
             | true=>evalApp H by' sz m (rep z m) a
             | false=>none
            | none=>none
           | false=>match seqT P t2 with
            | true=>match src H sz b with
             | some (m,news)=>evalApp H by' sz m news a
             | none=>none
            | false=>none
          | false=>none
         | none=>none
        | none=>none
       | none=>none
      | none=>none
     | none=>none
    | none=>none
   | _=>none
  | _=>none
 | .builtin .clear=>match c.args.toList with
  | [x]=>match c.argTypes.toList with
   | [t]=>match elemT P t with
    | some e=>match zeroOf P e with
     | some z=>match val L x with
      | some .nils=>some (.tup [],H)
      | some .se=>some (.tup [],H)
      | some (.sl i off len _ _ _)=>match len with
       | 0=>some (.tup [],H)
       | len+1=>match cellsOf H i with
        | some (f,cs)=>match (match Nat.blt 0 z.length with | true=>zjv cs off (rep z (len+1)) | false=>none) with
         | some cs'=>fS cs' fun cs'=>match wr H i f cs' with
          | some H'=>some (.tup [],H')
          | none=>none
         | none=>none
        | none=>none
      | _=>none
     | none=>none
    | none=>none
   | _=>none
  | _=>none
 | _=>none
def zou (P:Program)(L:Lo)(H:Hp)(o:Oper):Ans:=match o.op with
 | .store t x y=>zmi P L H t x y
 | .mapUpdate t x y z=>zip P L H t x y z
 | .next x true=>zny P L H x
 | .call c=>znq P L H c
 | _=>none
def kindOf (P:Program):Op->Nat
 | .load ..=>1
 | .lookup ..=>1
 | .convert _ t _=>match elemT P t with
  | some _=>2
  | none=>1
 | .alloc _=>2
 | .box ..=>2
 | .buildSlice ..=>2
 | .makeSlice ..=>2
 | .makeMap ..=>2
 | .range ..=>2
 | .store ..=>3
 | .mapUpdate ..=>3
 | .next ..=>3
 | .call c=>match c.callee with
  | .builtin .len=>0
  | .builtin .cap=>0
  | .builtin .min=>0
  | .builtin .max=>0
  | _=>3
 | _=>0
end
end Go.Cm
namespace Go.Cm
open Go
noncomputable section
abbrev zob:=FuncId->List CV->Hp->Ans
def put (L:Lo)(d:Option Nat)(x:CV):Option Lo:=match d with
 | none=>some L
 | some i=>match L.set i (some x) with
  | .lf=>none
  | .nd a b c=>some (.nd a b c)
def wants (ops:List Oper)(L:Lo)(g:Option (Nat×Bool)):Option Bool:=match g with
 | none=>some true
 | some (j,w)=>match nth ops j with
  | some o=>match o.dst with
   | some d=>match L.get d with
    | some (.bool b)=>some (b == w)
    | some _=>some false
    | none=>none
   | none=>none
  | none=>none
def fnOf (L:Lo):Callee->Option (FuncId×List CV)
 | .value x=>match val L x with
  | some (.fn f cs)=>some (f,cs)
  | _=>none
 | _=>none
def bodied (P:Program)(f:FuncId):Option Bool:=match P.funcs[f]? with
 | some fn=>match fn.body with
  | some _=>some true
  | none=>some false
 | none=>none
def zlc (P:Program)(call:zob)(L:Lo)(H:Hp)(o:Oper):Ans:=match o.op with
 | .call c=>match fnOf L c.callee with
  | some (f,cs)=>match bodied P f with
   | some true=>match vals L c.args.toList with
    | some xs=>call f (xs++cs) H
    | none=>none
   | some false=>match evalPure P L o with
    | some x=>some (x,H)
    | none=>none
   | none=>none
  | none=>zou P L H o
 | _=>zou P L H o
def zl2 (P:Program)(L:Lo)(o:Oper):Option CV:=match evalAddr P L o with
 | some x=>fA x some
 | none=>evalPure P L o
def zh0 (P:Program)(call:zob)(L:Lo)(H:Hp)(o:Oper):Ans:=match kindOf P o.op with
 | 0=>match zl2 P L o with
  | some x=>some (x,H)
  | none=>none
 | 1=>match evalRead P L H o with
  | some x=>fA x fun x=>some (x,H)
  | none=>match zl2 P L o with
   | some x=>some (x,H)
   | none=>none
 | 2=>match zom P L H.nx o with
  | some (x,.cells f cs)=>fA x fun x=>fS cs fun cs=>match newB H (.cells f cs) with
   | some H'=>some (x,H')
   | none=>none
  | some (x,B)=>fA x fun x=>match newB H B with
   | some H'=>some (x,H')
   | none=>none
  | none=>none
 | _=>match zlc P call L H o with
  | some (x,H')=>fA x fun x=>some (x,H')
  | none=>none
def evalOps (P:Program)(call:zob)(ops:List Oper):List Oper->Lo->Hp->Option (Lo×Hp)
 | [],L,H=>some (L,H)
 | o::l,L,H=>match wants ops L o.guard with
  | some true=>match zh0 P call L H o with
   | some (x,H')=>match put L o.dst x with
    | some L'=>evalOps P call ops l L' H'
    | none=>none
   | none=>none
  | some false=>match put L o.dst (.tup []) with
   | some L'=>evalOps P call ops l L' H
   | none=>none
  | none=>none
def has (m i:Nat):Bool:=Nat.beq ((m / 2 ^ i) % 2) 1
def zjd (acc:List Nat):List Edge->Nat
 | []=>0
 | e::l=>match Region.binds .any e with
  | true=>match nth acc e.on with
   | some m=>Nat.lor (Nat.lor (2 ^ e.on) m) (zjd acc l)
   | none=>Nat.lor (2 ^ e.on) (zjd acc l)
  | false=>zjd acc l
def zk9:List Oper->List Nat->List Nat
 | [],acc=>acc
 | o::l,acc=>zk9 l (acc++[zjd acc o.after.toList])
def heavies (P:Program):List Oper->Nat->List Nat
 | [],_=>[]
 | o::l,i=>match kindOf P o.op with
  | 3=>i::heavies P l (i+1)
  | _=>heavies P l (i+1)
def pickM (m done:Nat):Nat->Nat->List Nat
 | _,0=>[]
 | i,n+1=>match has m i with
  | true=>match has done i with
   | true=>pickM m done (i+1) n
   | false=>i::pickM m done (i+1) n
  | false=>pickM m done (i+1) n
def maskOf:List Nat->Nat
 | []=>0
 | i::l=>Nat.lor (2 ^ i) (maskOf l)
def orderOf (ms:List Nat)(n:Nat):List Nat->Nat->List Nat
 | [],done=>pickM (2 ^ n - 1) done 0 n
 | h::hs,done=>match nth ms h with
  | some m=>let p:=pickM m done 0 n
   p++h::orderOf ms n hs (Nat.lor (Nat.lor done (maskOf p)) (2 ^ h))
  | none=>[]
def looks (ops:List Oper)(o:Oper):List Nat:=
 (o.op.operands.toList.filterMap fun | .tmp t=>some t | _=>none) ++
 (match o.guard with
   | some (g,_)=>match nth ops g with
    | some q=>q.dst.toList
    | none=>[]
   | none=>[])
def memN (i:Nat):List Nat->Bool
 | []=>false
 | j::l=>match Nat.beq i j with
  | true=>true
  | false=>memN i l
def okPair (ops:List Oper)(ms:List Nat)(i:Nat)(oi:Oper)(j:Nat)(oj:Oper):Bool:=match Nat.beq i j with
 | true=>true
 | false=>match oj.dst with
  | none=>true
  | some d=>match oi.dst with
   | some d'=>match Nat.beq d d' with
    | true=>false
    | false=>!memN d (looks ops oi)||(match nth ms i with | some m=>has m j | none=>false)||(match nth ms j with | some m=>has m i | none=>false)
   | none=>!memN d (looks ops oi)||(match nth ms i with | some m=>has m j | none=>false)||(match nth ms j with | some m=>has m i | none=>false)
def okRow (ops:List Oper)(ms:List Nat)(i:Nat)(oi:Oper):List Oper->Nat->Bool
 | [],_=>true
 | oj::l,j=>match okPair ops ms i oi j oj with
  | true=>okRow ops ms i oi l (j+1)
  | false=>false
def okAll (ops:List Oper)(ms:List Nat):List Oper->Nat->Bool
 | [],_=>true
 | oi::l,i=>match okRow ops ms i oi ops 0 with
  | true=>okAll ops ms l (i+1)
  | false=>false
def linear (P:Program)(ops:List Oper)(ms:List Nat):List Nat->Nat->Bool
 | [],_=>true
 | i::l,done=>match has done i with
  | true=>false
  | false=>match nth ms i with
   | some m=>match nth ops i with
    | some o=>match Nat.beq (Nat.land m done) m with
     | true=>match kindOf P o.op with
      | 3=>match Nat.beq m done with
       | true=>linear P ops ms l (Nat.lor done (2 ^ i))
       | false=>false
      | _=>linear P ops ms l (Nat.lor done (2 ^ i))
     | false=>false
    | none=>false
   | none=>false
def zkm:List Oper->Nat->Bool
 | [],_=>true
 | o::l,i=>match o.after.toList.all fun e=>!Region.binds .any e||Nat.blt e.on i with
  | true=>zkm l (i+1)
  | false=>false
structure Plan where
 ms:List Nat
 ord:List Nat
def full (l:List Nat):Nat->Bool
 | 0=>true
 | n+1=>match memN n l with
  | true=>full l n
  | false=>false
def plan (P:Program)(ops:List Oper):Option Plan:=
 let ms:=zk9 ops []
 let n:=ops.length
 let ord:=orderOf ms n (heavies P ops 0) 0
 match zkm ops 0 with
 | true=>match linear P ops ms ord 0 with
  | true=>match full ord n with
   | true=>match okAll ops ms ops 0 with
    | true=>some ⟨ms,ord⟩
    | false=>none
   | false=>none
  | false=>none
 | false=>none
def eqL {α:Type}(f:α->α->Bool):List α->List α->Bool
 | [],[]=>true
 | x::l,y::r=>match f x y with
  | true=>eqL f l r
  | false=>false
 | _,_=>false
def eqI:Int->Int->Bool
 | .ofNat a,.ofNat b=>Nat.beq a b
 | .negSucc a,.negSucc b=>Nat.beq a b
 | _,_=>false
def eqK (a b:IntKind):Bool:=match a,b with
 | .i8,.i8=>true | .i16,.i16=>true | .i32,.i32=>true | .i64,.i64=>true
 | .u8,.u8=>true | .u16,.u16=>true | .u32,.u32=>true | .u64,.u64=>true
 | _,_=>false
def eqBo (a b:Bool):Bool:=match a,b with
 | true,true=>true
 | false,false=>true
 | _,_=>false
def eqV:Nat->CV->CV->Bool
 | 0,_,_=>false
 | d+1,x,y=>match x,y with
  | .int k a,.int k' b=>eqK k k'&&eqI a b
  | .bool a,.bool b=>eqBo a b
  | .str a,.str b=>eqL Nat.beq a b
  | .nilp,.nilp=>true
  | .nils,.nils=>true
  | .se,.se=>true
  | .nilm,.nilm=>true
  | .nilf,.nilf=>true
  | .nili,.nili=>true
  | .ptr i o,.ptr j p=>Nat.beq i j&&Nat.beq o p
  | .sl i o n c e z,.sl i' o' n' c' e' z'=>Nat.beq i i'&&Nat.beq o o'&&Nat.beq n n'&&Nat.beq c c'&&eqBo e e'&&Nat.beq z z'
  | .mp i,.mp j=>Nat.beq i j
  | .fn f a,.fn g b=>Nat.beq f g&&eqL (eqV d) a b
  | .ifc t a,.ifc u b=>Nat.beq t u&&eqV d a b
  | .agg a,.agg b=>eqL (eqV d) a b
  | .tup a,.tup b=>eqL (eqV d) a b
  | _,_=>false
structure Rc where
 i:Nat
 o:Oper
 k:Nat
 Lr:Lo
 x:CV
 n:Nat
 B:Blk
 H:Hp
 H':Hp
def sub (L:Lo):List Nat->Lo->Lo
 | [],acc=>acc
 | t::l,acc=>match L.get t with
  | some x=>match acc.set t (some x) with
   | .lf=>sub L l .lf
   | .nd a b c=>sub L l (.nd a b c)
  | none=>sub L l acc
def stepOrd (P:Program)(call:zob)(ops:List Oper)(i:Nat)(L:Lo)(H:Hp):Option Rc:=match nth ops i with
 | none=>none
 | some o=>
  let Lr:=sub L (looks ops o) .lf
  match wants ops Lr o.guard with
  | none=>none
  | some false=>some ⟨i,o,4,Lr,.tup [],0,.mp [],H,H⟩
  | some true=>match kindOf P o.op with
   | 0=>match zl2 P Lr o with
    | some x=>fA x fun x=>some ⟨i,o,0,Lr,x,0,.mp [],H,H⟩
    | none=>none
   | 1=>match evalRead P Lr H o with
    | some x=>fA x fun x=>some ⟨i,o,1,Lr,x,0,.mp [],H,H⟩
    | none=>match zl2 P Lr o with
     | some x=>fA x fun x=>some ⟨i,o,0,Lr,x,0,.mp [],H,H⟩
     | none=>none
   | 2=>match zom P Lr H.nx o with
    | some (x,.cells f cs)=>fA x fun x=>fS cs fun cs=>match newB H (.cells f cs) with
     | some H'=>some ⟨i,o,2,Lr,x,H.nx,.cells f cs,H,H'⟩
     | none=>none
    | some (x,B)=>fA x fun x=>match newB H B with
     | some H'=>some ⟨i,o,2,Lr,x,H.nx,B,H,H'⟩
     | none=>none
    | none=>none
   | _=>match zlc P call Lr H o with
    | some (x,H')=>fA x fun x=>some ⟨i,o,3,Lr,x,0,.mp [],H,H'⟩
    | none=>none
def runOrd (P:Program)(call:zob)(ops:List Oper):List Nat->Lo->Hp->Option (List Rc×Lo×Hp)
 | [],L,H=>some ([],L,H)
 | i::l,L,H=>match stepOrd P call ops i L H with
  | some r=>match put L r.o.dst r.x with
   | some L'=>match runOrd P call ops l L' r.H' with
    | some (rs,Lf,Hf)=>some (r::rs,Lf,Hf)
    | none=>none
   | none=>none
  | none=>none
def withAl (m nx:Nat):List Rc->Tr Blk->Tr Blk
 | [],t=>t
 | s::l,t=>match s.k with
  | 2=>match has m s.i with
   | true=>match Nat.ble nx s.n with
    | true=>withAl m nx l (t.set s.n (some s.B))
    | false=>withAl m nx l t
   | false=>withAl m nx l t
  | _=>withAl m nx l t
def readsAs (P:Program)(m:Nat)(recs:List Rc)(r:Rc)(Hb:Hp):Bool:=match evalRead P r.Lr ⟨withAl m Hb.nx recs Hb.t,Hb.fm,Hb.nx⟩ r.o with
 | some y=>eqV 6 y r.x
 | none=>false
def again (P:Program)(m:Nat)(recs:List Rc)(r:Rc):List Rc->Hp->Bool
 | [],_=>false
 | s::l,Hb=>match Nat.beq s.i r.i with
  | true=>readsAs P m recs r Hb
  | false=>match s.k with
   | 3=>match has m s.i with
    | true=>again P m recs r l s.H'
    | false=>match readsAs P m recs r Hb with
     | true=>again P m recs r l s.H'
     | false=>false
   | _=>again P m recs r l Hb
def checkR (P:Program)(ms:List Nat)(recs:List Rc)(H:Hp):List Rc->Bool
 | []=>true
 | r::l=>match r.k with
  | 1=>match nth ms r.i with
   | some m=>match again P m recs r recs H with
    | true=>checkR P ms recs H l
    | false=>false
   | none=>false
  | _=>checkR P ms recs H l
def evalDrawn (P:Program)(call:zob)(ops:List Oper)(L:Lo)(H:Hp):Option (Lo×Hp):=match plan P ops with
 | some pl=>match runOrd P call ops pl.ord L H with
  | some (rs,Lf,Hf)=>match checkR P pl.ms rs H rs with
   | true=>some (Lf,Hf)
   | false=>none
  | none=>none
 | none=>none
inductive Ex where
 | normal
 | exit (id:Nat)
 | ret
def iter (f:Lo->Hp->Option (Ex×Lo×Hp)):Nat->Lo->Hp->Option (Ex×Lo×Hp)
 | 0,_,_=>none
 | n+1,L,H=>match f L H with
  | some (.normal,L',H')=>iter f n L' H'
  | r=>r
def evalC (P:Program)(call:zob)(R:Nat):Code->Lo->Hp->Option (Ex×Lo×Hp)
 | .skip,L,H=>some (.normal,L,H)
 | .region _ ops false,L,H=>match evalOps P call ops.toList ops.toList L H with
  | some (L',H')=>some (.normal,L',H')
  | none=>none
 | .region _ ops true,L,H=>match evalDrawn P call ops.toList L H with
  | some (L',H')=>some (.normal,L',H')
  | none=>none
 | .seq a b,L,H=>match evalC P call R a L H with
  | some (.normal,L',H')=>evalC P call R b L' H'
  | r=>r
 | .cond c x y,L,H=>match val L c with
  | some (.bool true)=>evalC P call R x L H
  | some (.bool false)=>evalC P call R y L H
  | _=>none
 | .block id c,L,H=>match evalC P call R c L H with
  | some (.exit i,L',H')=>match Nat.beq i id with
   | true=>some (.normal,L',H')
   | false=>some (.exit i,L',H')
  | r=>r
 | .loop c,L,H=>iter (evalC P call R c) R L H
 | .exit id,L,H=>some (.exit id,L,H)
 | .ret,L,H=>some (.ret,L,H)
 | _,_,_=>none
def dstLt (n:Nat):List Oper->Bool
 | []=>true
 | o::l=>match o.dst with
  | none=>dstLt n l
  | some d=>match Nat.blt d n with
   | true=>dstLt n l
   | false=>false
def codeOk (n:Nat):Code->Bool
 | .region _ ops _=>dstLt n ops.toList
 | .seq a b=>match codeOk n a with
  | true=>codeOk n b
  | false=>false
 | .cond _ a b=>match codeOk n a with
  | true=>codeOk n b
  | false=>false
 | .block _ c=>codeOk n c
 | .loop c=>codeOk n c
 | _=>true
structure Sp where
 pu:Nat
 me:Nat
 R:Nat
def argL:Nat->List CV->Lo->Option Lo
 | _,[],L=>some L
 | i,x::l,L=>match L.set i (some x) with
  | .lf=>none
  | .nd a b c=>argL (i+1) l (.nd a b c)
def resOne (P:Program)(L:Lo)(H:Hp):ResultVar->Option CV
 | .tmp t=>L.get t
 | .cell a t=>match L.get a with
  | some (.ptr i off)=>match cellsOf H i with
   | some (_,cs)=>ziu P t cs off
   | none=>none
  | _=>none
def isSl:CV->Bool
 | .nils=>true
 | .se=>true
 | .sl ..=>true
 | _=>false
def pairs2:List CV->Option (List CV)
 | []=>some []
 | .int .i64 _::b::l=>match isSl b with
  | true=>match pairs2 l with
   | some r=>some (b::r)
   | none=>none
  | false=>none
 | _=>none
def backOf (H:Hp)(x:CV):CV->Option (List CV)
 | .nils=>some [x]
 | .sl i off len _ _ sz=>match cellsOf H i with
  | some (_,cs)=>match zgi cs off (len*2) with
   | some r=>match pairs2 r with
    | some l=>some (l.reverse++[x])
    | none=>none
   | none=>none
  | none=>none
 | _=>none
def evalF (P:Program)(sp:Sp):Nat->zob
 | 0,_,_,_=>none
 | d+1,f,xs,H=>match Nat.beq f sp.pu with
  | true=>match xs with
   | [x,y]=>match backOf H x y with
    | some l=>match isSl x&&Nat.ble (l.length*24) 140737488351232 with
     | true=>match newB H (.cells H.nx l) with
      | some H'=>evalF P sp d sp.me [.sl H.nx 0 l.length l.length false 1] H'
      | none=>none
     | false=>none
    | none=>none
   | _=>none
  | false=>match P.funcs[f]? with
   | some fn=>match fn.body with
    | some c=>match codeOk fn.ntmps c with
     | true=>match argL 0 xs .lf with
      | some L=>match evalC P (evalF P sp d) sp.R c L H with
       | some (.exit _,_,_)=>none
       | some (_,L',H')=>match seqL (resOne P L' H') fn.results.toList with
        | some [x]=>fA x fun x=>some (x,H')
        | some l=>fA (.tup l) fun x=>some (x,H')
        | none=>none
       | none=>none
      | none=>none
     | false=>none
    | none=>none
   | none=>none
def yes:Ans->Bool
 | some (.bool true,_)=>true
 | _=>false
end
end Go.Cm
