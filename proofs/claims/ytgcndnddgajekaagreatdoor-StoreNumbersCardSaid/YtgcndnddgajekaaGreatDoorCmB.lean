/- The interpreter of closed runs, part CmB. -/
import Derived.Test.YtgcndnddgajekaaGreatDoorCmA
import Derived.Orders
import Derived.WalkKit
import Derived.Laws.IdiomStrings
import Derived.Laws.RangeString
import Derived.Laws.MakeOwn
set_option linter.unusedVariables false
set_option linter.unusedSimpArgs false
set_option linter.unusedSectionVars false
set_option linter.unnecessarySimpa false
namespace Go.Cm
open Go
def All2 {α β:Type}(R:α->β->Prop)(l:List α)(r:List β):Prop:=l.length=r.length/\∀ (j:Nat) (a:α) (b:β),l[j]?=some a->r[j]?=some b->R a b
theorem All2.nil {α β:Type}{R:α->β->Prop}:All2 R [] []:=⟨rfl,fun j a b h=>by simp at h⟩
theorem All2.cons {α β:Type}{R:α->β->Prop}{a:α}{b:β}{l:List α}{r:List β}(h:R a b)(t:All2 R l r):All2 R (a::l) (b::r):=
 ⟨by simp [t.1],fun j x y hx hy=>by
  cases j with
  | zero=>simp at hx hy; subst hx; subst hy; exact h
  | succ j=>exact t.2 j x y (by simpa using hx) (by simpa using hy)⟩
theorem All2.inv {α β:Type}{R:α->β->Prop}{b:β}{l:List α}{r:List β}(h:All2 R l (b::r)):∃ a l',l=a::l'/\R a b/\All2 R l' r:=by
 obtain ⟨h1,h2⟩:=h
 match l,h1 with
 | a::l',h1=>exact ⟨a,l',rfl,h2 0 a b rfl rfl,by simpa using h1,fun j x y hx hy=>h2 (j+1) x y (by simpa using hx) (by simpa using hy)⟩
theorem All2.inv0 {α β:Type}{R:α->β->Prop}{l:List α}(h:All2 R l ([]:List β)):l=[]:=xai h.1
theorem All2.imp {α β:Type}{R R':α->β->Prop}{l:List α}{r:List β}(h:All2 R l r)(hi:∀ a b,R a b->R' a b):All2 R' l r:=⟨h.1,fun j a b ha hb=>hi a b (h.2 j a b ha hb)⟩
theorem All2.get {α β:Type}{R:α->β->Prop}{l:List α}{r:List β}(h:All2 R l r){j:Nat}{b:β}(hb:r[j]?=some b):∃ a,l[j]?=some a/\R a b:=by
 have hj:=(xac.1 hb).1;rw [<- h.1] at hj;exact ⟨l[j],xag hj,h.2 j _ _ (xag hj) hb⟩
theorem All2.append {α β:Type}{R:α->β->Prop}{l l':List α}{r r':List β}(h:All2 R l r)(h':All2 R l' r'):All2 R (l++l') (r++r'):=by
 refine ⟨by simp [h.1,h'.1],fun j a b ha hb=>?_⟩;by_cases hj:j<l.length
 ·rw [xak hj] at ha;rw [xak (by rw [<- h.1]; exact hj)] at hb;exact h.2 j a b ha hb
 ·rw [xas (by omega)] at ha;rw [xas (by rw [<- h.1]; omega),<- h.1] at hb;exact h'.2 _ a b ha hb
theorem All2.take {α β:Type}{R:α->β->Prop}{l:List α}{r:List β}(h:All2 R l r)(n:Nat):All2 R (l.take n) (r.take n):=by
 refine ⟨by simp [h.1],fun j a b ha hb=>?_⟩;rw [xau] at ha hb;split at ha
 ·rename_i hj; rw [xad hj] at hb; exact h.2 j a b ha hb
 ·cases ha
theorem All2.drop {α β:Type}{R:α->β->Prop}{l:List α}{r:List β}(h:All2 R l r)(n:Nat):All2 R (l.drop n) (r.drop n):=
 ⟨by simp [h.1],fun j a b ha hb=>h.2 (n+j) a b (by simpa using ha) (by simpa using hb)⟩
abbrev Env:=Nat->Option (Nat×Nat×Nat)
inductive RC (E:Env):Value->CV->Prop
 | int (k:IntKind) (n:Int):RC E (.int k n) (.int k n)
 | bool (b:Bool):RC E (.bool b) (.bool b)
 | str (l:List Nat) (h:∀ b∈l,b<256):RC E (.string ⟨(l.map UInt8.ofNat).toArray⟩) (.str l)
 | nilp:RC E (.pointer none) .nilp
 | nils:RC E (.slice none 0 0) .nils
 | se (a:Option Addr) (c:Nat) (h:c<=maxLen):RC E (.slice a 0 c) .se
 | nilm:RC E (.map none) .nilm
 | nilf:RC E .nilFunc .nilf
 | nili:RC E .nilIface .nili
 | ptr (i off b β n:Nat) (h:E i=some (b,β,n)):RC E (.pointer (some ⟨b,β+off,none⟩)) (.ptr i off)
 | sl (i off len cap:Nat) (ex:Bool) (sz c b β n:Nat) (h:E i=some (b,β,n)) (hc:cap<=c) (hx:ex=true->c=cap) (hn:β+off+c*sz<=n) (hm:c<=maxLen) (hl:len<=cap) :
   RC E (.slice (some ⟨b,β+off,none⟩) len c) (.sl i off len cap ex sz)
 | mp (i b β n:Nat) (h:E i=some (b,β,n)):RC E (.map (some b)) (.mp i)
 | fn (f:FuncId) (vs:List Value) (cs:List CV) (hl:vs.length=cs.length) (h:∀ (j:Nat) (v:Value) (c:CV),vs[j]?=some v->cs[j]?=some c->RC E v c):RC E (.func (.func f) #[] vs.toArray) (.fn f cs)
 | ifc (t:TypeId) (v:Value) (x:CV) (h:RC E v x):RC E (.iface t v) (.ifc t x)
 | agg (vs:List Value) (cs:List CV) (hl:vs.length=cs.length) (h:∀ (j:Nat) (v:Value) (c:CV),vs[j]?=some v->cs[j]?=some c->RC E v c):RC E (.agg vs.toArray) (.agg cs)
 | tup (vs:List Value) (cs:List CV) (hl:vs.length=cs.length) (h:∀ (j:Nat) (v:Value) (c:CV),vs[j]?=some v->cs[j]?=some c->RC E v c):RC E (.tuple vs.toArray) (.tup cs)
def Env.le (E E':Env):Prop:=∀ i x,E i=some x->E' i=some x
theorem Env.le_refl (E:Env):E.le E:=fun _ _ h=>h
theorem Env.le_trans {A B C:Env}(h:A.le B)(h':B.le C):A.le C:=fun i x hx=>h' i x (h i x hx)
theorem RC.mono {E E':Env}(hE:E.le E'){v:Value}{x:CV}(h:RC E v x):RC E' v x:=by
 induction h with
 | int k n=>exact .int k n
 | bool b=>exact .bool b
 | str l h=>exact .str l h
 | nilp=>exact .nilp
 | nils=>exact .nils
 | se a c h=>exact .se a c h
 | nilm=>exact .nilm
 | nilf=>exact .nilf
 | nili=>exact .nili
 | ptr i off b β n h=>exact .ptr i off b β n (hE _ _ h)
 | sl i off len cap ex sz c b β n h hc hx hn hm hl=>exact .sl i off len cap ex sz c b β n (hE _ _ h) hc hx hn hm hl
 | mp i b β n h=>exact .mp i b β n (hE _ _ h)
 | fn f vs cs hl h ih=>exact .fn f vs cs hl ih
 | ifc t v x h ih=>exact .ifc t v x ih
 | agg vs cs hl h ih=>exact .agg vs cs hl ih
 | tup vs cs hl h ih=>exact .tup vs cs hl ih
abbrev RCs (E:Env):=All2 (RC E)
theorem RCs.mono {E E':Env}(hE:E.le E'){vs:List Value}{cs:List CV}(h:RCs E vs cs):RCs E' vs cs:=h.imp fun _ _ h=>h.mono hE
theorem RC.cells {E:Env}{v:Value}{x:CV}(h:RC E v x)(hc:isCell x=true\/∃ cs,x = .agg cs):RCs E v.cells.toList x.cells:=by
 cases h
 case agg vs cs hl h=>exact ⟨hl,h⟩
 case tup vs cs hl h=>rcases hc with hc | ⟨_,hc⟩ <;> cases hc
 all_goals exact .cons (by first | exact .int _ _ | exact .bool _ | (exact .str _ ‹_›) | exact .nilp | exact .nils | exact .se _ _ ‹_› | exact .nilm | exact .nilf | exact .nili | exact .ptr _ _ _ _ _ ‹_› | exact .sl _ _ _ _ _ _ _ _ _ _ ‹_› ‹_› ‹_› ‹_› ‹_› ‹_› | exact .mp _ _ _ _ ‹_› | exact .fn _ _ _ ‹_› ‹_› | exact .ifc _ _ _ ‹_›) .nil
theorem RC.one {E:Env}{v:Value}{x:CV}(h:RC E v x)(hc:isCell x=true):v.oneCell'=true:=by
 cases h <;> first | rfl | cases hc
theorem fN_eq {β:Type}(n:Nat)(k:Nat->β):fN n k=k n:=by cases n <;> rfl
theorem fB_eq {β:Type}(b:Bool)(k:Bool->β):fB b k=k b:=by cases b <;> rfl
theorem fI_eq {β:Type}(n:Int)(k:Int->β):fI n k=k n:=by cases n <;> simp only [fI,fN_eq]
theorem fK_eq {β:Type}(n:IntKind)(k:IntKind->β):fK n k=k n:=by cases n <;> rfl
theorem fL_eq {α β:Type}{f:α->(α->β)->β}(hf:∀ x k,f x k=k x):∀ (l:List α) (k:List α->β),fL f l k=k l
 | [],_=>rfl
 | x::l,k=>by simp only [fL,hf,fL_eq hf l]
theorem fV_eq {β:Type}:∀ (d:Nat) (x:CV) (k:CV->β),fV d x k=k x
 | 0,_,_=>rfl
 | d+1,x,k=>by
  have ih:=@fV_eq β d;cases x <;> simp only [fV,fK_eq,fI_eq,fB_eq,fN_eq,fL_eq ih,fL_eq fN_eq,ih]
theorem zn9 {β:Type}(x:CV)(k:CV->β):fA x k=k x:=by cases x <;> simp only [fA,fK_eq,fI_eq,fB_eq,fN_eq]
theorem fS_eq {β α:Type}(l:List α)(k:List α->β):fS l k=k l:=fL_eq (fun _ _=>rfl) l k
theorem fLV_eq {β:Type}(d:Nat)(l:List CV)(k:List CV->β):fL (fV d) l k=k l:=fL_eq (fV_eq d) l k
theorem seqL_eq {α β:Type}{f:α->Option β}:∀ {l:List α} {r:List β},seqL f l=some r->l.length=r.length/\∀ (j:Nat) (x:α) (y:β),l[j]?=some x->r[j]?=some y->f x=some y
 | [],r,h=>by cases h; exact ⟨rfl,fun j x y hx=>by simp at hx⟩
 | a::l,r,h=>by
  simp only [seqL] at h;split at h
  ·rename_i y hy;split at h
   ·rename_i r' hr;cases h;obtain ⟨h1,h2⟩:=seqL_eq hr;refine ⟨by simp [h1],fun j x z hx hz=>?_⟩;cases j with
    | zero=>simp at hx hz; subst hx; subst hz; exact hy
    | succ j=>exact h2 j x z (by simpa using hx) (by simpa using hz)
   ·cases h
  ·cases h
theorem zjs {E:Env}:∀ {d:Nat} {v:Value} {x:CV},ofVal d v=some x->RC E v x
 | 0,_,_,h=>by cases h
 | d+1,v,x,h=>by
  unfold ofVal at h;split at h
  case h_3 s=>
   cases h;have e:(s:ByteArray)=⟨((s.data.toList.map UInt8.toNat).map UInt8.ofNat).toArray⟩:=by
    apply ByteArray.ext;simp [xdd,Function.comp_def]
   have:=RC.str (E:=E) (s.data.toList.map UInt8.toNat) (fun b hb=>by
    obtain ⟨u,_,rfl⟩:=xb1.1 hb;exact UInt8.toNat_lt u)
   rw [<- e] at this;exact this
  all_goals first
   | (cases h; done)
   | (cases h; constructor; done)
   | skip
  all_goals
   split at h
   ·rename_i l hl;cases h
    first
     | (obtain ⟨h1,h2⟩:=seqL_eq hl
        first
         | exact .fn _ _ _ h1 fun j v c hv hc=>zjs (h2 j v c hv hc)
         | exact .agg _ _ h1 fun j v c hv hc=>zjs (h2 j v c hv hc)
         | exact .tup _ _ h1 fun j v c hv hc=>zjs (h2 j v c hv hc))
     | exact .ifc _ _ _ (zjs hl)
   ·cases h
theorem list_eq_of {α β:Type}{R:α->β->Prop}{f:β->Option α}{vs ws:List α}{cs:List β}(h:All2 R vs cs)(hs:seqL f cs=some ws)(hf:∀ v c w,R v c->f c=some w->v=w):vs=ws:=by
 obtain ⟨h1,h2⟩:=seqL_eq hs;apply xbz;intro j;cases hj:cs[j]? with
 | none=>
  rw [List.getElem?_eq_none_iff] at hj;rw [xcv (by rw [h.1]; exact hj),xcv (by rw [<- h1]; exact hj)]
 | some c=>
  obtain ⟨v,hv,hr⟩:=h.get hj;have hlt:=(xac.1 hj).1;have hw:ws[j]?=some ws[j]:=xag (by rw [<- h1]; exact hlt);rw [hv,hw,hf v c _ hr (h2 j c _ hj hw)]
theorem conc_eq {E:Env}:∀ {d:Nat} {v w:Value} {x:CV},RC E v x->conc d x=some w->v=w
 | 0,_,_,_,_,h=>by cases h
 | d+1,v,w,x,hr,h=>by
  cases hr <;> simp only [conc] at h
  all_goals first
   | (cases h; done)
   | (cases h; rfl)
   | skip
  all_goals
   split at h
   ·rename_i l hl;cases h
    first
     | (have:=list_eq_of ⟨‹_›,‹_›⟩ hl fun v c w h1 h2=>conc_eq (d:=d) h1 h2
        subst this; rfl)
     | (have:=conc_eq ‹RC E _ _› hl
        subst this; rfl)
   ·cases h
theorem strip_run {α:Type}{P:Program}:∀ {s:Sem α} {a:α},strip P s=some a->∀ w,s.run P w = .ok a w
 | .pure _,_,h,w=>by cases h; rfl
 | .program k,_,h,w=>by
  show (k P).run P w=_;exact strip_run (by simpa [strip] using h) w
 | .mark _ k,_,h,w=>by
  show k.run P w=_;exact strip_run (by simpa [strip] using h) w
 | .load ..,_,h,_=>by cases h
 | .store ..,_,h,_=>by cases h
 | .new ..,_,h,_=>by cases h
 | .shape ..,_,h,_=>by cases h
 | .freeze ..,_,h,_=>by cases h
 | .frozen ..,_,h,_=>by cases h
 | .getObj ..,_,h,_=>by cases h
 | .setObj ..,_,h,_=>by cases h
 | .choose ..,_,h,_=>by cases h
 | .sys ..,_,h,_=>by cases h
 | .halt ..,_,h,_=>by cases h
theorem Tr.get_lf {α:Type}(n:Nat):(Tr.lf:Tr α).get n=none:=rfl
theorem pick_eq {β:Type}(n:Nat)(a b c:β):Bool.rec (motive:=fun _=>β) (Bool.rec (motive:=fun _=>β) a b (Nat.beq (Nat.mod n 2) 0)) c (Nat.beq n 0)=if n=0 then c else if n % 2=0 then b else a:=by
 by_cases h:n=0
 ·subst h; rfl
 ·rw [xab h];have h1:Nat.beq n 0=false:=by cases n with | zero=>exact absurd rfl h | succ n=>rfl
  rw [h1];by_cases h2:n % 2=0
  ·rw [xad h2];have h3:Nat.beq (Nat.mod n 2) 0=true:=by have:Nat.mod n 2=0:=h2; rw [this]; rfl
   rw [h3]
  ·rw [xab h2];have h3:Nat.beq (Nat.mod n 2) 0=false:=by
    have:Nat.mod n 2=1:=by show n % 2=1; omega
    rw [this]; rfl
   rw [h3]
theorem Tr.get_nd {α:Type}(v:Option α)(l r:Tr α)(n:Nat):(Tr.nd v l r).get n=if n=0 then v else if n % 2=0 then r.get (n / 2 - 1) else l.get (n / 2):=pick_eq n _ _ _
theorem Tr.gR_eq {α:Type}(v:Option α)(l t:Tr α):Tr.gR v l t = .nd v l t:=by cases t <;> rfl
theorem Tr.gL_eq {α:Type}(v:Option α)(r t:Tr α):Tr.gL v r t = .nd v t r:=by cases t <;> rfl
theorem Tr.mk_succ {α:Type}(x:Option α)(f n:Nat):Tr.mk x (f+1) n=if n=0 then .nd x .lf .lf else if n % 2=0 then .nd none .lf (Tr.mk x f (n / 2 - 1)) else .nd none (Tr.mk x f (n / 2)) .lf:=by
 refine (pick_eq n _ _ _).trans ?_;rw [Tr.gR_eq,Tr.gL_eq]; rfl
theorem Tr.get_mk {α:Type}(x:Option α):∀ (f n m:Nat),n<f->(Tr.mk x f n).get m=if m=n then x else none
 | 0,n,m,h=>by omega
 | f+1,n,m,h=>by
  rw [Tr.mk_succ];by_cases h0:n=0
  ·subst h0; rw [xad rfl,Tr.get_nd]; simp only [Tr.get_lf]; split <;> simp
  ·rw [xab h0];by_cases h2:n % 2=0
   ·rw [xad h2,Tr.get_nd,Tr.get_mk x f _ _ (by omega),Tr.get_lf];by_cases e:m=n
    ·subst e; rw [xab h0,xad h2,xad rfl,xad rfl]
    ·rw [xab e];by_cases e0:m=0
     ·rw [xad e0]
     ·rw [xab e0];by_cases e2:m % 2=0
      ·rw [xad e2,xab (by omega)]
      ·rw [xab e2]
   ·rw [xab h2,Tr.get_nd,Tr.get_mk x f _ _ (by omega),Tr.get_lf];by_cases e:m=n
    ·subst e; rw [xab h0,xab h2,xad rfl,xad rfl]
    ·rw [xab e];by_cases e0:m=0
     ·rw [xad e0]
     ·rw [xab e0];by_cases e2:m % 2=0
      ·rw [xad e2]
      ·rw [xab e2,xab (by omega)]
theorem Tr.set_nd {α:Type}(v:Option α)(l r:Tr α)(n:Nat)(x:Option α):(Tr.nd v l r).set n x=if n=0 then .nd x l r else if n % 2=0 then .nd v l (r.set (n / 2 - 1) x) else .nd v (l.set (n / 2) x) r:=by
 refine (pick_eq n _ _ _).trans ?_;rw [Tr.gR_eq,Tr.gL_eq]; rfl
theorem Tr.get_set {α:Type}(t:Tr α)(n m:Nat)(x:Option α):(t.set n x).get m=if m=n then x else t.get m:=by
 induction t generalizing n m with
 | lf=>exact Tr.get_mk x _ n m (xc6 n)
 | nd v l r ihl ihr=>
  rw [Tr.set_nd];by_cases h0:n=0
  ·subst h0; rw [xad rfl,Tr.get_nd,Tr.get_nd];by_cases e:m=0
   ·rw [xad e,xad e]
   ·rw [xab e,xab e,xab e]
  ·rw [xab h0];by_cases h2:n % 2=0
   ·rw [xad h2,Tr.get_nd,Tr.get_nd,ihr];by_cases e:m=n
    ·subst e; rw [xab h0,xad h2,xad rfl,xad rfl]
    ·rw [xab e];by_cases e2:m % 2=0
     ·by_cases e0:m=0
      ·rw [xad e0,xad e0]
      ·rw [xab e0,xab e0,xad e2,xad e2,xab (by omega)]
     ·rw [xab e2,xab e2]
   ·rw [xab h2,Tr.get_nd,Tr.get_nd,ihl];by_cases e:m=n
    ·subst e; rw [xab h0,xab h2,xad rfl,xad rfl]
    ·rw [xab e];by_cases e2:m % 2=0
     ·rw [xad e2,xad e2]
     ·by_cases e0:m=0
      ·rw [xad e0,xad e0]
      ·rw [xab e0,xab e0,xab e2,xab e2,xab (by omega)]
theorem zge {α:Type}:∀ (l:List α) (o n:Nat) (r:List α),zgi l o n=some r->r=(l.drop o).take n/\(0<n->o+n<=l.length)
 | l,o,0,r,h=>by cases l <;> cases o <;> (cases h; simp)
 | [],o,n+1,r,h=>by cases h
 | x::l,0,n+1,r,h=>by
  simp only [zgi] at h;split at h
  ·rename_i r' hr;cases h;obtain ⟨h1,h2⟩:=zge l 0 n r' hr;refine ⟨by simp [h1],fun _=>?_⟩;simp only [xal];by_cases hn:0<n
   ·have:=h2 hn; omega
   ·omega
  ·cases h
 | _::l,o+1,n+1,r,h=>by
  simp only [zgi] at h;obtain ⟨h1,h2⟩:=zge l o (n+1) r h;exact ⟨by simpa using h1,fun hn=>by have:=h2 hn; simp; omega⟩
theorem zfh {α:Type}:∀ (l:List α) (o:Nat) (vs r:List α),zjv l o vs=some r->r=l.take o++vs++l.drop (o+vs.length)/\(vs≠[]->o+vs.length<=l.length)
 | l,o,[],r,h=>by cases l <;> cases o <;> (cases h; simp)
 | [],o,v::vs,r,h=>by cases h
 | x::l,0,v::vs,r,h=>by
  simp only [zjv] at h;split at h
  ·rename_i r' hr;cases h;obtain ⟨h1,h2⟩:=zfh l 0 vs r' hr;refine ⟨by simp [h1],fun _=>?_⟩;simp only [xal];by_cases hn:vs=[]
   ·subst hn; simp
   ·have:=h2 hn; omega
  ·cases h
 | x::l,o+1,v::vs,r,h=>by
  simp only [zjv] at h;split at h
  ·rename_i r' hr;cases h;obtain ⟨h1,h2⟩:=zfh l o (v::vs) r' hr;refine ⟨?_,fun hn=>?_⟩
   ·rw [h1];have:o+1+(v::vs).length=o+(v::vs).length+1:=by omega
    rw [this]; simp
   ·have:=h2 (by simp); simp at this ⊢; omega
  ·cases h
theorem zf9 {α:Type}:∀ (l:List α) (n:Nat),nth l n=l[n]?
 | [],n=>by simp; rfl
 | x::l,0=>rfl
 | x::l,n+1=>by rw [xbe,<- zf9 l n]; rfl
end Go.Cm
namespace Go.Cm
open Go
def Blk.isC:Blk->Bool
 | .cells _ _=>true
 | _=>false
def Blk.fam (i:Nat):Blk->Nat
 | .cells f _=>f
 | _=>i
def Thaw (fr:Nat×Nat)(n:Nat):Prop:=∀ o,o<n->(fr.1<=o/\o<fr.2)->False
def CellsOk (E:Env)(vs:Array Value)(β:Nat)(cs:List CV):Prop:=∀ (j:Nat) (c:CV),cs[j]?=some c->∃ v,vs[β+j]?=some v/\RC E v c/\isCell c=true
def BOk (E:Env)(w:World)(i:Nat):Blk->Prop
 | .cells _ cs=>∃ b β n ty fr vs,E i=some (b,β,n)/\w.heap[b]?=some (.cells vs ty fr)/\Thaw fr n/\vs.size=n/\β+cs.length<=n/\CellsOk E vs β cs
 | .mp es=>∃ b β n ents clock,E i=some (b,β,n)/\w.heap[b]?=some (.map ents clock)/\All2 (fun (e:MapEntry) (p:CV×CV)=>RC E e.key p.1/\RC E e.val p.2) ents.toList es
 | .it s p=>∃ b n,E i=some (b,0,n)/\w.heap[b]?=some (.stringIter ⟨(s.map UInt8.ofNat).toArray⟩ p)/\∀ b∈s,b<256
def Apart (i:Nat)(B:Blk)(j:Nat)(C:Blk):Prop:=match B,C with
 | .cells f _,.cells g _=>f≠g
 | _,_=>i≠j
abbrev Hf:=Nat->Option Blk
structure HOk (E:Env)(h:Hf)(w:World):Prop where
 blk:∀ i B,h i=some B->BOk E w i B
 dis:∀ i B j C b β n β' n',h i=some B->h j=some C->Apart i B j C->E i=some (b,β,n)->E j=some (b,β',n')->False
def Own (E:Env)(h:Hf)(b:Nat):Prop:=∃ i B β n,h i=some B/\E i=some (b,β,n)
structure Stp (E:Env)(h:Hf)(w:World)(E':Env)(h':Hf)(w':World):Prop where
 le:E.le E'
 size:w.heap.size<=w'.heap.size
 keep:∀ b,b<w.heap.size->¬ Own E h b->w'.heap[b]?=w.heap[b]?
 own:∀ b,Own E' h' b->Own E h b\/w.heap.size<=b
 os:w'.os=w.os
 tape:w'.tape=w.tape
 output:w'.output=w.output
theorem Stp.refl (E:Env)(h:Hf)(w:World):Stp E h w E h w:=⟨E.le_refl,xaf _,fun _ _ _=>rfl,fun _ h=>.inl h,rfl,rfl,rfl⟩
theorem Stp.trans {E E1 E2:Env}{h h1 h2:Hf}{w w1 w2:World}(a:Stp E h w E1 h1 w1)(b:Stp E1 h1 w1 E2 h2 w2):Stp E h w E2 h2 w2:=by
 refine ⟨Env.le_trans a.le b.le,xct a.size b.size,fun k hk hn=>?_,fun k hk=>?_,b.os.trans a.os,b.tape.trans a.tape,b.output.trans a.output⟩
 ·have k1:=a.keep k hk hn;have k2:¬ Own E1 h1 k:=fun ho=>by
   rcases a.own k ho with h | h
   ·exact hn h
   ·omega
  exact (b.keep k (xbi hk a.size) k2).trans k1
 ·rcases b.own k hk with h | h
  ·exact a.own k h
  ·exact .inr (xct a.size h)
theorem zky {w:World}{b:Nat}{o:Obj}(h:w.heap[b]?=some o):b<w.heap.size:=(xcb.1 h).1
theorem BOk.env {E:Env}{w:World}{i:Nat}{B:Blk}(h:BOk E w i B):∃ b β n,E i=some (b,β,n)/\b<w.heap.size:=by
 cases B with
 | cells f cs=>obtain ⟨b,β,n,ty,fr,vs,h1,h2,_⟩:=h; exact ⟨b,β,n,h1,zky h2⟩
 | mp es=>obtain ⟨b,β,n,ents,clock,h1,h2,_⟩:=h; exact ⟨b,β,n,h1,zky h2⟩
 | it s p=>obtain ⟨b,n,h1,h2,_⟩:=h; exact ⟨b,0,n,h1,zky h2⟩
theorem HOk.lt {E:Env}{h:Hf}{w:World}(hs:HOk E h w){b:Nat}(ho:Own E h b):b<w.heap.size:=by
 obtain ⟨i,B,β,n,h1,h2⟩:=ho;obtain ⟨b',β',n',h3,h4⟩:=(hs.blk i B h1).env;rw [h2] at h3; cases h3; exact h4
theorem CellsOk.mono {E E':Env}(hE:E.le E'){vs:Array Value}{β:Nat}{cs:List CV}(h:CellsOk E vs β cs):CellsOk E' vs β cs:=fun j c hc=>let ⟨v,h1,h2,h3⟩:=h j c hc; ⟨v,h1,h2.mono hE,h3⟩
theorem BOk.mono {E E':Env}(hE:E.le E'){w w':World}{i:Nat}{B:Blk}(h:BOk E w i B)(hw:∀ b β n,E i=some (b,β,n)->w'.heap[b]?=w.heap[b]?):BOk E' w' i B:=by
 cases B with
 | cells f cs=>
  obtain ⟨b,β,n,ty,fr,vs,h1,h2,h3,h4,h5,h6⟩:=h;exact ⟨b,β,n,ty,fr,vs,hE _ _ h1,by rw [hw b β n h1]; exact h2,h3,h4,h5,h6.mono hE⟩
 | mp es=>
  obtain ⟨b,β,n,ents,clock,h1,h2,h3⟩:=h;exact ⟨b,β,n,ents,clock,hE _ _ h1,by rw [hw b β n h1]; exact h2,h3.imp fun _ _ h=>⟨h.1.mono hE,h.2.mono hE⟩⟩
 | it s p=>
  obtain ⟨b,n,h1,h2,h3⟩:=h;exact ⟨b,n,hE _ _ h1,by rw [hw b 0 n h1]; exact h2,h3⟩
theorem HOk.mono {E E':Env}(hE:E.le E'){h h':Hf}{w w':World}(hs:HOk E h w)(hh:∀ i B,h' i=some B->h i=some B)(hw:∀ b,Own E h b->w'.heap[b]?=w.heap[b]?):HOk E' h' w' where
 blk:=fun i B hi=>(hs.blk i B (hh i B hi)).mono hE fun b β n he=>hw b ⟨i,B,β,n,hh i B hi,he⟩
 dis:=fun i B j C b β n β' n' hi hj ha e1 e2=>by
  have hi:=hh i B hi;have hj:=hh j C hj;obtain ⟨b1,β1,n1,f1,_⟩:=(hs.blk i B hi).env;obtain ⟨b2,β2,n2,f2,_⟩:=(hs.blk j C hj).env;rw [hE _ _ f1] at e1; cases e1;rw [hE _ _ f2] at e2; cases e2;exact hs.dis i B j C _ _ _ _ _ hi hj ha f1 f2
def Env.add (E:Env)(n:Nat)(x:Nat×Nat×Nat):Env:=fun i=>if i=n then some x else E i
theorem Env.le_add {E:Env}{n:Nat}{x:Nat×Nat×Nat}(h:E n=none):E.le (E.add n x):=fun i y hy=>by
 unfold Env.add;split
 ·rename_i e; subst e; rw [h] at hy; cases hy
 ·exact hy
structure Pushed (w w':World)(o:Obj):Prop where
 heap:w'.heap=w.heap.push o
 os:w'.os=w.os
 tape:w'.tape=w.tape
 output:w'.output=w.output
theorem Pushed.old {w w':World}{o:Obj}(h:Pushed w w' o){b:Nat}(hb:b<w.heap.size):w'.heap[b]?=w.heap[b]?:=by rw [h.heap]; exact Array.getElem?_push_lt hb |>.trans (by rw [xb5 hb])
theorem Pushed.new {w w':World}{o:Obj}(h:Pushed w w' o):w'.heap[w.heap.size]?=some o:=by rw [h.heap]; exact Array.getElem?_push_size
theorem Pushed.size {w w':World}{o:Obj}(h:Pushed w w' o):w'.heap.size=w.heap.size+1:=by rw [h.heap]; exact Array.size_push ..
theorem HOk.new {E:Env}{h h':Hf}{w w':World}{o:Obj}(hs:HOk E h w){n m:Nat}{B:Blk}(hE:E n=none)(hp:Pushed w w' o)(hB:BOk (E.add n (w.heap.size,0,m)) w' n B)
  (hn:∀ C,h' n=some C->C=B)(hh:∀ j C,j≠n->h' j=some C->h j=some C):HOk (E.add n (w.heap.size,0,m)) h' w'/\Stp E h w (E.add n (w.heap.size,0,m)) h' w':=by
 have hle:=Env.le_add (x:=(w.heap.size,0,m)) hE;have hown:∀ j C,j≠n->h' j=some C->∃ b β k,E j=some (b,β,k)/\(E.add n (w.heap.size,0,m)) j=some (b,β,k)/\b<w.heap.size:=fun j C hj hc=>by
  obtain ⟨b,β,k,e1,e2⟩:=(hs.blk j C (hh j C hj hc)).env;exact ⟨b,β,k,e1,hle _ _ e1,e2⟩
 have hnew:(E.add n (w.heap.size,0,m)) n=some (w.heap.size,0,m):=xad rfl;refine ⟨⟨fun i C hi=>?_,fun i B1 j B2 b β k β' k' hi hj ha e1 e2=>?_⟩,hle,by rw [hp.size]; omega,fun b hb _=>hp.old hb,?_,hp.os,hp.tape,hp.output⟩
 ·by_cases e:i=n
  ·subst e; rw [hn C hi]; exact hB
  ·exact (hs.blk i C (hh i C e hi)).mono hle fun b β k he=>by
    obtain ⟨b',β',k',f1,f2⟩:=(hs.blk i C (hh i C e hi)).env;rw [he] at f1; cases f1;exact hp.old f2
 ·by_cases ei:i=n
  ·subst ei;rw [hnew] at e1; cases e1;by_cases ej:j=i
   ·subst ej;rw [hn _ hi] at ha;rw [hn _ hj] at ha;unfold Apart at ha;split at ha <;> exact ha rfl
   ·obtain ⟨b,β,k,f1,f2,f3⟩:=hown j B2 ej hj;rw [f2] at e2; cases e2; omega
  ·by_cases ej:j=n
   ·subst ej;rw [hnew] at e2; cases e2;obtain ⟨b,β,k,f1,f2,f3⟩:=hown i B1 ei hi;rw [f2] at e1; cases e1; omega
   ·obtain ⟨b1,β1,k1,f1,f2,_⟩:=hown i B1 ei hi;obtain ⟨b2,β2,k2,g1,g2,_⟩:=hown j B2 ej hj;rw [f2] at e1; cases e1;rw [g2] at e2; cases e2;exact hs.dis i B1 j B2 _ _ _ _ _ (hh i B1 ei hi) (hh j B2 ej hj) ha f1 g1
 ·rintro b ⟨i,C,β,k,hi,he⟩;by_cases e:i=n
  ·subst e; rw [hnew] at he; cases he; exact .inr (xaf _)
  ·obtain ⟨b',β',k',f1,f2,f3⟩:=hown i C e hi;rw [f2] at he; cases he;exact .inl ⟨i,C,_,_,hh i C e hi,f1⟩
structure Turned (w w':World)(b:Nat):Prop where
 size:w'.heap.size=w.heap.size
 other:∀ k,k≠b->w'.heap[k]?=w.heap[k]?
 os:w'.os=w.os
 tape:w'.tape=w.tape
 output:w'.output=w.output
theorem HOk.turn {E:Env}{h h':Hf}{w w':World}(hs:HOk E h w){i b β n:Nat}{B B':Blk}(hi:h i=some B)(he:E i=some (b,β,n))(ht:Turned w w' b)(hB:BOk E w' i B')
  (hsame:∀ j C,Apart i B' j C↔Apart i B j C)(hsame':∀ j C,Apart j C i B'↔Apart j C i B)
  (hn:∀ C,h' i=some C->C=B')(hh:∀ j C,j≠i->h' j=some C->h j=some C/\Apart i B j C):HOk E h' w'/\Stp E h w E h' w':=by
 have hne:∀ j C b' β' k,j≠i->h' j=some C->E j=some (b',β',k)->b'≠b:=fun j C b' β' k hj hc e1 e=>by
  subst e;exact hs.dis i B j C _ _ _ _ _ hi (hh j C hj hc).1 (hh j C hj hc).2 he e1
 refine ⟨⟨fun j C hj=>?_,fun j B1 k B2 b1 β1 n1 β2 n2 hj hk ha e1 e2=>?_⟩,E.le_refl,by rw [ht.size]; exact xaf _,fun k hk hno=>ht.other k fun e=>hno (by subst e; exact ⟨i,B,β,n,hi,he⟩),?_,ht.os,ht.tape,ht.output⟩
 ·by_cases e:j=i
  ·subst e; rw [hn C hj]; exact hB
  ·exact (hs.blk j C (hh j C e hj).1).mono E.le_refl fun b' β' k hk=>ht.other b' (hne j C b' β' k e hj hk)
 ·by_cases ej:j=i
  ·subst ej;rw [hn B1 hj] at ha;by_cases ek:k=j
   ·subst ek;rw [hn B2 hk] at ha;unfold Apart at ha;split at ha <;> exact ha rfl
   ·rw [he] at e1; cases e1;exact hne k B2 _ _ _ ek hk e2 rfl
  ·by_cases ek:k=i
   ·subst ek;rw [he] at e2; cases e2;exact hne j B1 _ _ _ ej hj e1 rfl
   ·exact hs.dis j B1 k B2 _ _ _ _ _ (hh j B1 ej hj).1 (hh k B2 ek hk).1 ha e1 e2
 ·rintro k ⟨j,C,β',n',hj,e1⟩;by_cases e:j=i
  ·subst e; exact .inl ⟨j,B,_,_,hi,e1⟩
  ·exact .inl ⟨j,C,_,_,(hh j C e hj).1,e1⟩
def Loc (E:Env)(L:Nat->Option CV)(a:Act):Prop:=∀ t c,L t=some c->RC E (a.tmps.getD t undef) c
theorem Loc.mono {E E':Env}(hE:E.le E'){L:Nat->Option CV}{a:Act}(h:Loc E L a):Loc E' L a:=fun t c hc=>(h t c hc).mono hE
section
variable {P:Program}{L:Lo}{E:Env}{a:Act}{w:World}
theorem zba (hL:Loc E L.get a){x:Operand}{c:CV}(h:val L x=some c):RC E (a.eval x) c:=by
 cases x with
 | tmp t=>exact hL t c h
 | const v=>exact zjs h
 | func f=>
  cases h;exact .fn f [] [] rfl fun j v c hv=>by simp at hv
 | «global» g=>cases h
theorem zl7 (hL:Loc E L.get a){l:List Operand}{cs:List CV}(h:vals L l=some cs):RCs E (l.map a.eval) cs:=by
 obtain ⟨h1,h2⟩:=seqL_eq h;refine ⟨by simp [h1],fun j v c hv hc=>?_⟩;rw [xbf] at hv;obtain ⟨x,hx,rfl⟩:=xay.1 hv;exact zba hL (h2 j x c hx hc)
theorem closed_eq (hL:Loc E L.get a):∀ {l:List Operand},closed L l=true->∀ x∈l,rho L x=a.eval x
 | [],_,x,hx=>by cases hx
 | y::l,h,x,hx=>by
  simp only [closed] at h;split at h
  ·rename_i c hc;split at h
   ·rename_i v hv
    rcases xaq.1 hx with rfl | hx
    ·simp only [rho,hc,hv];exact (conc_eq (zba hL hc) hv).symm
    ·exact closed_eq hL h x hx
   ·cases h
  ·cases h
theorem evalPure_ok {o:Oper}{x:CV}(h:evalPure P L o=some x)(hL:Loc E L.get a)(w:World):∃ v,(execOp a.eval o).run P w = .ok (.value v) w/\RC E v x:=by
 unfold evalPure at h;split at h
 ·rename_i hc;obtain ⟨hn,hc⟩:=xa2.1 hc;split at h
  ·rename_i v hv;split at h
   ·rename_i c hcv;rw [fV_eq] at h;cases h;have e:=execOp_congr (ρ:=rho L) (ρ':=a.eval) o (fun cs b he=>by rw [he] at hn; cases hn) (fun x hx=>closed_eq hL hc x (by simpa using hx));rw [e] at hv;exact ⟨v,strip_run hv w,zjs hcv⟩
   ·cases h
  ·cases h
 ·cases h
theorem zgt {t:TypeId}{n:Nat}(h:szOf P t=some n)(w:World):(sizeOf t).run P w = .ok n w:=by
 unfold szOf at h;split at h
 ·rename_i i hi; cases h; simp [sizeOf,typeInfo,hi]
 ·cases h
theorem run_isAgg {t:TypeId}{g:Bool}(h:aggT P t=some g)(w:World):(isAgg t).run P w = .ok g w:=by
 unfold aggT at h;split at h
 ·rename_i fs hu; cases h; simp [isAgg,xah hu]
 ·rename_i n e hu; cases h; simp [isAgg,xah hu]
 ·rename_i d h1 h2 hu;cases h;unfold isAgg;simp only [xao,xah hu,xae];rfl
 ·cases h
theorem zhf {t e:TypeId}(h:elemT P t=some e):P.underlying t=some (.slice e):=by
 unfold elemT at h;split at h
 ·rename_i e' hu; cases h; exact hu
 ·cases h
theorem fieldOf_eq {st e:TypeId}{f d:Nat}(h:fieldOf P st f=some (e,d)):∃ (fs:Array Field) (fd:Field),P.underlying st=some (.struct fs)/\fs[f]?=some fd/\fd.type=e/\fd.offset=d:=by
 unfold fieldOf at h;split at h
 ·rename_i fs hu;split at h
  ·rename_i fd hf;cases h;rw [zf9] at hf;exact ⟨fs,fd,hu,by simpa using hf,rfl,rfl⟩
  ·cases h
 ·cases h
theorem partOf_run {t:TypeId}{cs:List CV}{off:Nat}{x:CV}(h:ziu P t cs off=some x){vs:List Value}(hv:RCs E vs cs)(w:World):∃ v,(part t vs.toArray off).run P w = .ok v w/\RC E v x:=by
 unfold ziu at h;split at h
 ·rename_i hg;split at h
  ·rename_i n hn;split at h
   ·rename_i r hr;cases h;obtain ⟨h1,h2⟩:=zge _ _ _ _ hr;refine ⟨.agg ((vs.drop off).take n).toArray,?_,?_⟩
    ·unfold Go.part;simp only [xao,run_isAgg hg,xae,xc1,zgt hn,xat];congr 2;simp [xep,xd1]
    ·have:=(hv.drop off).take n;rw [<- h1] at this;exact .agg _ _ this.1 this.2
   ·cases h
  ·cases h
 ·rename_i hg;rw [zf9] at h;obtain ⟨v,hv1,hv2⟩:=hv.get h;refine ⟨v,?_,hv2⟩;unfold Go.part;simp only [xao,run_isAgg hg,xae,xby,xcw,xa1,hv1,xat]
 ·cases h
theorem cell_at {b o:Nat}{vs:Array Value}{ty:TypeId}{fr:Nat×Nat}(h:w.heap[b]?=some (.cells vs ty fr)):w.cell? ⟨b,o,none⟩=vs[o]?:=by simp [World.cell?,h]
theorem add_at (b o k:Nat):(⟨b,o,none⟩:Addr).add k=⟨b,o+k,none⟩:=by unfold Addr.add; split <;> simp_all
theorem zm8 {b β:Nat}{vs:Array Value}{ty:TypeId}{fr:Nat×Nat}(hh:w.heap[b]?=some (.cells vs ty fr)){cs:List CV}(hc:CellsOk E vs β cs){off n:Nat}{r:List CV}(hr:zgi cs off n=some r) :
  ∃ us:List Value,us.length=n/\RCs E us r/\(∀ u∈us,u.oneCell'=true)/\zat r=true/\(∀ j u,us[j]?=some u->w.cell? ⟨b,β+off+j,none⟩=some u):=by
 obtain ⟨h1,h2⟩:=zge _ _ _ _ hr;have hl:r.length=n:=by
  rw [h1]; simp;by_cases h0:0<n
  ·have:=h2 h0; omega
  ·omega
 have key:∀ j c,r[j]?=some c->∃ v,vs[β+off+j]?=some v/\RC E v c/\isCell c=true:=fun j c hj=>by
  have hj':=(xac.1 hj).1;rw [h1,xau,xad (by omega),xbb] at hj;obtain ⟨v,e1,e2,e3⟩:=hc _ _ hj;exact ⟨v,by rw [xcf]; exact e1,e2,e3⟩
 refine ⟨(List.range n).map fun j=>vs.getD (β+off+j) undef,by simp,⟨by simp [hl],fun j v c hv hcj=>?_⟩,fun u hu=>?_,?_,fun j u hu=>?_⟩
 ·obtain ⟨v',e1,e2,_⟩:=key j c hcj;rw [xbf] at hv;obtain ⟨k,hk,rfl⟩:=xay.1 hv;have:k=j:=by
   obtain ⟨_,hk⟩:=xac.1 hk;simp at hk; exact hk.symm
  subst this;rw [xan,e1]; exact e2
 ·obtain ⟨j,hj,rfl⟩:=xb1.1 hu;have hj:j<n:=by simpa using hj
  obtain ⟨v',e1,e2,e3⟩:=key j _ (xag (by omega));rw [xan,e1]; exact e2.one e3
 ·have:∀ l:List CV,(∀ c∈l,isCell c=true)->zat l=true:=by
   intro l
   induction l with
   | nil=>intro _; rfl
   | cons x l ih=>intro h; simp only [zat,h x (by simp)]; exact ih fun c hc=>h c (by simp [hc])
  refine this r fun c hc=>?_;obtain ⟨j,hj⟩:=xcc hc;obtain ⟨_,_,_,e3⟩:=key j c hj;exact e3
 ·rw [xbf] at hu;obtain ⟨k,hk,rfl⟩:=xay.1 hu;have hkj:k=j/\j<n:=by
   obtain ⟨h3,hk⟩:=xac.1 hk;simp at hk h3; exact ⟨hk.symm,by omega⟩
  obtain ⟨rfl,hlt⟩:=hkj;obtain ⟨v',e1,e2,e3⟩:=key k _ (xag (by omega));rw [cell_at hh,xan,e1]; rfl
theorem load_run {t:TypeId}{cs:List CV}{off:Nat}{x:CV}(h:ziu P t cs off=some x){b β:Nat}{vs:Array Value}{ty:TypeId}{fr:Nat×Nat}(hh:w.heap[b]?=some (.cells vs ty fr))(hc:CellsOk E vs β cs) :
  ∃ v,(loadVar t ⟨b,β+off,none⟩).run P w = .ok v w/\RC E v x:=by
 unfold ziu at h;split at h
 ·rename_i hg;split at h
  ·rename_i n hn;split at h
   ·rename_i r hr;cases h;obtain ⟨us,h1,h2,_,_,h5⟩:=zm8 hh hc hr;refine ⟨.agg us.toArray,?_,.agg _ _ h2.1 h2.2⟩;unfold Go.loadVar;simp only [xao,run_isAgg hg,xae,xc1,zgt hn,xat];rw [run_loadCells w ⟨b,β+off,none⟩ n (fun j=>us.getD j undef) (fun j hj=>by
     rw [add_at];have:us[j]?=some us[j]:=xag (by omega);rw [h5 j _ this,xci,this]; rfl)]
    simp only [xae];congr 3;apply xbz;intro j;rw [xbf];by_cases hj:j<n
    ·rw [xdu hj];have:us[j]?=some us[j]:=xag (by omega);simp [this]
    ·rw [xcv (by simp; omega),xcv (by omega)]; rfl
   ·cases h
  ·cases h
 ·rename_i hg;rw [zf9] at h;obtain ⟨v,hv1,hv2,_⟩:=hc _ _ h;refine ⟨v,?_,hv2⟩;have hcell:w.cell? ⟨b,β+off,none⟩=some v:=by rw [cell_at hh]; exact hv1
  unfold Go.loadVar;simp only [xao,run_isAgg hg,xae,xby,xcw];simp [hcell]
 ·cases h
end
end Go.Cm
namespace Go.Cm
open Go
section
variable {P:Program}{L:Lo}{E:Env}{a:Act}{w:World}
theorem natOf_eq {v:Value}{c:CV}{n:Nat}(h:natOf c=some n)(hr:RC E v c):∃ k,v = .int k (n:Int):=by
 unfold natOf at h;split at h
 ·cases h; cases hr; exact ⟨_,rfl⟩
 ·cases h
theorem RC.ptr_inv {v:Value}{i off:Nat}(h:RC E v (.ptr i off)):∃ b β n,E i=some (b,β,n)/\v = .pointer (some ⟨b,β+off,none⟩):=by
 generalize hx:CV.ptr i off=x at h;cases h <;> cases hx;exact ⟨_,_,_,‹_›,rfl⟩
theorem RC.agg_inv {v:Value}{cs:List CV}(h:RC E v (.agg cs)):∃ vs:List Value,v = .agg vs.toArray/\RCs E vs cs:=by
 generalize hx:CV.agg cs=x at h;cases h <;> cases hx;exact ⟨_,rfl,‹_›,‹_›⟩
theorem RC.tup_inv {v:Value}{cs:List CV}(h:RC E v (.tup cs)):∃ vs:List Value,v = .tuple vs.toArray/\RCs E vs cs:=by
 generalize hx:CV.tup cs=x at h;cases h <;> cases hx;exact ⟨_,rfl,‹_›,‹_›⟩
theorem RC.bool_inv {v:Value}{b:Bool}(h:RC E v (.bool b)):v = .bool b:=by
 generalize hx:CV.bool b=x at h;cases h <;> cases hx;rfl
theorem RC.str_inv {v:Value}{l:List Nat}(h:RC E v (.str l)):v = .string ⟨(l.map UInt8.ofNat).toArray⟩/\∀ b∈l,b<256:=by
 generalize hx:CV.str l=x at h;cases h <;> cases hx;exact ⟨rfl,‹_›⟩
theorem RC.mp_inv {v:Value}{i:Nat}(h:RC E v (.mp i)):∃ b β n,E i=some (b,β,n)/\v = .map (some b):=by
 generalize hx:CV.mp i=x at h;cases h <;> cases hx;exact ⟨_,_,_,‹_›,rfl⟩
theorem RC.fn_inv {v:Value}{f:FuncId}{cs:List CV}(h:RC E v (.fn f cs)):∃ vs:List Value,v = .func (.func f) #[] vs.toArray/\RCs E vs cs:=by
 generalize hx:CV.fn f cs=x at h;cases h <;> cases hx;exact ⟨_,rfl,‹_›,‹_›⟩
theorem RC.nilp_inv {v:Value}(h:RC E v .nilp):v = .pointer none:=by
 generalize hx:CV.nilp=x at h;cases h <;> cases hx;rfl
theorem RC.nils_inv {v:Value}(h:RC E v .nils):v = .slice none 0 0:=by
 generalize hx:CV.nils=x at h;cases h <;> cases hx;rfl
theorem RC.nilf_inv {v:Value}(h:RC E v .nilf):v = .nilFunc:=by
 generalize hx:CV.nilf=x at h;cases h <;> cases hx;rfl
theorem RC.nilm_inv {v:Value}(h:RC E v .nilm):v = .map none:=by
 generalize hx:CV.nilm=x at h;cases h <;> cases hx;rfl
theorem RC.se_inv {v:Value}(h:RC E v .se):∃ a c,v = .slice a 0 c/\c<=maxLen:=by
 generalize hx:CV.se=x at h;cases h <;> cases hx;exact ⟨_,_,rfl,‹_›⟩
theorem RC.sl_inv {v:Value}{i off len cap sz:Nat}{ex:Bool}(h:RC E v (.sl i off len cap ex sz)):∃ c b β n,E i=some (b,β,n)/\v = .slice (some ⟨b,β+off,none⟩) len c/\cap<=c/\(ex=true->c=cap)/\β+off+c*sz<=n/\c<=maxLen/\len<=cap:=by
 generalize hx:CV.sl i off len cap ex sz=x at h;cases h <;> cases hx;exact ⟨_,_,_,_,‹_›,rfl,‹_›,‹_›,‹_›,‹_›,‹_›⟩
theorem cellsOk_of {v:Value}{x:CV}(h:RC E v x)(hc:cellsOk x=true):RCs E v.cells.toList x.cells/\zat x.cells=true:=by
 cases x
 case agg cs=>exact ⟨h.cells (.inr ⟨cs,rfl⟩),hc⟩
 case tup cs=>cases hc
 all_goals exact ⟨h.cells (.inl rfl),rfl⟩
theorem zeu:∀ {l:List CV} {j:Nat} {c:CV},zat l=true->l[j]?=some c->isCell c=true
 | [],_,_,_,h=>by simp at h
 | x::l,0,c,h,hc=>by
  simp only [zat] at h;split at h
  ·rename_i hx; simp at hc; subst hc; exact hx
  ·cases h
 | x::l,j+1,c,h,hc=>by
  simp only [zat] at h;split at h
  ·exact zeu h (by simpa using hc)
  ·cases h
theorem zmj {l r:List CV}(h:zat l=true)(h':zat r=true):zat (l++r)=true:=by
 induction l with
 | nil=>exact h'
 | cons x l ih=>
  simp only [zat] at h;split at h
  ·rename_i hx; simp only [xbn,zat,hx,ih h]
  ·cases h
theorem All2.set {vs us:List Value}{cs ds r:List CV}(h:RCs E vs cs)(h':RCs E us ds){o:Nat}(hs:zjv cs o ds=some r):RCs E (vs.take o++us++vs.drop (o+us.length)) r:=by
 obtain ⟨e,_⟩:=zfh _ _ _ _ hs;rw [e];have:=((h.take o).append h').append (h.drop (o+us.length));rw [h'.1] at this ⊢;exact this
theorem fold_cells:∀ (l:List Value) (c:List Value) (o k:Nat),o+k+l.length<=c.length->
  ((l.zipIdx k).foldl (fun (cs:Array Value) (p:Value×Nat)=>cs.setIfInBounds (o+p.2) p.1) c.toArray)=(c.take (o+k)++l++c.drop (o+k+l.length)).toArray:=by
 intro l
 induction l with
 | nil=>intro c o k _; simp
 | cons y l ih=>
  intro c o k hb;simp only [xdr,xef];have:(c.toArray.setIfInBounds (o+k) y)=(c.set (o+k) y).toArray:=by simp
  rw [this,ih (c.set (o+k) y) o (k+1) (by simp at hb ⊢; omega)];congr 1;simp only [xal] at hb ⊢;apply xbz;intro j;simp only [xaj,xb7,xau,xbb,xcr,xar,xcn,xd0]
  grind
theorem fill_one {place:Nat->Option (Nat×Nat)}{i off n:Nat}(hp:place i=some (off,n)){v:Value}{vs:List Value}(hn:v.cells.toList.length=n)(hl:off+n<=vs.length)(rest:List (Nat×Value)) :
  Instr.fill place vs.toArray ((i,v)::rest)=Instr.fill place (vs.take off++v.cells.toList++vs.drop (off+n)).toArray rest:=by
 simp only [Instr.fill,hp];have e1:v.cells.size=n:=by rw [<- hn]; simp
 have hcnd:¬ ((decide (v.cells.size≠n)||decide (off+v.cells.size > vs.toArray.size))=true):=by
  simp only [xa0,xav,xaz];omega
 have hfold:(Array.foldl (fun cs (x:Value×Nat)=>cs.setIfInBounds (off+x.2) x.1) vs.toArray v.cells.zipIdx)=(vs.take off++v.cells.toList++vs.drop (off+n)).toArray:=by
  rw [<- xem];have:=fold_cells v.cells.toList vs off 0 (by rw [hn]; simpa using hl);rw [hn] at this;simpa using this
 rw [xab hcnd,<- hfold]
theorem fillP_ok (hL:Loc E L.get a){fs:Array Field}{places:Array (Nat×Nat)}(hp:∀ (f:Nat) (fd:Field) (n:Nat),fs[f]?=some fd->szOf P fd.type=some n->places[f]?=some (fd.offset,n)) :
  ∀ (ps:List (Nat×Operand)) (cs out:List CV) (vs:List Value),fillP P L fs.toList ps cs=some out->RCs E vs cs->
   ∃ us:List Value,Instr.fill (places[·]?) vs.toArray (ps.map fun p=>(p.1,a.eval p.2))=some us.toArray/\RCs E us out
 | [],cs,out,vs,h,hv=>by cases h; exact ⟨vs,rfl,hv⟩
 | (i,x)::ps,cs,out,vs,h,hv=>by
  simp only [fillP] at h;split at h
  ·rename_i fd hfd;rw [zf9] at hfd;split at h
   ·cases h
   ·rename_i n hn;split at h
    ·rename_i v hvx;split at h
     ·rename_i hc1;split at h
      ·rename_i hc2;split at h
       ·rename_i cs' hset;obtain ⟨hr,_⟩:=cellsOk_of (zba hL hvx) hc2;have hc1:=xam hc1;have hl:(a.eval x).cells.toList.length=n+1:=by rw [hr.1,hc1]
        have hb:=(zfh _ _ _ _ hset).2 (by intro h0; rw [h0] at hc1; cases hc1);rw [hc1] at hb;have hv':=All2.set hv hr hset;obtain ⟨us,h1,h2⟩:=fillP_ok hL hp ps cs' out _ h hv';refine ⟨us,?_,h2⟩;rw [<- h1,xa9,fill_one (hp i fd (n+1) (by simpa using hfd) hn) hl (by rw [hv.1]; exact hb),hl]
       ·cases h
      ·cases h
     ·cases h
    ·cases h
   ·cases h
  ·cases h
theorem fillE_ok (hL:Loc E L.get a){n:Nat}(hn:n≠0) :
  ∀ (ps:List (Nat×Operand)) (cs out:List CV) (vs:List Value),fillE n L ps cs=some out->RCs E vs cs->
   ∃ us:List Value,Instr.fill (fun i=>some (i*n,n)) vs.toArray (ps.map fun p=>(p.1,a.eval p.2))=some us.toArray/\RCs E us out/\(zat cs=true->zat out=true)
 | [],cs,out,vs,h,hv=>by cases h; exact ⟨vs,rfl,hv,fun h=>h⟩
 | (i,x)::ps,cs,out,vs,h,hv=>by
  simp only [fillE] at h;split at h
  ·rename_i v hvx;split at h
   ·rename_i hc1;split at h
    ·rename_i hc2;split at h
     ·rename_i cs' hset;obtain ⟨hr,hac⟩:=cellsOk_of (zba hL hvx) hc2;have hc1:=xam hc1;have hl:(a.eval x).cells.toList.length=n:=by rw [hr.1,hc1]
      obtain ⟨e,hb⟩:=zfh _ _ _ _ hset;have hb:=hb (by intro h0; rw [h0] at hc1; exact hn hc1.symm);rw [hc1] at hb;have hv':=All2.set hv hr hset;obtain ⟨us,h1,h2,h3⟩:=fillE_ok hL hn ps cs' out _ h hv';refine ⟨us,?_,h2,fun hcs=>h3 ?_⟩
      ·rw [<- h1,xa9,fill_one (place:=fun i=>some (i*n,n)) rfl hl (by rw [hv.1]; exact hb),hl]
      ·rw [e];have hsub:∀ (l:List CV),(∀ c∈l,isCell c=true)->zat l=true:=by
        intro l
        induction l with
        | nil=>intro _; rfl
        | cons x l ih=>intro h; simp only [zat,h x (by simp)]; exact ih fun c hc=>h c (by simp [hc])
       have hmem:∀ {l:List CV},zat l=true->∀ c∈l,isCell c=true:=fun hl c hc=>by
        obtain ⟨j,hj⟩:=xcc hc;exact zeu hl hj
       refine hsub _ fun c hc=>?_;simp only [xax] at hc
       rcases hc with (hc | hc) | hc
       ·exact hmem hcs c (xb6 hc)
       ·exact hmem hac c hc
       ·exact hmem hcs c (xdb hc)
     ·cases h
    ·cases h
   ·cases h
  ·cases h
theorem zhv {t:TypeId}{l:List CV}(h:zeroOf P t=some l):∃ i z,P.info? t=some i/\i.zero=some z/\RCs E z.cells.toList l/\zat l=true:=by
 unfold zeroOf at h;split at h
 ·rename_i i hi;split at h
  ·rename_i z hz;split at h
   ·rename_i l' hl;split at h
    ·rename_i hc;cases h;obtain ⟨h1,h2⟩:=seqL_eq hl;exact ⟨i,z,hi,hz,⟨h1,fun j v c hv hc=>zjs (h2 j v c hv hc)⟩,hc⟩
    ·cases h
   ·cases h
  ·cases h
 ·cases h
theorem run_mapM' {α β:Type}(f:α->Sem β)(g:α->β):∀ (l:List α),(∀ x∈l,(f x).run P w = .ok (g x) w)->(l.mapM f).run P w = .ok (l.map g) w
 | [],_=>by simp
 | x::l,h=>by
  rw [xfb];simp only [xao,h x (by simp),xae,run_mapM' f g l (fun y hy=>h y (by simp [hy])),xat,xa9]
theorem run_mapMA {α β:Type}(f:α->Sem β)(g:α->β)(l:Array α)(h:∀ x∈l.toList,(f x).run P w = .ok (g x) w):(l.mapM f).run P w = .ok (l.map g) w:=by
 rw [xdq];simp only [Sem.run_map,run_mapM' f g l.toList h,xae];congr 1;rw [<- xc0]
theorem allSz_get:∀ {l:List Field} {f:Field},allSz P l=true->f∈l->∃ n,szOf P f.type=some n
 | [],_,_,h=>by cases h
 | g::l,f,h,hf=>by
  simp only [allSz] at h;split at h
  ·rename_i n hn
   rcases xaq.1 hf with rfl | hf
   ·exact ⟨n,hn⟩
   ·exact allSz_get h hf
  ·cases h
theorem nilEq_ok {t:TypeId}{u v:Value}{x y:CV}{b:Bool}(h:nilEq P t x y=some (.bool b))(hx:RC E u x)(hy:RC E v y)(w:World):(Op.equal t u v).run P w = .ok b w:=by
 unfold nilEq at h;unfold Op.equal;have e0:Op.maxDepth=9999+1:=rfl;rw [e0];unfold Op.equalIn;split at h
 ·rename_i e hu;split at h
  ·cases h;obtain ⟨b,β,n,_,rfl⟩:=hx.ptr_inv;rw [hy.nilp_inv];simp only [xao,xah hu,xae]; rfl
  ·cases h;obtain ⟨b,β,n,_,rfl⟩:=hy.ptr_inv;rw [hx.nilp_inv];simp only [xao,xah hu,xae]; rfl
  ·cases h
 ·rename_i e hu;split at h
  ·cases h;obtain ⟨c,b,β,n,_,rfl,_⟩:=hx.sl_inv;rw [hy.nils_inv];simp only [xao,xah hu,xae]; rfl
  ·cases h;obtain ⟨c,b,β,n,_,rfl,_⟩:=hy.sl_inv;rw [hx.nils_inv];simp only [xao,xah hu,xae]; rfl
  ·cases h
 ·rename_i hu;split at h
  ·cases h;obtain ⟨vs,rfl,_⟩:=hx.fn_inv;rw [hy.nilf_inv];simp only [xao,xah hu,xae]; rfl
  ·cases h
 ·rename_i hu;split at h
  ·cases h;obtain ⟨b,β,n,_,rfl⟩:=hx.mp_inv;rw [hy.nilm_inv];simp only [xao,xah hu,xae]; rfl
  ·cases h
 ·cases h
theorem nilEq_guard {t:TypeId}{u v:Value}{x y:CV}{c:CV}(h:nilEq P t x y=some c)(hx:RC E u x)(hy:RC E v y)(op:BinOp)(p q:Operand)(w:World):(eqGuard op t p q u v).run P w = .ok () w:=by
 unfold nilEq at h;have key:∀ (u v:Value),(∀ cs,u≠.agg cs)->u≠.nilIface->(eqGuard op t p q u v).run P w = .ok () w:=by
  intro u v h1 h2;cases op <;> cases u <;> first | (simp [eqGuard]; done) | exact absurd rfl h2 | exact absurd rfl (h1 _)
 split at h
 all_goals first | (cases h; done) | skip
 all_goals split at h
 all_goals first | (cases h; done) | skip
 all_goals refine key u v ?_ ?_
 all_goals first
  | (intro cs e; subst e; cases hx; done)
  | (intro e; subst e; cases hx; done)
theorem zkc {x:Operand}{c:CV}{n y:Nat}(hL:Loc E L.get a)(hv:val L x=some c)(hn:natOf c=some n)(hle:n<=y)(code:BoundsCode):(Instr.sliceBound (a.eval x) y code).run P w = .ok n w:=by
 obtain ⟨k,e⟩:=natOf_eq hn (zba hL hv);rw [e];have h1:(0:Int)<=(n:Int)/\(n:Int)<=(y:Int):=by omega
 simp [Instr.sliceBound,asIntOf,h1]
theorem zll {x:Option Operand}{d n:Nat}(h:optNat L d x=some n):(x=none/\n=d)\/∃ y c,x=some y/\val L y=some c/\natOf c=some n:=by
 unfold optNat at h;split at h
 ·cases h; exact .inl ⟨rfl,rfl⟩
 ·rename_i y;split at h
  ·rename_i c hc; exact .inr ⟨y,c,rfl,hc,h⟩
  ·cases h
theorem zee {α:Type}{a:Array α}{x:α}(h:a.toList=[x]):a=#[x]:=by
 cases a; simp at h; simp [h]
theorem toList_two {α:Type}{a:Array α}{x y:α}(h:a.toList=[x,y]):a=#[x,y]:=by
 cases a; simp at h; simp [h]
theorem zdp {o:Oper}{c:Call}{b:Builtin}(ho:o.op = .call c)(hc:c.callee = .builtin b)(ρ:Operand->Value)(w w':World){n:Next}
  (h:(builtin b c.argTypes o.type (c.args.map fun | .const _=>true | _=>false) (c.args.map ρ)).run P w = .ok n w'):(execOp ρ o).run P w = .ok n w':=by
 simp only [execOp,ho,resolve,hc,invoke,xao,xat,xae];exact h
theorem slice_run (hL:Loc E L.get a){t e:TypeId}{sz:Nat}(hu:P.underlying t=some (.slice e))(hse:szOf P e=some sz){base:Option Addr}{len c l h m:Nat}{lo hi mx:Option Operand}
  (hm:(mx=none/\m=c)\/(mx.isSome=true/\hi.isSome=true/\optNat L 0 mx=some m/\m<=c))(hh:optNat L len hi=some h)(hl:optNat L 0 lo=some l)(h1:h<=m)(h2:l<=h)(w:World) :
  (Instr.slice t (.slice base len c) (lo.map a.eval) (hi.map a.eval) (mx.map a.eval)).run P w = .ok (.slice (if m=l then base else base.map (·.add (l*sz))) (h - l) (m - l)) w:=by
 have hb:(Instr.sliceBounds true len c (lo.map a.eval) (hi.map a.eval) (mx.map a.eval)).run P w = .ok (l,h,m) w:=by
  unfold Instr.sliceBounds
  rcases hm with ⟨rfl,rfl⟩ | ⟨hm1,hm2,hm3,hm4⟩
  ·rcases zll hh with ⟨rfl,rfl⟩ | ⟨y,cy,rfl,hy1,hy2⟩ <;> rcases zll hl with ⟨rfl,rfl⟩ | ⟨z,cz,rfl,hz1,hz2⟩
   ·simp
   ·simp [zkc hL hz1 hz2 h2]
   ·simp [zkc hL hy1 hy2 h1]
   ·simp [zkc hL hy1 hy2 h1,zkc hL hz1 hz2 h2]
  ·rcases zll hm3 with ⟨rfl,_⟩ | ⟨x,cx,rfl,hx1,hx2⟩
   ·cases hm1
   rcases zll hh with ⟨rfl,rfl⟩ | ⟨y,cy,rfl,hy1,hy2⟩
   ·cases hm2
   rcases zll hl with ⟨rfl,rfl⟩ | ⟨z,cz,rfl,hz1,hz2⟩
   ·simp [zkc hL hx1 hx2 hm4,zkc hL hy1 hy2 h1]
   ·simp [zkc hL hx1 hx2 hm4,zkc hL hy1 hy2 h1,zkc hL hz1 hz2 h2]
 simp only [Instr.slice,xao,xah hu,xae,hb,zgt hse,xat]
theorem wrap64 {m:Nat}(h:m<9223372036854775808):IntKind.wrap .i64 (m:Int)=(m:Int):=by
 have e:IntKind.i64.bits=64:=rfl;have e2:IntKind.i64.signed=true:=rfl;unfold IntKind.wrap;simp only [e,e2,xey];have:(m:Int) % 2 ^ 64=m:=by omega
 rw [this,xab];simp;omega
theorem fastB_ok {o:Oper}{op:BinOp}{t t2:TypeId}{y z:Operand}(ho:o.op = .binOp op t y z t2){u v c:CV}(hu:RC E (a.eval y) u)(hv:RC E (a.eval z) v)(h:fastB op u v=some c)(w:World):∃ r,(execOp a.eval o).run P w = .ok (.value r) w/\RC E r c:=by
 unfold fastB at h;split at h
 ·rename_i m n;have e1:a.eval y = .int .i64 (.ofNat m):=by generalize a.eval y=q at hu; cases hu; rfl
  have e2:a.eval z = .int .i64 (.ofNat n):=by generalize a.eval z=q at hv; cases hv; rfl
  have g:(eqGuard op t y z (a.eval y) (a.eval z)).run P w = .ok () w:=by
   rw [e1,e2]; cases op <;> simp [eqGuard]
  have key:∀ r,(binOp op t (a.eval y) (a.eval z)).run P w = .ok r w->(execOp a.eval o).run P w = .ok (.value r) w:=by
   intro r hr;simp only [execOp,ho,xao,g,xae,hr,xat]
  rw [e1,e2] at key;unfold fastI at h;split at h
  ·split at h
   ·rename_i hb;cases h;have hb:m+n<9223372036854775808:=by simpa [xcx] using hb
    exact ⟨_,key (.int .i64 ((m+n:Nat):Int)) (by simp only [binOp,Op.intArith]; have:=wrap64 hb; simp only [xe9,ne_eq,not_true,xcw,xat]; rw [<- Int.natCast_add,this]),.int _ _⟩
   ·cases h
  ·split at h
   ·rename_i hb;split at h
    ·rename_i hb2;cases h;have hb:=xap hb;have hb2:m<9223372036854775808:=by simpa [xcx] using hb2
     exact ⟨_,key (.int .i64 ((m - n:Nat):Int)) (by simp only [binOp,Op.intArith]; have:=wrap64 (m:=m - n) (by omega); simp only [xe9,ne_eq,not_true,xcw,xat]; rw [<- Int.natCast_sub hb,this]),.int _ _⟩
    ·cases h
   ·cases h
  all_goals first
   | (cases h; done)
   | (cases h
      refine ⟨_,key (.bool _) ?_,.bool _⟩;simp only [binOp,Op.intCmp,xe9,ne_eq,not_true,xcw,xat];congr 2;apply xb0.2;simp only [Nat.beq_eq,xcx,Nat.ble_eq,xeq,bne_iff_ne,xav,xbq,ne_eq,gt_iff_lt,ge_iff_le,xd3];omega)
   | skip
 ·cases h
theorem evalAddr_ok {o:Oper}{x:CV}(h:evalAddr P L o=some x)(hL:Loc E L.get a)(w:World):∃ v,(execOp a.eval o).run P w = .ok (.value v) w/\RC E v x:=by
 unfold evalAddr evalAddr_pick zne zlw evalAddr_field evalAddr_extract zlp evalAddr_slice evalAddr_slice3 evalAddr_build zmq evalAddr_binOp evalAddr_call at h;split at h
 ·rename_i x' ho;exact ⟨_,by simp [execOp,ho],zba hL h⟩
 ·rename_i x' ho;exact ⟨_,by simp [execOp,ho],zba hL h⟩
 ·rename_i c p q ho;split at h
  ·rename_i hc;have:=(zba hL hc).bool_inv;exact ⟨_,by simp [execOp,ho,this,asBool],zba hL h⟩
  ·rename_i hc;have:=(zba hL hc).bool_inv;exact ⟨_,by simp [execOp,ho,this,asBool],zba hL h⟩
  ·cases h
 ·rename_i y ho;split at h
  ·rename_i i off hy;cases h;have hr:=zba hL hy;obtain ⟨b,β,n,_,e⟩:=hr.ptr_inv;refine ⟨a.eval y,?_,hr⟩;rw [e];simp [execOp,ho,e]
  ·cases h
 ·rename_i t y f ho;split at h
  ·rename_i i off hy;split at h
   ·rename_i e d hf;split at h
    ·rename_i k hk;cases h;obtain ⟨b,β,n,he,ev⟩:=(zba hL hy).ptr_inv;obtain ⟨fs,fd,hu,hfd,rfl,rfl⟩:=fieldOf_eq hf;refine ⟨.pointer (some ⟨b,β+(off+fd.offset),none⟩),?_,.ptr _ _ _ _ _ he⟩;have hr:(Instr.fieldAt t (.pointer (some ⟨b,β+off,none⟩)) f).run P w = .ok (.pointer (some ⟨b,β+(off+fd.offset),none⟩)) w:=by
      unfold Instr.fieldAt;simp [xah hu,hfd,Instr.sureAddr,fieldPlace,zgt hk,add_at,xcf]
     simp [execOp,ho,ev,hr]
    ·cases h
   ·cases h
  ·cases h
 ·rename_i t y f ho;split at h
  ·rename_i cs hy;split at h
   ·rename_i e d hf;obtain ⟨vs,ev,hr⟩:=(zba hL hy).agg_inv;obtain ⟨fs,fd,hu,hfd,rfl,rfl⟩:=fieldOf_eq hf;obtain ⟨v,h1,h2⟩:=partOf_run h hr w;refine ⟨v,?_,h2⟩;simp [execOp,ho,ev,Instr.field,xah hu,hfd,asAgg,h1]
   ·cases h
  ·cases h
 ·rename_i y i ho;split at h
  ·rename_i cs hy;obtain ⟨vs,ev,hr⟩:=(zba hL hy).tup_inv;rw [zf9] at h;obtain ⟨v,h1,h2⟩:=hr.get h;refine ⟨v,?_,h2⟩;simp [execOp,ho,ev,Instr.extract,h1]
  ·cases h
 ·rename_i t y z ho;split at h
  ·rename_i i off len cap ex sz hy;split at h
   ·rename_i c hc;split at h
    ·rename_i n hn;split at h
     ·rename_i hlt;split at h
      ·rename_i e he;split at h
       ·rename_i m hm;split at h
        ·rename_i hms;cases h;have hms:=xam hms;subst hms;have hlt:n<len:=by simpa [xcx] using hlt
         obtain ⟨cc,b,β,nn,hE,ev,h1,h2,h3,h4,h5⟩:=(zba hL hy).sl_inv;obtain ⟨k,ek⟩:=natOf_eq hn (zba hL hc);refine ⟨.pointer (some ⟨b,β+(off+n*m),none⟩),?_,.ptr _ _ _ _ _ hE⟩;have hr:(Instr.indexAt t (.slice (some ⟨b,β+off,none⟩) len cc) (.int k (n:Int))).run P w = .ok (.pointer (some ⟨b,β+(off+n*m),none⟩)) w:=by
          unfold Instr.indexAt;have h01:(0:Int)<=(n:Int)/\(n:Int)<(len:Int):=by omega
          simp [xah (zhf he),asIntOf,h01,zgt hm,add_at,xcf];intro h6; omega
         simp [execOp,ho,ev,ek,hr]
        ·cases h
       ·cases h
      ·cases h
     ·cases h
    ·cases h
   ·cases h
  ·cases h
 ·rename_i t y lo hi ho;split at h
  ·rename_i i off len cap ex sz hy;split at h
   ·rename_i e he;split at h
    ·rename_i m hm;split at h
     ·rename_i hms;have hms:=xam hms;subst hms;split at h
      ·rename_i hh hhe;split at h
       ·rename_i l hle;split at h
        ·rename_i hb1;split at h
         ·rename_i hb2;have hb1:=xap hb1;have hb2:=xap hb2;obtain ⟨cc,b,β,nn,hE,ev,h1,h2,h3,h4,h5⟩:=(zba hL hy).sl_inv;have hr:=slice_run hL (zhf he) hm (base:=some ⟨b,β+off,none⟩) (len:=len) (c:=cc) (.inl ⟨rfl,rfl⟩) hhe hle (by omega) hb2 w;have hx:(execOp a.eval o).run P w = .ok (.value (.slice (if cc=l then some ⟨b,β+off,none⟩ else (some (⟨b,β+off,none⟩:Addr)).map (·.add (l*m))) (hh - l) (cc - l))) w:=by
           simp only [execOp,ho,Instr.sliceAt,xao,xah (zhf he),xae,ev];rw [hr];simp only [xae,xat]
          refine ⟨_,hx,?_⟩;split at h
          ·rename_i hlc;have hlc:=xam hlc;cases h;have:hh - l=0:=by omega
           rw [this];exact .se _ _ (by omega)
          ·rename_i hlc;have hlc:=xcp hlc;cases h;rw [xab (by omega)];simp only [xbl,add_at];rw [xcf];refine .sl _ _ _ _ _ _ _ _ _ _ hE (by omega) (fun hx=>by have:=h2 hx; omega) ?_ (by omega) (by omega);have:(cc - l)*m+l*m=cc*m:=by rw [<- xcj]; congr 1; omega
           omega
         ·cases h
        ·cases h
       ·cases h
      ·cases h
     ·cases h
    ·cases h
   ·cases h
  ·cases h
 ·rename_i t y lo hi mx ho;split at h
  ·rename_i i off len cap ex sz hy;split at h
   ·rename_i e he;split at h
    ·rename_i m hm;split at h
     ·rename_i hms;have hms:=xam hms;subst hms;split at h
      ·rename_i k hk;split at h
       ·rename_i hi';split at h
        ·rename_i hh hhe;split at h
         ·rename_i l hle;split at h
          ·rename_i hb0;split at h
           ·rename_i hb1;split at h
            ·rename_i hb2;have hb0:=xap hb0;have hb1:=xap hb1;have hb2:=xap hb2;obtain ⟨cc,b,β,nn,hE,ev,h1,h2,h3,h4,h5⟩:=(zba hL hy).sl_inv;have hhe':optNat L len (some hi')=some hh:=hhe;have hr:=slice_run hL (zhf he) hm (base:=some ⟨b,β+off,none⟩) (len:=len) (c:=cc) (.inr ⟨rfl,rfl,hk,by omega⟩) hhe' hle hb1 hb2 w;have hx:(execOp a.eval o).run P w = .ok (.value (.slice (if k=l then some ⟨b,β+off,none⟩ else (some (⟨b,β+off,none⟩:Addr)).map (·.add (l*m))) (hh - l) (k - l))) w:=by
              simp only [execOp,ho,Instr.sliceAt,xao,xah (zhf he),xae,ev];rw [hr];simp only [xae,xat]
             refine ⟨_,hx,?_⟩;split at h
             ·rename_i hlc;have hlc:=xam hlc;cases h;have:hh - l=0:=by omega
              rw [this];exact .se _ _ (by omega)
             ·rename_i hlc;have hlc:=xcp hlc;cases h;rw [xab (by omega)];simp only [xbl,add_at];rw [xcf];refine .sl _ _ _ _ _ _ _ _ _ _ hE (xaf _) (fun hx=>rfl) ?_ (by omega) (by omega);have e1:(k - l)*m+l*m=k*m:=by rw [<- xcj]; congr 1; omega
              have e2:k*m<=cc*m:=xa6 _ (by omega);omega
            ·cases h
           ·cases h
          ·cases h
         ·cases h
        ·cases h
       ·cases h
      ·cases h
     ·cases h
    ·cases h
   ·cases h
  ·cases h
 ·rename_i t ps ho;split at h
  ·rename_i fs hu;split at h
   ·rename_i z hz;split at h
    ·rename_i hall;split at h
     ·rename_i cs hcs;cases h;obtain ⟨inf,zv,hi,hzv,hzr,_⟩:=zhv (P:=P) (E:=E) hz;have hm:(fs.mapM fun f=>(do pure (f.offset,<- sizeOf f.type):Sem (Nat×Nat))).run P w = .ok (fs.map fun f=>(f.offset,(szOf P f.type).getD 0)) w:=by
       refine run_mapMA _ _ fs fun f hf=>?_;obtain ⟨n,hn⟩:=allSz_get hall hf;simp [zgt hn,hn]
      obtain ⟨us,h1,h2⟩:=fillP_ok hL (fs:=fs) (places:=fs.map fun f=>(f.offset,(szOf P f.type).getD 0)) (fun f fd n hf hn=>by simp [hf,hn]) ps.toList z cs zv.cells.toList hcs hzr;refine ⟨.agg us.toArray,?_,.agg us cs h2.1 h2.2⟩;have hp:(ps.map fun (i,x)=>(i,a.eval x)).toList=ps.toList.map fun p=>(p.1,a.eval p.2):=by simp
      simp only [xec] at h1;simp only [execOp,ho,Instr.build,xao,zeroValue,typeInfo,xew,hi,hzv,xat,xae,xah hu,hm,hp,h1]
     ·cases h
    ·cases h
   ·cases h
  ·rename_i n e hu;split at h
   ·rename_i z hz;split at h
    ·cases h
    ·rename_i k hk;split at h
     ·rename_i cs hcs;cases h;obtain ⟨inf,zv,hi,hzv,hzr,_⟩:=zhv (P:=P) (E:=E) hz;obtain ⟨us,h1,h2,_⟩:=fillE_ok hL (xdg k) ps.toList z cs zv.cells.toList hcs hzr;refine ⟨.agg us.toArray,?_,.agg us cs h2.1 h2.2⟩;have hp:(ps.map fun (i,x)=>(i,a.eval x)).toList=ps.toList.map fun p=>(p.1,a.eval p.2):=by simp
      simp only [xec] at h1;simp only [execOp,ho,Instr.build,xao,zeroValue,typeInfo,xew,hi,hzv,xat,xae,xah hu,zgt hk,hp,h1]
     ·cases h
    ·cases h
   ·cases h
  ·cases h
 ·rename_i f cs ho;split at h
  ·rename_i l hl;cases h;have hr:=zl7 hL hl;refine ⟨.func (.func f) #[] (cs.toList.map a.eval).toArray,?_,.fn _ _ _ hr.1 hr.2⟩;have:(cs.toList.map a.eval).toArray=cs.map a.eval:=by rw [<- xc0]
   simp [execOp,ho,Instr.makeFunc,this]
  ·cases h
 ·cases h
 ·rename_i op t y z t2 ho;split at h
  ·rename_i u hu;split at h
   ·rename_i v hv;have hru:=zba hL hu;have hrv:=zba hL hv;split at h
    ·rename_i c hc;cases h;exact fastB_ok ho hru hrv hc w
    unfold nilB at h;split at h
    ·obtain ⟨b,hb⟩:∃ b,x = .bool b:=by
      unfold nilEq at h;split at h <;> (try split at h) <;> cases h <;> exact ⟨_,rfl⟩
     subst hb;have e1:=nilEq_ok h hru hrv w;have e2:=nilEq_guard h hru hrv .eql y z w;refine ⟨.bool b,?_,.bool b⟩;have e3:(binOp .eql t (a.eval y) (a.eval z)).run P w = .ok (.bool b) w:=by
      have:binOp .eql t (a.eval y) (a.eval z)=(do pure (.bool (<- Op.equal t (a.eval y) (a.eval z)))):=by
       unfold nilEq at h;split at h
       all_goals first | (cases h; done) | skip
       all_goals split at h
       all_goals first | (cases h; done) | skip
       all_goals first
        | (obtain ⟨_,_,_,_,e⟩:=hru.ptr_inv; rw [e,hrv.nilp_inv]; rfl)
        | (obtain ⟨_,_,_,_,e⟩:=hrv.ptr_inv; rw [e,hru.nilp_inv]; rfl)
        | (obtain ⟨_,_,_,_,_,e,_⟩:=hru.sl_inv; rw [e,hrv.nils_inv]; rfl)
        | (obtain ⟨_,_,_,_,_,e,_⟩:=hrv.sl_inv; rw [e,hru.nils_inv]; rfl)
        | (obtain ⟨_,e,_⟩:=hru.fn_inv; rw [e,hrv.nilf_inv]; rfl)
        | (obtain ⟨_,_,_,_,e⟩:=hru.mp_inv; rw [e,hrv.nilm_inv]; rfl)
      rw [this];simp only [xao,e1,xae,xat]
     simp only [execOp,ho,xao,e2,xae,e3,xat]
    ·split at h
     ·cases h;rename_i hq;have e1:=nilEq_ok hq hru hrv w;have e2:=nilEq_guard hq hru hrv .neq y z w;refine ⟨.bool false,?_,.bool _⟩;unfold nilEq at hq;split at hq <;> (try split at hq) <;> cases hq
     ·cases h;rename_i hq;have e1:=nilEq_ok hq hru hrv w;have e2:=nilEq_guard hq hru hrv .neq y z w;refine ⟨.bool true,?_,.bool _⟩;have e3:(binOp .neq t (a.eval y) (a.eval z)).run P w = .ok (.bool true) w:=by
       have:binOp .neq t (a.eval y) (a.eval z)=(do pure (.bool (!(<- Op.equal t (a.eval y) (a.eval z))))):=by
        unfold nilEq at hq;split at hq
        all_goals first | (cases hq; done) | skip
        all_goals split at hq
        all_goals first | (cases hq; done) | skip
        all_goals first
         | (obtain ⟨_,_,_,_,e⟩:=hru.ptr_inv; rw [e,hrv.nilp_inv]; rfl)
         | (obtain ⟨_,_,_,_,e⟩:=hrv.ptr_inv; rw [e,hru.nilp_inv]; rfl)
         | (obtain ⟨_,_,_,_,_,e,_⟩:=hru.sl_inv; rw [e,hrv.nils_inv]; rfl)
         | (obtain ⟨_,_,_,_,_,e,_⟩:=hrv.sl_inv; rw [e,hru.nils_inv]; rfl)
         | (obtain ⟨_,e,_⟩:=hru.fn_inv; rw [e,hrv.nilf_inv]; rfl)
         | (obtain ⟨_,_,_,_,e⟩:=hru.mp_inv; rw [e,hrv.nilm_inv]; rfl)
       rw [this];simp only [xao,e1,xae,xat,xeo]
      simp only [execOp,ho,xao,e2,xae,e3,xat]
     ·cases h
    ·cases h
   ·cases h
  ·cases h
 ·rename_i c ho;split at h
  ·rename_i hc;split at h
   ·rename_i y t hx ht;split at h
    ·rename_i e he;have hu:=zhf he;split at h
     ·rename_i i off n cap ex sz hy;cases h;obtain ⟨cc,b,β,nn,_,ev,_⟩:=(zba hL hy).sl_inv;refine ⟨.int .i64 n,zdp ho hc _ w w ?_,.int _ _⟩;rw [zee hx,zee ht];simp [builtin,Builtin.len_,xah hu,ev,goInt]
     ·rename_i hy;cases h;obtain ⟨ad,cc,ev,_⟩:=(zba hL hy).se_inv;refine ⟨.int .i64 0,zdp ho hc _ w w ?_,.int _ _⟩;rw [zee hx,zee ht];simp [builtin,Builtin.len_,xah hu,ev,goInt]
     ·cases h
    ·cases h
   ·cases h
  ·rename_i hc;split at h
   ·rename_i y t hx ht;split at h
    ·rename_i e he;have hu:=zhf he;split at h
     ·rename_i i off n cap ex hy;cases h;obtain ⟨cc,b,β,nn,_,ev,_,hex,_⟩:=(zba hL hy).sl_inv;have:=hex rfl;subst this;refine ⟨.int .i64 cc,zdp ho hc _ w w ?_,.int _ _⟩;rw [zee hx,zee ht];simp [builtin,Builtin.cap_,xah hu,ev,goInt]
     ·cases h
    ·cases h
   ·cases h
  ·cases h
 ·cases h
end
end Go.Cm
namespace Go.Cm
open Go
section
variable {P:Program}{L:Lo}{H:Hp}{E:Env}{a:Act}{w:World}
theorem zcw {i f:Nat}{cs:List CV}(h:cellsOf H i=some (f,cs)):H.t.get i=some (.cells f cs):=by
 unfold cellsOf at h;split at h
 ·rename_i hg; cases h; exact hg
 ·cases h
theorem sameK_eq {a b:IntKind}(h:sameK a b=true):a=b:=by cases a <;> cases b <;> first | rfl | cases h
theorem sameI_iff {a b:Int}:sameI a b=true↔a=b:=by
 cases a <;> cases b <;> first | (simp [sameI]; done) | (simp [sameI]; omega)
theorem sameL_iff:∀ {a b:List Nat},sameL a b=true↔a=b
 | [],[]=>by simp [sameL]
 | [],_::_=>by simp [sameL]
 | _::_,[]=>by simp [sameL]
 | x::l,y::r=>by
  simp only [sameL];split
  ·rename_i h; rw [sameL_iff (a:=l)]; simp [xam h]
  ·rename_i h; have:=xcp h; simp [this]
theorem bytes_inj {l r:List Nat}(hl:∀ b∈l,b<256)(hr:∀ b∈r,b<256)(h:l.map UInt8.ofNat=r.map UInt8.ofNat):l=r:=by
 have key:∀ l:List Nat,(∀ b∈l,b<256)->(l.map UInt8.ofNat).map UInt8.toNat=l:=by
  intro l hl;rw [xdd]
  conv=>rhs; rw [<- List.map_id l]
  refine xff fun b hb=>?_;have:=hl b hb;simp [Function.comp,xbw,xb9 this]
 rw [<- key l hl,<- key r hr,h]
theorem sameNow_ok {kt:TypeId}{k x:CV}{u v:Value}{b:Bool}(hk:keyT P kt k=true)(h:sameV k x=some b)(hu:RC E u k)(hv:RC E v x):∃ d,P.underlying kt=some d/\Instr.sameNow d u v=some b:=by
 unfold sameV at h;split at h
 ·rename_i kd n kd' m;split at h
  ·rename_i hs;have hs:=sameK_eq hs;subst hs;cases h;unfold keyT at hk
   try simp only at hk
   split at hk
   ·rename_i k2 hd;refine ⟨_,hd,?_⟩;cases hu; cases hv;simp only [Instr.sameNow,xc1];congr 1;rw [xb0,sameI_iff]; simp
   ·cases hk
  ·cases h
 ·rename_i l r;cases h;unfold keyT at hk
  try simp only at hk
  split at hk
  ·rename_i hd;refine ⟨_,hd,?_⟩;obtain ⟨rfl,h1⟩:=hu.str_inv;obtain ⟨rfl,h2⟩:=hv.str_inv;simp only [Instr.sameNow];congr 1;rw [xb0,sameL_iff];have hbq:∀ x y:Array UInt8,(ByteArray.mk x == ByteArray.mk y)=(x == y):=fun _ _=>rfl;rw [hbq];constructor
   ·intro h;have:=eq_of_beq h;exact bytes_inj h1 h2 (by simpa using congrArg Array.toList this)
   ·rintro rfl; exact beq_self_eq_true _
  ·cases hk
 ·cases h
abbrev EntR (E:Env)(e:MapEntry)(p:CV×CV):Prop:=RC E e.key p.1/\RC E e.val p.2
theorem findV_ok {kt:TypeId}{k:CV}{u:Value}(hk:keyT P kt k=true)(hu:RC E u k){d:TypeDesc}(hd:P.underlying kt=some d):∀ {es:List (CV×CV)} {ms:List MapEntry} {r:Option CV} {i:Nat},findV k es=some r->All2 (EntR E) ms es->
  ∃ q,Instr.findNow d u ms i=some q/\match r with
   | some c=>∃ j v,q=some (i+j,v)/\RC E v c
   | none=>q=none
 | [],ms,r,i,h,hm=>by
  cases h;rw [hm.inv0];exact ⟨none,rfl,rfl⟩
 | (x,c)::es,ms,r,i,h,hm=>by
  obtain ⟨m,ms',rfl,hr,ht⟩:=hm.inv;simp only [findV] at h;split at h
  ·rename_i hs;cases h;obtain ⟨d',hd',he⟩:=sameNow_ok hk hs hu hr.1;rw [hd] at hd'; cases hd';refine ⟨some (i,m.val),by simp only [Instr.findNow,he],0,m.val,rfl,hr.2⟩
  ·rename_i hs;obtain ⟨d',hd',he⟩:=sameNow_ok hk hs hu hr.1;rw [hd] at hd'; cases hd';obtain ⟨q,h1,h2⟩:=findV_ok hk hu hd (i:=i+1) h ht;refine ⟨q,by simp only [Instr.findNow,he]; exact h1,?_⟩;cases r with
   | none=>exact h2
   | some c'=>obtain ⟨j,v,e1,e2⟩:=h2; exact ⟨j+1,v,by rw [e1]; congr 2; omega,e2⟩
  ·cases h
theorem keyT_und {kt:TypeId}{k:CV}(hk:keyT P kt k=true):∃ d,P.underlying kt=some d:=by
 unfold keyT at hk;split at hk
 ·split at hk
  ·rename_i h; exact ⟨_,h⟩
  ·cases hk
 ·split at hk
  ·rename_i h; exact ⟨_,h⟩
  ·cases hk
 ·cases hk
theorem checkKey_ok {kt:TypeId}{k:CV}{u:Value}(hk:keyT P kt k=true)(hu:RC E u k)(e:Bool):(Instr.checkKey e 10000 kt u).run P w = .ok () w:=by
 have e0:(10000:Nat)=9999+1:=rfl;rw [e0];unfold Instr.checkKey;unfold keyT at hk;split at hk
 ·split at hk
  ·rename_i h;cases hu;simp only [xao,xah h,xae]; rfl
  ·cases hk
 ·split at hk
  ·rename_i h;obtain ⟨rfl,_⟩:=hu.str_inv;simp only [xao,xah h,xae]; rfl
  ·cases hk
 ·cases hk
theorem zeroV_run {t:TypeId}{c:CV}(h:zeroV P t=some c):∃ v,(zeroValue t).run P w = .ok v w/\RC E v c:=by
 unfold zeroV at h;split at h
 ·rename_i i hi;split at h
  ·rename_i z hz;exact ⟨z,by simp [zeroValue,typeInfo,hi,hz],zjs h⟩
  ·cases h
 ·cases h
theorem byteOf_eq {v:Value}{c:CV}{n:Nat}(h:zgy c=some n)(hr:RC E v c):v = .int .u8 (n:Int)/\n<256:=by
 unfold zgy at h;split at h
 ·split at h
  ·rename_i hb;cases h; cases hr;exact ⟨rfl,by simpa [xcx] using hb⟩
  ·cases h
 ·cases h
theorem byteT_eq {t:TypeId}(h:byteT P t=true):∃ e,P.underlying t=some (.slice e)/\P.underlying e=some (.int .u8):=by
 unfold byteT at h;split at h
 ·rename_i e he;split at h
  ·rename_i h2; exact ⟨e,he,h2⟩
  ·cases h
 ·cases h
theorem evalRead_ok {o:Oper}{x:CV}(h:evalRead P L H o=some x)(hL:Loc E L.get a)(hH:HOk E H.t.get w):∃ v,(execOp a.eval o).run P w = .ok (.value v) w/\RC E v x:=by
 unfold evalRead evalRead_load evalRead_lookup evalRead_convert at h;split at h
 ·rename_i t y ho;split at h
  ·rename_i i off hy;split at h
   ·rename_i f cs hc;obtain ⟨b,β,n,hE,ev⟩:=(zba hL hy).ptr_inv;obtain ⟨b',β',n',ty,fr,vs,e1,e2,e3,e4,e5,e6⟩:=hH.blk i _ (zcw hc);rw [hE] at e1; cases e1;obtain ⟨v,h1,h2⟩:=load_run h e2 e6;exact ⟨v,by simp [execOp,ho,ev,Instr.loadAt,Instr.sureAddr,h1],h2⟩
   ·cases h
  ·cases h
 ·rename_i t y z ok ho;split at h
  ·rename_i k hk;split at h
   ·rename_i kt e hu;split at h
    ·rename_i hkt;split at h
     ·rename_i i hy;split at h
      ·rename_i es hes;obtain ⟨b,β,n,hE,ev⟩:=(zba hL hy).mp_inv;obtain ⟨b',β',n',ents,clock,e1,e2,e3⟩:=hH.blk i _ hes;rw [hE] at e1; cases e1;have hkr:=zba hL hk;obtain ⟨d,hd⟩:=keyT_und hkt;have hget:(getObj b).run P w = .ok (.map ents clock) w:=by simp [getObj,Sem.run,e2]
       have hck:=fun e=>checkKey_ok (w:=w) hkt hkr e;split at h
       ·rename_i c hf;obtain ⟨q,h1,h2⟩:=findV_ok hkt hkr hd (i:=0) hf e3;obtain ⟨j,v,rfl,hr⟩:=h2;have hrun:∀ ok,(Instr.lookup t (.map (some b)) (a.eval z) ok).run P w = .ok (if ok then .tuple #[v,.bool true] else v) w:=by
         intro ok;simp only [Instr.lookup,xao,xah hu,xae,hget,xat,hck,Instr.findKey,xah hd,h1]
        split at h
        ·cases h;refine ⟨.tuple #[v,.bool true],by simp [execOp,ho,ev,hrun],?_⟩;exact .tup [v,.bool true] _ rfl (All2.cons hr (All2.cons (.bool true) .nil)).2
        ·cases h;exact ⟨v,by simp [execOp,ho,ev,hrun],hr⟩
       ·rename_i hf;obtain ⟨q,h1,h2⟩:=findV_ok hkt hkr hd (i:=0) hf e3;simp only at h2;subst h2;split at h
        ·rename_i c hz;obtain ⟨v,hv,hr⟩:=zeroV_run (w:=w) (E:=E) hz;have hrun:∀ ok,(Instr.lookup t (.map (some b)) (a.eval z) ok).run P w = .ok (if ok then .tuple #[v,.bool false] else v) w:=by
          intro ok;simp only [Instr.lookup,xao,xah hu,xae,hget,xat,hck,Instr.findKey,xah hd,h1,hv]
         split at h
         ·cases h;refine ⟨.tuple #[v,.bool false],by simp [execOp,ho,ev,hrun],?_⟩;exact .tup [v,.bool false] _ rfl (All2.cons hr (All2.cons (.bool false) .nil)).2
         ·cases h;exact ⟨v,by simp [execOp,ho,ev,hrun],hr⟩
        ·cases h
       ·cases h
      ·cases h
     ·cases h
    ·cases h
   ·cases h
  ·cases h
 ·rename_i s t y ho;split at h
  ·rename_i i off len cap ex sz hy;split at h
   ·rename_i ht;split at h
    ·rename_i hs;split at h
     ·rename_i f cs hc;split at h
      ·rename_i r hr;split at h
       ·rename_i l hl;cases h;obtain ⟨cc,b,β,n,hE,ev,_⟩:=(zba hL hy).sl_inv;obtain ⟨b',β',n',ty,fr,vs,e1,e2,e3,e4,e5,e6⟩:=hH.blk i _ (zcw hc);rw [hE] at e1; cases e1;obtain ⟨e,he1,he2⟩:=byteT_eq hs;obtain ⟨us,u1,u2,_,_,u5⟩:=zm8 e2 e6 hr;obtain ⟨s1,s2⟩:=seqL_eq hl;have hll:l.length=len:=by rw [<- s1,<- u2.1,u1]
        have hb:∀ (j n:Nat),l[j]?=some n->us[j]?=some (Value.int .u8 (n:Int))/\n<256:=fun j n hj=>by
         have hjl:=(xac.1 hj).1;have hrj:r[j]?=some r[j]:=xag (by omega);obtain ⟨v,g1,g2⟩:=u2.get hrj;obtain ⟨rfl,g3⟩:=byteOf_eq (s2 j _ n hrj hj) g2;exact ⟨g1,g3⟩
        have hlt:∀ n∈l,n<256:=fun n hn=>by
         obtain ⟨j,hj⟩:=xcc hn;exact (hb j n hj).2
        refine ⟨.string ⟨(l.map UInt8.ofNat).toArray⟩,?_,.str l hlt⟩;have hrun:=run_convert_bytes_back (P:=P) w s t e ⟨b,β+off,none⟩ cc (l.map UInt8.ofNat) he1 he2 ht (fun j hj=>by
         rw [add_at];have hj':j<l.length:=by simpa using hj
         obtain ⟨g1,g2⟩:=hb j _ (xag hj');rw [u5 j _ g1];simp only [List.getElem_map,xbw,xb9 g2])
        rw [xa5,hll] at hrun;simp [execOp,ho,ev,hrun]
       ·cases h
      ·cases h
     ·cases h
    ·cases h
   ·cases h
  ·cases h
 ·cases h
def Makes (P:Program)(E:Env)(a:Act)(w:World)(n:Nat)(o:Oper)(x:CV)(B:Blk):Prop:=
 E n=none->∃ v w' ob m,(execOp a.eval o).run P w = .ok (.value v) w'/\Pushed w w' ob/\(∀ E',E.le E'->E' n=some (w.heap.size,0,m)->RC E' v x/\BOk E' w' n B)
theorem CellsOk_of {vs:List Value}{cs:List CV}(h:RCs E vs cs)(hc:zat cs=true):CellsOk E vs.toArray 0 cs:=fun j c hj=>by
 obtain ⟨v,h1,h2⟩:=h.get hj;exact ⟨v,by simpa using h1,h2,zeu hc hj⟩
theorem thaw0 (n:Nat):Thaw (0,0) n:=fun o _ h=>by omega
theorem BOk_new {w w':World}{vs:List Value}{ty:TypeId}{n m f:Nat}{cs:List CV}{E E':Env}(hp:Pushed w w' (.cells vs.toArray ty))(hE:E.le E')(he:E' n=some (w.heap.size,0,m))(hm:vs.length=m)(hr:RCs E vs cs)(hc:zat cs=true):BOk E' w' n (.cells f cs):=
 ⟨_,_,_,ty,(0,0),vs.toArray,he,hp.new,thaw0 _,by simpa using hm,by rw [<- hr.1,hm]; omega,(CellsOk_of hr hc).mono hE⟩
theorem rep_get {α:Type}(l:List α):∀ (n j:Nat) (x:α),(rep l n)[j]?=some x->j<n*l.length/\l[j % l.length]?=some x
 | 0,j,x,h=>by simp [rep] at h
 | n+1,j,x,h=>by
  simp only [rep] at h;rw [xcj,Nat.one_mul];by_cases hj:j<l.length
  ·rw [xak hj] at h;exact ⟨by omega,by rw [xb9 hj]; exact h⟩
  ·rw [xas (by omega)] at h;obtain ⟨h1,h2⟩:=rep_get l n _ x h;refine ⟨by omega,?_⟩;have:j % l.length=(j - l.length) % l.length:=by
    conv=>lhs; rw [show j=(j - l.length)+l.length by omega]
    rw [Nat.add_mod_right]
   rw [this]; exact h2
theorem rep_len {α:Type}(l:List α):∀ n,(rep l n).length=n*l.length
 | 0=>by simp [rep]
 | n+1=>by simp only [rep,xaa,rep_len l n,xcj,Nat.one_mul]; omega
theorem rep_all {l:List CV}(h:zat l=true):∀ n,zat (rep l n)=true
 | 0=>rfl
 | n+1=>zmj h (rep_all h n)
theorem rep_rel {zs:List Value}{z:List CV}(h:RCs E zs z)(n:Nat):RCs E ((List.range (n*z.length)).map fun x=>zs.toArray[x % zs.toArray.size]!) (rep z n):=by
 refine ⟨by simp [rep_len],fun j v c hv hc=>?_⟩;obtain ⟨h1,h2⟩:=rep_get z n j c hc;rw [xbf,xdu h1] at hv;simp only [xbl,Option.some.injEq] at hv;subst hv;obtain ⟨u,hu,hr⟩:=h.get h2;have hsz:zs.toArray.size=z.length:=by simpa using h.1
 rw [hsz];have hlt:=(xac.1 hu).1;have:zs.toArray[j % z.length]! = u:=by
  rw [getElem!_pos zs.toArray _ (by simpa using hlt)];have:=(xac.1 hu).2;simpa using this
 rw [this]; exact hr
theorem evalMake_ok {o:Oper}{n:Nat}{x:CV}{B:Blk}(h:zom P L n o=some (x,B))(hL:Loc E L.get a)(w:World):Makes P E a w n o x B:=by
 intro hn;unfold zom zmh evalMake_box zhp zh5 zl9 zjw at h;split at h
 ·rename_i t ho;split at h
  ·rename_i z hz;cases h;obtain ⟨inf,zv,hi,hzv,hzr,hzc⟩:=zhv (P:=P) (E:=E) hz;have hp:Pushed w (w.alloc (.cells zv.cells.toList.toArray t)) (.cells zv.cells.toList.toArray t):=⟨rfl,rfl,rfl,rfl⟩;refine ⟨.pointer (some ⟨w.heap.size,0,none⟩),_,_,zv.cells.toList.length,?_,hp,fun E' hE he=>⟨?_,BOk_new hp hE he rfl hzr hzc⟩⟩
   ·simp [execOp,ho,Instr.alloc,zeroValue,typeInfo,hi,hzv,newVar,newRow]
   ·have:=RC.ptr (E:=E') n 0 _ _ _ he;simpa using this
  ·cases h
 ·rename_i t y ho;split at h
  ·rename_i v hv;split at h
   ·rename_i hc;cases h;obtain ⟨hr,hac⟩:=cellsOk_of (zba hL hv) hc;have hp:Pushed w (w.alloc (.cells (a.eval y).cells.toList.toArray t)) (.cells (a.eval y).cells.toList.toArray t):=⟨rfl,rfl,rfl,rfl⟩;refine ⟨.pointer (some ⟨w.heap.size,0,none⟩),_,_,(a.eval y).cells.toList.length,?_,hp,fun E' hE he=>⟨?_,BOk_new hp hE he rfl hr hac⟩⟩
    ·simp [execOp,ho,Instr.box,newVar,newRow]
    ·have:=RC.ptr (E:=E') n 0 _ _ _ he;simpa using this
   ·cases h
  ·cases h
 ·rename_i t len ps ho;split at h
  ·rename_i e he;split at h
   ·cases h
   ·rename_i s hs;split at h
    ·rename_i z hz;split at h
     ·rename_i hzl;split at h
      ·rename_i hle;split at h
       ·rename_i cs hcs;cases h;have hzl:=xam hzl;have hle:=xap hle;obtain ⟨inf,zv,hi,hzv,hzr,hzc⟩:=zhv (P:=P) (E:=E) hz;have hrep:=rep_rel hzr len;rw [hzl] at hrep;obtain ⟨us,h1,h2,h3⟩:=fillE_ok hL (xdg s) ps.toList _ cs _ hcs hrep;have hac:=h3 (rep_all hzc len);have hul:us.length=len*(s+1):=by
         have e1:cs.length=(rep z len).length:=by
          clear h1 h2 h3 hac;have:∀ (ps:List (Nat×Operand)) (c out:List CV),fillE (s+1) L ps c=some out->out.length=c.length:=by
           intro ps
           induction ps with
           | nil=>intro c out h; cases h; rfl
           | cons p ps ih=>
            intro c out h;obtain ⟨i,x⟩:=p;simp only [fillE] at h;split at h
            ·split at h
             ·rename_i hq;split at h
              ·split at h
               ·rename_i cs' hset;rw [ih _ _ h];obtain ⟨g1,g2⟩:=zfh _ _ _ _ hset;have hq:=xam hq;have g2:=g2 (by intro h0; rw [h0] at hq; cases hq);rw [g1]; simp; omega
               ·cases h
              ·cases h
             ·cases h
            ·cases h
          exact this _ _ _ hcs
         rw [h2.1,e1,rep_len,hzl]
        have hp:Pushed w (w.alloc (.cells us.toArray e)) (.cells us.toArray e):=⟨rfl,rfl,rfl,rfl⟩;refine ⟨.slice (some ⟨w.heap.size,0,none⟩) len len,_,_,us.length,?_,hp,fun E' hE he'=>⟨?_,BOk_new hp hE he' rfl h2 hac⟩⟩
        ·have hpp:(ps.map fun (i,x)=>(i,a.eval x)).toList=ps.toList.map fun p=>(p.1,a.eval p.2):=by simp
         have hfill:Instr.fill (fun i=>some (i*(s+1),s+1)) ((Array.range (len*(s+1))).map (fun x=>zv.cells[x % zv.cells.size]!)) (ps.toList.map fun p=>(p.1,a.eval p.2))=some us.toArray:=by
          rw [<- h1];congr 1;apply Array.ext';simp
         have hsz:=zgt (w:=w) hs;by_cases h0:len*(s+1)=0
         ·have hr0:(Array.range (len*(s+1))).map (fun x=>zv.cells[x % zv.cells.size]!)=#[]:=by rw [h0]; simp
          have hr2:(Array.range (len*(s+1))).map (fun x=>(#[]:Array Value)[x % (#[]:Array Value).size]!)=#[]:=by rw [h0]; simp
          rw [hr0] at hfill;simp only [execOp,ho,Instr.buildSlice,xao,xah (zhf he),xae,hsz,xab (show ¬ (len*(s+1) > 2 ^ 24) by omega),xad h0,xat,hr2,hpp,hfill,newRow];simp
         ·simp only [execOp,ho,Instr.buildSlice,xao,xah (zhf he),xae,hsz,xab (show ¬ (len*(s+1) > 2 ^ 24) by omega),xab h0,zeroValue,typeInfo,hi,hzv,xat,hpp,hfill,newRow];simp [hi,hzv];rw [hfill];simp
        ·have:=RC.sl (E:=E') n 0 len len true (s+1) len _ _ _ he' (xaf _) (fun _=>rfl) (by rw [hul]; omega) (by unfold maxLen; have:len<=len*(s+1):=xde _ (by omega); omega) (xaf _);simpa using this
       ·cases h
      ·cases h
     ·cases h
    ·cases h
   ·cases h
  ·cases h
 ·rename_i t y z ho;split at h
  ·rename_i cx hcx;split at h
   ·rename_i l hl;split at h
    ·rename_i cy hcy;split at h
     ·rename_i c hc;split at h
      ·rename_i hle;split at h
       ·rename_i e he;split at h
        ·rename_i sz hsz;split at h
         ·rename_i zc hz;split at h
          ·rename_i by' hby
           split at h
           ·rename_i hok;cases h;obtain ⟨hk1,hk⟩:=xa2.1 hok;obtain ⟨hk2,hk3⟩:=xa2.1 hk;have hk1:=xam hk1;have hk2:=xap hk2;have hk3:=xap hk3;have hle:=xap hle;obtain ⟨k1,e1⟩:=natOf_eq hl (zba hL hcx);obtain ⟨k2,e2⟩:=natOf_eq hc (zba hL hcy);obtain ⟨inf,zv,hi,hzv,hzr,hzc⟩:=zhv (P:=P) (E:=E) hz;have hbi:inf.bytes=by':=by unfold bytesT at hby; rw [hi] at hby; cases hby; rfl
            have hsi:inf.size=sz:=by unfold szOf at hsz; rw [hi] at hsz; cases hsz; rfl
            have hbb:(inf.bytes:Int)*(c:Int)<=281474976710656:=by
             rw [hbi,<- xc3]; omega
            have hrun:=run_make (P:=P) w t e inf zv (zhf he) hi hzv k1 k2 (l:Int) (c:Int) (by omega) (by omega) hbb (by omega);simp only [xbs] at hrun;have hrep:=rep_rel hzr c;have hcells:madeCells zv.cells (c*inf.size)=((List.range (c*zc.length)).map fun x=>zv.cells.toList.toArray[x % zv.cells.toList.toArray.size]!).toArray:=by
             rw [hsi,<- hk1];apply Array.ext';simp [madeCells]
            rw [hcells] at hrun;generalize ((List.range (c*zc.length)).map fun x=>zv.cells.toList.toArray[x % zv.cells.toList.toArray.size]!)=us at hrun hrep;have hul:us.length=c*sz:=by rw [hrep.1,rep_len,hk1]
            have hp:Pushed w (w.alloc (.cells us.toArray e)) (.cells us.toArray e):=⟨rfl,rfl,rfl,rfl⟩;refine ⟨.slice (some ⟨w.heap.size,0,none⟩) l c,_,_,us.length,by simp [execOp,ho,e1,e2,hrun],hp,fun E' hE he'=>⟨?_,BOk_new hp hE he' rfl hrep (rep_all hzc c)⟩⟩;have:=RC.sl (E:=E') n 0 l c true sz c _ _ _ he' (xaf _) (fun _=>rfl) (by rw [hul]; omega) (by unfold maxLen; omega) hle;simpa using this
           ·cases h
          ·cases h
         ·cases h
        ·cases h
       ·cases h
      ·cases h
     ·cases h
    ·cases h
   ·cases h
  ·cases h
 ·rename_i t ho;cases h;have hp:Pushed w (w.alloc (.map #[] 0)) (.map #[] 0):=⟨rfl,rfl,rfl,rfl⟩;refine ⟨.map (some w.heap.size),_,_,0,?_,hp,fun E' hE he=>⟨.mp n _ _ _ he,⟨_,_,_,#[],0,he,hp.new,.nil⟩⟩⟩;simp only [execOp,ho]; rfl
 ·rename_i t y ho;split at h
  ·rename_i hu;split at h
   ·rename_i l hl;cases h;obtain ⟨ev,hb⟩:=(zba hL hl).str_inv;have hp:Pushed w (w.alloc (.stringIter ⟨(l.map UInt8.ofNat).toArray⟩ 0)) (.stringIter ⟨(l.map UInt8.ofNat).toArray⟩ 0):=⟨rfl,rfl,rfl,rfl⟩;refine ⟨.pointer (some ⟨w.heap.size,0,none⟩),_,_,0,?_,hp,fun E' hE he=>⟨?_,⟨_,_,he,hp.new,hb⟩⟩⟩
    ·simp only [execOp,ho,ev,Instr.range,xao,xah hu,xae]; rfl
    ·have:=RC.ptr (E:=E') n 0 _ _ _ he;simpa using this
   ·cases h
  ·cases h
 ·rename_i s t y ho;split at h
  ·rename_i l hl;split at h
   ·rename_i hu;split at h
    ·rename_i ht;split at h
     ·rename_i hlm;have hlm:=xap hlm;cases h;obtain ⟨ev,hb⟩:=(zba hL hl).str_inv;obtain ⟨e,he1,he2⟩:=byteT_eq ht;have hrun:=run_bytes_of_string (P:=P) w s t e ⟨(l.map UInt8.ofNat).toArray⟩ hu he1 he2;have hsl:(ByteArray.mk (l.map UInt8.ofNat).toArray).size=l.length:=by simp [ByteArray.size]
      rw [hsl] at hrun;have hGm:=xdz w l.length 0 e (by unfold maxLen; omega);have hGl:=xfc w l.length 0 e;generalize grownCap w l.length 0 e=G at hrun hGm hGl;have hbs:(bytesRow ⟨(l.map UInt8.ofNat).toArray⟩ G).size=G:=by
       simp [bytesRow,ByteArray.size]; omega
      rw [hbs] at hrun;have hp:Pushed w (w.drew.alloc (.cells (bytesRow ⟨(l.map UInt8.ofNat).toArray⟩ G) e (G,G+1))) (.cells (bytesRow ⟨(l.map UInt8.ofNat).toArray⟩ G) e (G,G+1)):=⟨rfl,rfl,rfl,rfl⟩;refine ⟨.slice (some ⟨w.heap.size,0,none⟩) l.length G,_,_,G,by simp [execOp,ho,ev,hrun],hp,fun E' hE he'=>⟨?_,⟨_,_,_,e,(G,G+1),_,he',hp.new,fun o h1 h2=>by omega,hbs,by simp; omega,fun j c hj=>?_⟩⟩⟩
      ·have:=RC.sl (E:=E') n 0 l.length l.length false 1 G _ _ _ he' hGl (fun h=>by cases h) (by omega) hGm (xaf _);simpa using this
      ·rw [xbf] at hj;obtain ⟨b,hbj,rfl⟩:=xay.1 hj;have hjl:=(xac.1 hbj).1;have hb256:=hb b (xbk hbj);refine ⟨.int .u8 (b:Int),?_,.int _ _,rfl⟩;rw [xbr,bytesRow,xc5 (by simpa using hjl)];simp only [Array.getElem?_map,xa1,xbf,hbj,xbl,xbw,xb9 hb256]
     ·cases h
    ·cases h
   ·cases h
  ·cases h
 ·cases h
end
end Go.Cm
