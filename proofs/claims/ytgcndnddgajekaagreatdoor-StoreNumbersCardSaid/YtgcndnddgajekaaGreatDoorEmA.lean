/- The machine over the model's code, part EmA. -/
import Derived.Test.YtgcndnddgajekaaGreatDoorAl
import Derived.WalkKit
import Derived.LoopN
import Derived.Laws.AppendOwn
import Derived.Laws.OwnMore
set_option linter.unnecessarySimpa false
set_option linter.constructorNameAsVariable false
set_option linter.unusedSectionVars false
set_option linter.unusedSimpArgs false
set_option linter.unusedVariables false
namespace Go.Dm
open Go
abbrev B8:=List UInt8
abbrev B9:=List B8
abbrev Mem:=Nat->Nat->Option Value
inductive AV where
 | int (k:IntKind) (n:Int)
 | bool (b:Bool)
 | str (s:List UInt8)
 | nils
 | sl (sz:Nat) (xs:List AV)
 | rp (x:AV)
 | nilp
 | nilfn
 | nilmp
 | raw (v:Value)
 | row (i vr:Nat)
 | rowv (i vr off n:Nat)
 | ptr (i off:Nat)
 | ep (i vr k off:Nat)
 | aptr (i k off:Nat)
 | mp (i:Nat)
 | fn (f:FuncId) (caps:List AV)
 | popt (b:Bool) (x:AV)
 | own (ty sz k:Nat) (xs:List AV)
 | ub (p q:Bool)
 | ifc (b:Bool)
 | agg (cs:List AV)
 | tup (vs:List AV)
 | any
 | when (cs:List (Nat×Bool)) (x:AV)
instance:Inhabited AV:=⟨.any⟩
def allB:List (Nat×Bool)->Bool
 | []=>true
 | (_,c)::l=>c&&allB l
def AV.cells:AV->List AV
 | .agg cs=>cs
 | x=>[x]
def zc0 (xs:List AV):List AV:=xs.flatMap AV.cells
inductive RelP (M:Mem):Value->AV->Prop
 | int (k:IntKind) (n:Int):RelP M (.int k n) (.int k n)
 | bool (b:Bool):RelP M (.bool b) (.bool b)
 | str (s:List UInt8):RelP M (.string ⟨s.toArray⟩) (.str s)
 | nils:RelP M (.slice none 0 0) .nils
 | sl (a:Option Addr) (n c sz:Nat) (xs:List AV) (f:Nat->Value) (hn:xs.length=n) (hc:n<=c) (hb:c<=maxLen)
   (hz:∀ x∈xs,x.cells.length=sz)
   (ha:xs≠[]->∃ blk off,a=some ⟨blk,off,none⟩/\∀ j,j<(zc0 xs).length->M blk (off+j)=some (f j))
   (hf:∀ (j:Nat) (u:AV),(zc0 xs)[j]?=some u->RelP M (f j) u):RelP M (.slice a n c) (.sl sz xs)
 | rp (blk off:Nat) (x:AV) (f:Nat->Value) (ha:∀ j,j<x.cells.length->M blk (off+j)=some (f j))
   (hf:∀ (j:Nat) (u:AV),x.cells[j]?=some u->RelP M (f j) u):RelP M (.pointer (some ⟨blk,off,none⟩)) (.rp x)
 | nilp:RelP M (.pointer none) .nilp
 | nilfn:RelP M .nilFunc .nilfn
 | nilmp:RelP M (.map none) .nilmp
 | raw (v:Value) (h:v.oneCell'=true):RelP M v (.raw v)
 | ub (b p q:Bool) (h1:b=true->p=true) (h2:b=false->q=true):RelP M (.bool b) (.ub p q)
 | ifcN:RelP M .nilIface (.ifc true)
 | ifcS (t:TypeId) (p:Value):RelP M (.iface t p) (.ifc false)
structure RwE where
 a:Option Addr
 n:Nat
 c:Nat
 sz:Nat
 ver:Nat
structure Env where
 bx:Nat->Option Nat
 rw:Nat->Option RwE
 mp:Nat->Option Nat
 ar:Nat->Option (List Nat)
 own:Nat->Option (Nat×Nat×Nat)
def viewA (q:RwE)(off:Nat):Option Addr:=if off=0 then q.a else q.a.map (·.add (off*q.sz))
inductive RelS (M:Mem)(E:Env):Value->AV->Prop
 | pure {v:Value} {x:AV} (h:RelP M v x):RelS M E v x
 | ptr (i off b:Nat) (h:E.bx i=some b):RelS M E (.pointer (some ⟨b,off,none⟩)) (.ptr i off)
 | row (i vr n c:Nat) (a:Option Addr) (q:RwE) (hq:E.rw i=some q) (hv:vr<=q.ver) (h:vr=q.ver->a=q.a/\n=q.n/\c=q.c):RelS M E (.slice a n c) (.row i vr)
 | rowv (i vr off m n c:Nat) (a:Option Addr) (q:RwE) (hq:E.rw i=some q) (hv:vr<=q.ver) (h:vr=q.ver->n=m/\(off=0->a=q.a)/\(c≠0->a=viewA q off)/\off+c=q.c/\n<=c):RelS M E (.slice a n c) (.rowv i vr off m)
 | ep (i vr k off:Nat) (ad:Addr) (q:RwE) (hq:E.rw i=some q) (hv:vr<=q.ver) (h:vr=q.ver->∃ blk,q.a=some ⟨blk,0,none⟩/\ad=⟨blk,k*q.sz+off,none⟩):RelS M E (.pointer (some ad)) (.ep i vr k off)
 | aptr (i k off:Nat) (bs:List Nat) (b:Nat) (h:E.ar i=some bs) (hk:bs[k]?=some b):RelS M E (.pointer (some ⟨b,off,none⟩)) (.aptr i k off)
 | mp (i r:Nat) (h:E.mp i=some r):RelS M E (.map (some r)) (.mp i)
 | any {v:Value} (h:v.oneCell'=true):RelS M E v .any
 | popt {v:Value} (b:Bool) (x:AV) (ht:b=true->RelS M E v x) (hf:b=false->v = .pointer none):RelS M E v (.popt b x)
 | fn (f:FuncId) (vs:List Value) (cs:List AV) (hl:vs.length=cs.length)
   (h:∀ (j:Nat) (v:Value) (c:AV),vs[j]?=some v->cs[j]?=some c->RelS M E v c):RelS M E (.func (.func f) #[] vs.toArray) (.fn f cs)
inductive Rel (M:Mem)(E:Env):Value->AV->Prop
 | cell {v:Value} {x:AV} (h:RelS M E v x):Rel M E v x
 | agg (vs:List Value) (cs:List AV) (hl:vs.length=cs.length)
   (h:∀ (j:Nat) (v:Value) (c:AV),vs[j]?=some v->cs[j]?=some c->RelS M E v c):Rel M E (.agg vs.toArray) (.agg cs)
 | tup (vs:List Value) (cs:List AV) (hl:vs.length=cs.length)
   (h:∀ (j:Nat) (v:Value) (c:AV),vs[j]?=some v->cs[j]?=some c->Rel M E v c):Rel M E (.tuple vs.toArray) (.tup cs)
 | any (v:Value):Rel M E v .any
 | when (v:Value) (c:List (Nat×Bool)) (x:AV) (h:allB c=true->Rel M E v x) (hu:allB c=false->v=undef):Rel M E v (.when c x)
structure Rw where
 ty:TypeId
 sz:Nat
 ver:Nat
 k:Nat
 cm:Nat
 nl:Bool
 pu:Nat
 ns:List Nat
 xs:List AV
structure Arn where
 ty:TypeId
 sz:Nat
 ns:List Nat
 xs:List AV
structure S where
 fr:List (Nat×AV)
 bx:List (Nat×List AV)
 rw:List (Nat×Rw)
 mp:List (Nat×List (AV×AV))
 ar:List (Nat×Arn)
def zan {α:Type}:List (Nat×α)->Nat->Option α
 | [],_=>none
 | (j,v)::l,i=>match Nat.beq i j with
  | true=>some v
  | false=>zan l i
def memN (i:Nat):List Nat->Bool
 | []=>false
 | j::l=>match Nat.beq i j with
  | true=>true
  | false=>memN i l
theorem zbc {i j:Nat}(h:Nat.beq i j=true):i=j:=xam h
theorem beq_false {i j:Nat}(h:Nat.beq i j=false):i≠j:=xcp h
theorem zai {α:Type}(j:Nat)(v:α)(l:List (Nat×α))(i:Nat):zan ((j,v)::l) i=if i=j then some v else zan l i:=by
 simp only [zan];split
 ·rename_i h; rw [xad (zbc h)]
 ·rename_i h; rw [xab (beq_false h)]
theorem zdn {α:Type}(a b:List (Nat×α))(i:Nat):zan (a++b) i=match zan a i with | some v=>some v | none=>zan b i:=by
 induction a with
 | nil=>rfl
 | cons p a ih=>
  obtain ⟨j,v⟩:=p;rw [xbn,zai,zai];split
  ·rfl
  ·exact ih
def Env.arO (E:Env)(ns:List Nat):Env:=⟨fun _=>none,fun _=>none,fun _=>none,fun i=>if memN i ns then E.ar i else none,E.own⟩
def Env.arP (E:Env)(ns:List Nat):Nat->Env
 | 0 | 1 | 2=>E.arO ns
 | _=>E
theorem Env.arP_own (E:Env)(ns:List Nat)(pu:Nat):(E.arP ns pu).own=E.own:=by
 match pu with
 | 0 | 1 | 2 | n+3=>rfl
inductive RelC (M:Mem)(E:Env)(w:World)(kd i p:Nat):Value->AV->Prop
 | rel {v:Value} {x:AV} (h:RelS M E v x):RelC M E w kd i p v x
 | own (ty sz k:Nat) (ys:List AV) (a:Option Addr) (n c:Nat) (hn:n=ys.length) (hc:n<=c) (hm:c<=maxLen) (hz:∀ x∈ys,x.cells.length=sz) (hk:k<=n)
   (hb:c=0\/∃ (blk:Nat) (vs:Array Value),a=some ⟨blk,0,none⟩/\E.own blk=some (kd,i,p)/\w.heap[blk]?=some (.cells vs ty (0,0))/\vs.size=c*sz/\
    ∀ (j:Nat) (u:AV),(zc0 ys)[j]?=some u->∃ v,vs[j]?=some v/\RelP M v u):RelC M E w kd i p (.slice a n c) (.own ty sz k ys)
def BxOk (M:Mem)(E:Env)(w:World)(b:Nat)(cs:List AV):Prop:=
 ∃ (t:TypeId) (vs:Array Value),w.heap[b]?=some (.cells vs t (0,0))/\vs.size=cs.length/\
  ∀ (j:Nat) (v:Value) (c:AV),vs[j]?=some v->cs[j]?=some c->RelS M E v c
def eR (M:Mem)(E:Env)(pu:Nat)(ns:List Nat)(v:Value)(u:AV):Prop:=match pu with
 | 0=>RelP M v u
 | 1=>RelS M (E.arO ns) v u
 | n+2=>RelS M (E.arP ns (n+2)) v u
def cR (M:Mem)(E:Env)(w:World)(pu:Nat)(ns:List Nat)(kd i p:Nat)(v:Value)(u:AV):Prop:=match pu with
 | 0=>RelP M v u
 | 1=>RelS M (E.arO ns) v u
 | n+2=>RelC M (E.arP ns (n+2)) w kd i p v u
theorem eR.c {M:Mem}{E:Env}{pu:Nat}{ns:List Nat}{v:Value}{u:AV}(h:eR M E pu ns v u)(w:World)(kd i p:Nat):cR M E w pu ns kd i p v u:=by
 match pu,h with
 | 0,h=>exact h
 | 1,h=>exact h
 | n+2,h=>exact .rel h
def CsOk (M:Mem)(E:Env)(w:World)(pu:Nat)(ns:List Nat)(kd i p:Nat)(vs:Array Value)(cs:List AV):Prop:=
 ∀ (j:Nat) (u:AV),cs[j]?=some u->∃ v,vs[j]?=some v/\cR M E w pu ns kd i (p+j) v u
structure RwOk (M:Mem)(E:Env)(w:World)(i:Nat)(q:RwE)(r:Rw):Prop where
 sz:q.sz=r.sz
 ver:q.ver=r.ver
 n:q.n=r.xs.length
 nc:q.n<=q.c
 cap:q.c<=maxLen
 es:∀ x∈r.xs,x.cells.length=r.sz
 k:r.k<=r.xs.length
 cm:r.cm<=q.c
 nl:r.nl=true->(q.a=none↔r.xs=[])
 blk:q.c=0\/∃ (blk:Nat) (vs:Array Value),q.a=some ⟨blk,0,none⟩/\E.own blk=some (1,i,0)/\
   w.heap[blk]?=some (.cells vs r.ty (0,0))/\vs.size=q.c*q.sz/\CsOk M E w r.pu r.ns 5 i 0 vs (zc0 r.xs)
def AV.isHole:AV->Bool
 | .agg (.ptr _ _::_)=>true
 | _=>false
structure ArOk (M:Mem)(E:Env)(w:World)(i:Nat)(bs:List Nat)(r:Arn):Prop where
 n:bs.length=r.xs.length
 es:∀ x∈r.xs,x.cells.length=r.sz
 el:∀ (k:Nat) (x:AV),r.xs[k]?=some x->x.isHole=false->∃ (b:Nat) (vs:Array Value),bs[k]?=some b/\E.own b=some (3,i,k)/\(∃ ty,w.heap[b]?=some (.cells vs ty (0,0)))/\vs.size=r.sz/\CsOk M E w 2 r.ns 6 i (k*r.sz) vs x.cells
 ho:∀ (k c o:Nat) (l:List AV),r.xs[k]?=some (.agg (.ptr c o::l))->memN 7 r.ns=true/\∃ b,bs[k]?=some b/\E.bx c=some b
def Env.none:Env:=⟨fun _=>Option.none,fun _=>Option.none,fun _=>Option.none,fun _=>Option.none,fun _=>Option.none⟩
def nB:Nat:=100000
def spM (i:Nat):Bool:=Nat.ble 50000 (i % 100000)
def mns (i:Nat):List Nat:=match spM i with
 | true=>[nB]
 | false=>[]
def MpOk (M:Mem)(E:Env)(w:World)(i r:Nat)(es:List (AV×AV)):Prop:=
 ∃ (ents:Array MapEntry) (clock:Nat),w.heap[r]?=some (.map ents clock)/\(ents.size=es.length/\clock=es.length/\∀ (j:Nat) (e:MapEntry),ents[j]?=some e->e.born=j)/\
  ∀ (j:Nat) (e:MapEntry) (p:AV×AV),ents[j]?=some e->es[j]?=some p->RelP M e.key p.1/\Rel M (E.arO (mns i)) e.val p.2
structure Lay (w:World)(F:Nat->Prop):Prop where
 own:∀ b,b<5->F b
 es:∃ a v t k,w.heap[0]?=some (.cells #[.iface a v] t k)
 er:∃ a v t k,w.heap[1]?=some (.cells #[.iface a v] t k)
 tab:∃ t k,w.heap[2]?=some (.cells ((List.range 20).map fun i=>Value.int .u64 ((10 ^ i:Nat):Int)).toArray t k)
theorem lay_re {w0 w:World}{F F':Nat->Prop}(h:Lay w0 F)(hb:∀ b,F b->w.heap[b]?=w0.heap[b]?)(hF:∀ b,F b->F' b):Lay w F':=
 ⟨fun b h8=>hF b (h.own b h8),by rw [hb 0 (h.own 0 (by decide))]; exact h.es,by rw [hb 1 (h.own 1 (by decide))]; exact h.er,by rw [hb 2 (h.own 2 (by decide))]; exact h.tab⟩
structure Gh where
 w0:World
 F:Nat->Prop
 M0:Mem
 E0:Env
structure Env.p0 (E0 E:Env):Prop where
 bx:∀ i b,nB<=i->E.bx i=some b->E0.bx i=some b
 rw:∀ i q,nB<=i->E.rw i=some q->q.ver=0->E0.rw i=some q
 mp:∀ i r,nB<=i->E.mp i=some r->E0.mp i=some r
 ar:∀ i bs,nB<=i->E.ar i=some bs->∃ bs0 l,E0.ar i=some bs0/\bs=bs0++l
def ownK:Option AV->Nat
 | some (.own _ sz k _)=>k*sz
 | _=>0
def zcs (s:S)(o:Nat×Nat×Nat):Nat:=
 if o.1=1/\o.2.2=0 then (match zan s.rw o.2.1 with | some r=>r.k*r.sz | none=>0)
 else if o.1=5 then (match zan s.rw o.2.1 with | some r=>ownK (zc0 r.xs)[o.2.2]? | none=>0)
 else if o.1=6 then (match zan s.ar o.2.1 with | some r=>ownK (zc0 r.xs)[o.2.2]? | none=>0)
 else 0
structure St (g:Gh)(N:Nat)(M:Mem)(E:Env)(s:S)(tmps:Array Value)(w:World):Prop where
 size:tmps.size=N
 fr:∀ i av,zan s.fr i=some av->i<N/\Rel M E (tmps.getD i undef) av
 mem:∀ b j v,M b j=some v->w.cell? ⟨b,j,none⟩=some v/\∀ o,E.own b=some o->j<zcs s o
 bx:∀ i cs,zan s.bx i=some cs->∃ b,E.bx i=some b/\E.own b=some (0,i,0)/\BxOk M E w b cs
 bxn:∀ i,zan s.bx i=none->E.bx i=none
 rw:∀ i r,zan s.rw i=some r->∃ q,E.rw i=some q/\RwOk M E w i q r
 rwn:∀ i,zan s.rw i=none->E.rw i=none
 mp:∀ i es,zan s.mp i=some es->∃ r,E.mp i=some r/\E.own r=some (2,i,0)/\MpOk M E w i r es
 mpn:∀ i,zan s.mp i=none->E.mp i=none
 ar:∀ i r,zan s.ar i=some r->∃ bs,E.ar i=some bs/\ArOk M E w i bs r
 arn:∀ i,zan s.ar i=none->E.ar i=none
 live:∀ b o,E.own b=some o->b<w.heap.size
 foreign:∀ b,g.F b->b<w.heap.size/\w.heap[b]?=g.w0.heap[b]?/\E.own b=none
 m0:∀ b j v,g.M0 b j=some v->M b j=some v
 mf:∀ b j v,M b j=some v->g.F b->g.M0 b j=some v
 os:w.os=g.w0.os
 tape:w.tape=g.w0.tape
 output:w.output=g.w0.output
 grow:g.w0.heap.size<=w.heap.size
 lay:Lay g.w0 g.F
def H (g:Gh)(N:Nat)(s:S)(a:Act)(w:World):Prop:=a.defers=[]/\∃ M E,St g N M E s a.tmps w/\Env.p0 g.E0 E
theorem RelP.mono {M M':Mem}(hM:∀ b j v,M b j=some v->M' b j=some v){v:Value}{x:AV}(h:RelP M v x):RelP M' v x:=by
 induction h with
 | int k n=>exact .int k n
 | bool b=>exact .bool b
 | str s=>exact .str s
 | nils=>exact .nils
 | sl a n c sz xs f hn hc hb hz ha hf ih=>
  refine .sl a n c sz xs f hn hc hb hz (fun h=>?_) ih;obtain ⟨blk,off,e,hj⟩:=ha h;exact ⟨blk,off,e,fun j hlt=>hM _ _ _ (hj j hlt)⟩
 | rp blk off x f ha hf ih=>exact .rp blk off x f (fun j hlt=>hM _ _ _ (ha j hlt)) ih
 | nilp=>exact .nilp
 | nilfn=>exact .nilfn
 | nilmp=>exact .nilmp
 | raw v h=>exact .raw v h
 | ub b p q h1 h2=>exact .ub b p q h1 h2
 | ifcN=>exact .ifcN
 | ifcS t p=>exact .ifcS t p
mutual
def AV.okIn (kb kr km ka:Nat->Bool):AV->Bool
 | .ptr i _=>kb i
 | .row i _=>kr i
 | .rowv i _ _ _=>kr i
 | .ep i _ _ _=>kr i
 | .aptr i _ _=>ka i
 | .mp i=>km i
 | .fn _ caps=>AV.okInL kb kr km ka caps
 | .popt _ x=>AV.okIn kb kr km ka x
 | .agg cs=>AV.okInL kb kr km ka cs
 | .tup vs=>AV.okInL kb kr km ka vs
 | .when _ x=>AV.okIn kb kr km ka x
 | _=>true
def AV.okInL (kb kr km ka:Nat->Bool):List AV->Bool
 | []=>true
 | x::l=>match AV.okIn kb kr km ka x with
  | true=>AV.okInL kb kr km ka l
  | false=>false
end
theorem okInL_cons {kb kr km ka:Nat->Bool}{x:AV}{l:List AV}(h:AV.okInL kb kr km ka (x::l)=true):x.okIn kb kr km ka=true/\AV.okInL kb kr km ka l=true:=by
 simp only [AV.okInL] at h;split at h
 ·rename_i hx; exact ⟨hx,h⟩
 ·cases h
theorem zjt {kb kr km ka:Nat->Bool}:∀ {l:List AV} {j:Nat} {x:AV},AV.okInL kb kr km ka l=true->l[j]?=some x->x.okIn kb kr km ka=true
 | [],j,x,_,h=>by simp at h
 | y::l,0,x,hl,h=>by simp at h; subst h; exact (okInL_cons hl).1
 | y::l,j+1,x,hl,h=>by
  simp only [xbe] at h;exact zjt (okInL_cons hl).2 h
structure Env.le (E E':Env):Prop where
 bx:∀ i b,E.bx i=some b->E'.bx i=some b
 rw:∀ i q,E.rw i=some q->∃ q',E'.rw i=some q'/\q.ver<=q'.ver/\(q.ver=q'.ver->q'.a=q.a/\q'.n=q.n/\q'.c=q.c/\q'.sz=q.sz)
 mp:∀ i r,E.mp i=some r->E'.mp i=some r
 ar:∀ i bs,E.ar i=some bs->∃ l,E'.ar i=some (bs++l)
theorem Env.le_refl (E:Env):E.le E:=⟨fun _ _ h=>h,fun _ q h=>⟨q,h,xaf _,fun _=>⟨rfl,rfl,rfl,rfl⟩⟩,fun _ _ h=>h,fun _ bs h=>⟨[],by simpa using h⟩⟩
theorem Env.le_trans {E E' E'':Env}(h:E.le E')(h':E'.le E''):E.le E'':=by
 refine ⟨fun i b e=>h'.bx i b (h.bx i b e),fun i q e=>?_,fun i r e=>h'.mp i r (h.mp i r e),fun i bs e=>?_⟩
 ·obtain ⟨q',e',l1,s1⟩:=h.rw i q e;obtain ⟨q'',e'',l2,s2⟩:=h'.rw i q' e';refine ⟨q'',e'',xct l1 l2,fun ev=>?_⟩;obtain ⟨a1,a2,a3,a4⟩:=s1 (by omega);obtain ⟨b1,b2,b3,b4⟩:=s2 (by omega);exact ⟨b1.trans a1,b2.trans a2,b3.trans a3,b4.trans a4⟩
 ·obtain ⟨l,e'⟩:=h.ar i bs e;obtain ⟨l',e''⟩:=h'.ar i _ e';exact ⟨l++l',by rw [e'',xaj]⟩
structure Env.up (E E':Env):Prop where
 le:E.le E'
 p:∀ E0,Env.p0 E0 E->Env.p0 E0 E'
theorem Env.up_refl (E:Env):E.up E:=⟨Env.le_refl E,fun _ h=>h⟩
theorem Env.up_trans {E E' E'':Env}(h:E.up E')(h':E'.up E''):E.up E'':=⟨Env.le_trans h.le h'.le,fun E0 hp=>h'.p E0 (h.p E0 hp)⟩
theorem Env.arO_le {E E':Env}(h:E.le E')(ns:List Nat):(E.arO ns).le (E'.arO ns):=by
 refine ⟨fun i b e=>(by cases e),fun i q e=>(by cases e),fun i r e=>(by cases e),fun i bs e=>?_⟩;simp only [Env.arO] at e ⊢;split at e
 ·rename_i hm; rw [xad hm]; exact h.ar i bs e
 ·cases e
theorem Env.arO_sub (E:Env)(ns:List Nat):(E.arO ns).le E:=by
 refine ⟨fun i b e=>(by cases e),fun i q e=>(by cases e),fun i r e=>(by cases e),fun i bs e=>?_⟩;simp only [Env.arO] at e;split at e
 ·exact ⟨[],by simpa using e⟩
 ·cases e
theorem Env.arP_le {E E':Env}(h:E.le E')(ns:List Nat)(pu:Nat):(E.arP ns pu).le (E'.arP ns pu):=by
 match pu with
 | 0 | 1 | 2=>exact Env.arO_le h ns
 | n+3=>exact h
theorem Env.arP_sub (E:Env)(ns:List Nat)(pu:Nat):(E.arP ns pu).le E:=by
 match pu with
 | 0 | 1 | 2=>exact Env.arO_sub E ns
 | n+3=>exact Env.le_refl E
theorem Env.arP_of {E E':Env}{ns:List Nat}{pu:Nat}(hp:pu<=2)(h:(E.arO ns).le (E'.arO ns)):(E.arP ns pu).le (E'.arP ns pu):=by
 match pu,hp with
 | 0,_ | 1,_ | 2,_=>exact h
abbrev yes:Nat->Bool:=fun _=>true
theorem viewA_eq {q q':RwE}(h:q'.a=q.a/\q'.n=q.n/\q'.c=q.c/\q'.sz=q.sz)(off:Nat):viewA q' off=viewA q off:=by
 obtain ⟨h1,_,h3,h4⟩:=h;unfold viewA;rw [h1,h4]
theorem RelS.mono {M M':Mem}{E E':Env}(hM:∀ b j v,M b j=some v->M' b j=some v)(hE:E.le E'){v:Value}{x:AV}
  (h:RelS M E v x):RelS M' E' v x:=by
 induction h with
 | pure h=>exact .pure (h.mono hM)
 | any h=>exact .any h
 | ptr i off b h=>exact .ptr i off b (hE.bx i b h)
 | row i vr n c a q hq hv h=>
  obtain ⟨q',e',hl,hs⟩:=hE.rw i q hq;refine .row i vr n c a q' e' (xct hv hl) fun e=>?_;have h1:=hs (by omega);obtain ⟨g1,g2,g3⟩:=h (by omega);exact ⟨by rw [h1.1]; exact g1,by rw [h1.2.1]; exact g2,by rw [h1.2.2.1]; exact g3⟩
 | rowv i vr off m n c a q hq hv h=>
  obtain ⟨q',e',hl,hs⟩:=hE.rw i q hq;refine .rowv i vr off m n c a q' e' (xct hv hl) fun e=>?_;have h1:=hs (by omega);obtain ⟨g0,gz,g1,g2,g3⟩:=h (by omega);exact ⟨g0,by rw [h1.1]; exact gz,by rw [viewA_eq h1]; exact g1,by rw [h1.2.2.1]; exact g2,g3⟩
 | ep i vr k off ad q hq hv h=>
  obtain ⟨q',e',hl,hs⟩:=hE.rw i q hq;refine .ep i vr k off ad q' e' (xct hv hl) fun e=>?_;have h1:=hs (by omega);obtain ⟨blk,g1,g2⟩:=h (by omega);exact ⟨blk,by rw [h1.1]; exact g1,by rw [h1.2.2.2]; exact g2⟩
 | aptr i k off bs b h hk=>
  obtain ⟨l,e⟩:=hE.ar i bs h;refine .aptr i k off _ b e ?_;rw [xak (xac.1 hk).1]; exact hk
 | mp i r h=>exact .mp i r (hE.mp i r h)
 | popt b x ht hf ih=>exact .popt b x ih hf
 | fn f vs cs hl h ih=>exact .fn f vs cs hl ih
theorem Rel.mono {M M':Mem}{E E':Env}(hM:∀ b j v,M b j=some v->M' b j=some v)(hE:E.le E'){v:Value}{x:AV}
  (h:Rel M E v x):Rel M' E' v x:=by
 induction h with
 | cell h=>exact .cell (h.mono hM hE)
 | agg vs cs hl h=>exact .agg vs cs hl fun j v c hv hc=>(h j v c hv hc).mono hM hE
 | tup vs cs hl h ih=>exact .tup vs cs hl ih
 | any v=>exact .any v
 | when v c x h hu ih=>exact .when v c x ih hu
theorem RelS.monoM {M M':Mem}{E:Env}(hM:∀ b j v,M b j=some v->M' b j=some v){v:Value}{x:AV}(h:RelS M E v x):RelS M' E v x:=
 h.mono hM (Env.le_refl E)
theorem Rel.monoM {M M':Mem}{E:Env}(hM:∀ b j v,M b j=some v->M' b j=some v){v:Value}{x:AV}(h:Rel M E v x):Rel M' E v x:=
 h.mono hM (Env.le_refl E)
theorem RelS.monoE {M:Mem}{E E':Env}(hE:E.le E'){v:Value}{x:AV}(h:RelS M E v x):RelS M E' v x:=
 h.mono (fun _ _ _ h=>h) hE
theorem Rel.monoE {M:Mem}{E E':Env}(hE:E.le E'){v:Value}{x:AV}(h:Rel M E v x):Rel M E' v x:=
 h.mono (fun _ _ _ h=>h) hE
theorem RelC.mono {M M':Mem}{E E':Env}{w w':World}{kd i i' p:Nat}(hM:∀ b j v,M b j=some v->M' b j=some v)(hE:E.le E')
  (ho:∀ b,E.own b=some (kd,i,p)->E'.own b=some (kd,i',p)/\w'.heap[b]?=w.heap[b]?){v:Value}{x:AV}(h:RelC M E w kd i p v x):RelC M' E' w' kd i' p v x:=by
 cases h with
 | rel h=>exact .rel (h.mono hM hE)
 | own ty sz k ys a n c hn hc hm hz hk hb=>
  refine .own ty sz k ys a n c hn hc hm hz hk ?_
  rcases hb with hb | ⟨blk,vs,h1,h2,h3,h4,h5⟩
  ·exact .inl hb
  ·obtain ⟨g1,g2⟩:=ho blk h2;exact .inr ⟨blk,vs,h1,g1,by rw [g2]; exact h3,h4,fun j u hu=>let ⟨v,hv,hr⟩:=h5 j u hu; ⟨v,hv,hr.mono hM⟩⟩
theorem CsOk.mono {M M':Mem}{E E':Env}{w w':World}{pu:Nat}{ns:List Nat}{kd i i' p:Nat}{vs:Array Value}{cs:List AV}(h:CsOk M E w pu ns kd i p vs cs)
  (hM:∀ b j v,M b j=some v->M' b j=some v)(hE:pu≠0->(E.arP ns pu).le (E'.arP ns pu))(ho:∀ b j,E.own b=some (kd,i,j)->E'.own b=some (kd,i',j)/\w'.heap[b]?=w.heap[b]?):CsOk M' E' w' pu ns kd i' p vs cs:=by
 intro j u hu;obtain ⟨v,hv,hr⟩:=h j u hu;refine ⟨v,hv,?_⟩
 match pu,hE,hr with
 | 0,_,hr=>exact RelP.mono hM hr
 | 1,hE,hr=>exact RelS.mono hM (hE (by simp)) hr
 | n+2,hE,hr=>exact RelC.mono hM (hE (by simp)) (fun b hb=>by rw [Env.arP_own] at hb ⊢; exact ho b _ hb) hr
theorem RwOk.mono {M M':Mem}{E E':Env}{w w':World}{i:Nat}{q:RwE}{r:Rw}(h:RwOk M E w i q r)
  (hM:∀ b j v,M b j=some v->M' b j=some v)(hE:E.le E')
  (h1:∀ b,E.own b=some (1,i,0)->E'.own b=some (1,i,0)/\w'.heap[b]?=w.heap[b]?)(h5:∀ b j,E.own b=some (5,i,j)->E'.own b=some (5,i,j)/\w'.heap[b]?=w.heap[b]?):RwOk M' E' w' i q r:=by
 refine { h with blk:=?_ }
 rcases h.blk with hb | ⟨blk,vs,g1,g2,g3,g4,g5⟩
 ·exact .inl hb
 ·obtain ⟨e1,e2⟩:=h1 blk g2;exact .inr ⟨blk,vs,g1,e1,by rw [e2]; exact g3,g4,g5.mono hM (fun _=>Env.arP_le hE _ _) h5⟩
theorem ArOk.mono {M M':Mem}{E E':Env}{w w':World}{i:Nat}{bs:List Nat}{r:Arn}(h:ArOk M E w i bs r)
  (hM:∀ b j v,M b j=some v->M' b j=some v)(hE:E.le E')
  (h3:∀ b j,E.own b=some (3,i,j)->E'.own b=some (3,i,j)/\w'.heap[b]?=w.heap[b]?)(h6:∀ b j,E.own b=some (6,i,j)->E'.own b=some (6,i,j)/\w'.heap[b]?=w.heap[b]?):ArOk M' E' w' i bs r:=by
 refine { h with el:=fun k x hx hh=>?_,ho:=fun k c o l hx=>⟨(h.ho k c o l hx).1,(h.ho k c o l hx).2.imp fun b h2=>⟨h2.1,hE.bx c b h2.2⟩⟩ };obtain ⟨b,vs,g1,g2,g3,g4,g5⟩:=h.el k x hx hh;obtain ⟨e1,e2⟩:=h3 b k g2;exact ⟨b,vs,g1,e1,by rw [e2]; exact g3,g4,g5.mono hM (fun _=>Env.arP_le hE _ _) h6⟩
theorem RelP.one {M:Mem}{v:Value}{x:AV}(h:RelP M v x):v.oneCell'=true/\x.cells=[x]:=by
 cases h <;> first | exact ⟨rfl,rfl⟩ | exact ⟨by assumption,rfl⟩
theorem RelS.one {M:Mem}{E:Env}{v:Value}{x:AV}(h:RelS M E v x):v.oneCell'=true/\x.cells=[x]:=by
 induction h with
 | pure h=>exact h.one
 | any h=>exact ⟨h,rfl⟩
 | popt b x ht hf ih=>
  refine ⟨?_,rfl⟩;cases b with
  | true=>exact (ih rfl).1
  | false=>rw [hf rfl]; rfl
 | _=>exact ⟨rfl,rfl⟩
theorem RelC.one {M:Mem}{E:Env}{w:World}{kd i p:Nat}{v:Value}{x:AV}(h:RelC M E w kd i p v x):v.oneCell'=true/\x.cells=[x]:=by
 cases h with
 | rel h=>exact h.one
 | own=>exact ⟨rfl,rfl⟩
theorem cells_of_one {v:Value}(h:v.oneCell'=true):v.cells=#[v]:=by
 cases v <;> first | rfl | (simp [Value.oneCell'] at h)
def AV.isCell:AV->Bool
 | .agg _ | .tup _ | .any | .when _ _ | .own _ _ _ _=>false
 | _=>true
theorem Rel.of_cell {M:Mem}{E:Env}{v:Value}{x:AV}(h:Rel M E v x)(hx:x.isCell=true):RelS M E v x:=by
 cases h with
 | cell h=>exact h
 | _=>cases hx
theorem Rel.cells {M:Mem}{E:Env}{v:Value}{x:AV}(h:Rel M E v x)(hx:x.cells.all AV.isCell=true) :
  v.cells.size=x.cells.length/\∀ (j:Nat) (u:Value) (c:AV),v.cells[j]?=some u->x.cells[j]?=some c->RelS M E u c:=by
 cases h with
 | cell h=>
  obtain ⟨h1,h2⟩:=h.one;rw [cells_of_one h1,h2];refine ⟨rfl,fun j u c hu hc=>?_⟩;cases j with
  | zero=>simp at hu hc; subst hu; subst hc; exact h
  | succ j=>simp at hu
 | agg vs cs hl h=>
  refine ⟨by simpa [Value.cells,AV.cells] using hl,fun j u c hu hc=>h j u c (by simpa [Value.cells] using hu) hc⟩
 | tup vs cs _ _=>simp [AV.cells,AV.isCell] at hx
 | any=>simp [AV.cells,AV.isCell] at hx
 | when=>simp [AV.cells,AV.isCell] at hx
section
variable {M:Mem}{E:Env}{v:Value}
theorem Rel.bool_inv {b:Bool}(h:Rel M E v (.bool b)):v = .bool b:=by
 cases h with
 | cell h=>cases h with
  | pure h=>cases h; rfl
theorem Rel.int_inv {k:IntKind}{n:Int}(h:Rel M E v (.int k n)):v = .int k n:=by
 cases h with
 | cell h=>cases h with
  | pure h=>cases h; rfl
theorem Rel.str_inv {x:List UInt8}(h:Rel M E v (.str x)):v = .string ⟨x.toArray⟩:=by
 cases h with
 | cell h=>cases h with
  | pure h=>cases h; rfl
theorem Rel.nils_inv (h:Rel M E v .nils):v = .slice none 0 0:=by
 cases h with
 | cell h=>cases h with
  | pure h=>cases h; rfl
theorem Rel.nilp_inv (h:Rel M E v .nilp):v = .pointer none:=by
 cases h with
 | cell h=>cases h with
  | pure h=>cases h; rfl
theorem Rel.sl_inv {sz:Nat}{xs:List AV}(h:Rel M E v (.sl sz xs)):RelP M v (.sl sz xs)/\∃ a c,v = .slice a xs.length c/\xs.length<=c/\c<=maxLen:=by
 cases h with
 | cell h=>cases h with
  | pure h=>
   refine ⟨h,?_⟩;cases h with
   | sl a n c sz xs f hn hc hb hz ha hf=>subst hn; exact ⟨a,c,rfl,hc,hb⟩
theorem Rel.ptr_inv {i o:Nat}(h:Rel M E v (.ptr i o)):∃ b,E.bx i=some b/\v = .pointer (some ⟨b,o,none⟩):=by
 cases h with
 | cell h=>cases h with
  | pure h=>cases h
  | ptr i off b h=>exact ⟨b,h,rfl⟩
theorem Rel.rp_inv {x:AV}(h:Rel M E v (.rp x)):∃ blk off,v = .pointer (some ⟨blk,off,none⟩)/\
  ∃ f:Nat->Value,(∀ j,j<x.cells.length->M blk (off+j)=some (f j))/\∀ (j:Nat) (u:AV),x.cells[j]?=some u->RelP M (f j) u:=by
 cases h with
 | cell h=>cases h with
  | pure h=>cases h with
   | rp blk off x f ha hf=>exact ⟨blk,off,rfl,f,ha,hf⟩
theorem Rel.row_inv {i vr:Nat}(h:Rel M E v (.row i vr)):∃ n c a q,v = .slice a n c/\E.rw i=some q/\vr<=q.ver/\(vr=q.ver->a=q.a/\n=q.n/\c=q.c):=by
 cases h with
 | cell h=>cases h with
  | pure h=>cases h
  | row i vr n c a q hq hv h=>exact ⟨n,c,a,q,rfl,hq,hv,h⟩
theorem Rel.rowv_inv {i vr off m:Nat}(h:Rel M E v (.rowv i vr off m)):∃ n c a q,v = .slice a n c/\E.rw i=some q/\vr<=q.ver/\(vr=q.ver->n=m/\(off=0->a=q.a)/\(c≠0->a=viewA q off)/\off+c=q.c/\n<=c):=by
 cases h with
 | cell h=>cases h with
  | pure h=>cases h
  | rowv i vr off m n c a q hq hv h=>exact ⟨n,c,a,q,rfl,hq,hv,h⟩
theorem Rel.ep_inv {i vr k o:Nat}(h:Rel M E v (.ep i vr k o)):∃ ad q,v = .pointer (some ad)/\E.rw i=some q/\vr<=q.ver/\(vr=q.ver->∃ blk,q.a=some ⟨blk,0,none⟩/\ad=⟨blk,k*q.sz+o,none⟩):=by
 cases h with
 | cell h=>cases h with
  | pure h=>cases h
  | ep i vr k off ad q hq hv h=>exact ⟨ad,q,rfl,hq,hv,h⟩
theorem Rel.aptr_inv {i k o:Nat}(h:Rel M E v (.aptr i k o)):∃ bs b,E.ar i=some bs/\bs[k]?=some b/\v = .pointer (some ⟨b,o,none⟩):=by
 cases h with
 | cell h=>cases h with
  | pure h=>cases h
  | aptr i k off bs b h hk=>exact ⟨bs,b,h,hk,rfl⟩
theorem Rel.mp_inv {i:Nat}(h:Rel M E v (.mp i)):∃ r,E.mp i=some r/\v = .map (some r):=by
 cases h with
 | cell h=>cases h with
  | pure h=>cases h
  | mp i r h=>exact ⟨r,h,rfl⟩
theorem Rel.popt_inv {b:Bool}{x:AV}(h:Rel M E v (.popt b x)):(b=true->RelS M E v x)/\(b=false->v = .pointer none):=by
 cases h with
 | cell h=>cases h with
  | pure h=>cases h
  | popt b x ht hf=>exact ⟨ht,hf⟩
theorem Rel.agg_inv {cs:List AV}(h:Rel M E v (.agg cs)):∃ vs:List Value,v = .agg vs.toArray/\vs.length=cs.length/\
  ∀ (j:Nat) (v:Value) (c:AV),vs[j]?=some v->cs[j]?=some c->RelS M E v c:=by
 cases h with
 | cell h=>cases h with
  | pure h=>cases h
 | agg vs cs hl h=>exact ⟨vs,rfl,hl,h⟩
theorem Rel.tup_inv {cs:List AV}(h:Rel M E v (.tup cs)):∃ vs:List Value,v = .tuple vs.toArray/\vs.length=cs.length/\
  ∀ (j:Nat) (v:Value) (c:AV),vs[j]?=some v->cs[j]?=some c->Rel M E v c:=by
 cases h with
 | cell h=>cases h with
  | pure h=>cases h
 | tup vs cs hl h=>exact ⟨vs,rfl,hl,h⟩
theorem Rel.fn_inv {f:FuncId}{cs:List AV}(h:Rel M E v (.fn f cs)):∃ vs:List Value,v = .func (.func f) #[] vs.toArray/\vs.length=cs.length/\
  ∀ (j:Nat) (v:Value) (c:AV),vs[j]?=some v->cs[j]?=some c->RelS M E v c:=by
 cases h with
 | cell h=>cases h with
  | pure h=>cases h
  | fn f vs cs hl h=>exact ⟨vs,rfl,hl,h⟩
theorem Rel.when_inv {c:List (Nat×Bool)}{x:AV}(h:Rel M E v (.when c x)):allB c=true->Rel M E v x:=by
 cases h with
 | cell h=>cases h with
  | pure h=>cases h
 | when v c x h=>exact h
theorem Rel.when_undef {c:List (Nat×Bool)}{x:AV}(h:Rel M E v (.when c x)):allB c=false->v=undef:=by
 cases h with
 | cell h=>cases h with
  | pure h=>cases h
 | when v c x h hu=>exact hu
end
end Go.Dm
namespace Go.Dm
open Go
inductive It where
 | code (c:Code)
 | blk (id:Nat)
 | cut (J:S->Prop)
 | rnd (n:Nat) (c:Code)
structure Cx where
 P:Program
 Qf:Exit->Act->World->Prop
 g:Gh
 N:Nat
def mean (C:Cx):List It->Exit->Act->World->Prop
 | []=>C.Qf
 | .code c::k=>Exit.then (c.wp C.P (mean C k)) (mean C k)
 | .blk id::k=>Exit.inBlock id (mean C k)
 | .cut J::k=>Exit.then (fun a w=>∃ s,J s/\H C.g C.N s a w) (mean C k)
 | .rnd n c::k=>Exit.then (Code.rounds C.P c (mean C k) n) (mean C k)
def Wk (C:Cx)(k:List It)(s:S):Prop:=∀ a w,H C.g C.N s a w->mean C k .normal a w
def Fin (C:Cx)(s:S):Prop:=∀ a w,H C.g C.N s a w->C.Qf .ret a w/\C.Qf .normal a w
variable {C:Cx}{k:List It}{s:S}
theorem Wk_seq {a b:Code}(h:Wk C (.code a :: .code b::k) s):Wk C (.code (.seq a b)::k) s:=
 fun x w hx=>wp_seq (h x w hx)
theorem Wk_skip (h:Wk C k s):Wk C (.code .skip::k) s:=fun x w hx=>wp_skip (h x w hx)
theorem Wk_block {id:Nat}{c:Code}(h:Wk C (.code c :: .blk id::k) s):Wk C (.code (.block id c)::k) s:=
 fun x w hx=>wp_block (h x w hx)
theorem Wk_blk {id:Nat}(h:Wk C k s):Wk C (.blk id::k) s:=fun x w hx=>h x w hx
theorem mean_ret (C:Cx)(a:Act)(w:World)(h:C.Qf .ret a w):∀ k,mean C k .ret a w
 | []=>h
 | .code _::k=>mean_ret C a w h k
 | .blk _::k=>mean_ret C a w h k
 | .cut _::k=>mean_ret C a w h k
 | .rnd _ _::k=>mean_ret C a w h k
theorem Wk_ret (h:Fin C s):Wk C (.code .ret::k) s:=fun x w hx=>wp_ret (mean_ret C x w (h x w hx).1 k)
theorem Wk_end (h:Fin C s):Wk C [] s:=fun x w hx=>(h x w hx).2
def popTo (id:Nat):List It->Option (List It)
 | []=>none
 | .blk i::k=>if i=id then some k else popTo id k
 | .code _::k=>popTo id k
 | .cut _::k=>popTo id k
 | .rnd _ _::k=>popTo id k
theorem mean_exit {id:Nat}{a:Act}{w:World}:∀ {k k':List It},popTo id k=some k'->mean C k' .normal a w->mean C k (.exit id) a w
 | [],_,h,_=>by simp [popTo] at h
 | .code _::k,_,h,hm=>mean_exit (k:=k) h hm
 | .cut _::k,_,h,hm=>mean_exit (k:=k) h hm
 | .rnd _ _::k,_,h,hm=>mean_exit (k:=k) h hm
 | .blk i::k,_,h,hm=>by
  simp only [popTo] at h;simp only [mean,Exit.inBlock];by_cases hi:i=id
  ·rw [xad hi] at h; cases h; rw [xad hi.symm]; exact hm
  ·rw [xab hi] at h; rw [xab (fun e=>hi e.symm)]; exact mean_exit h hm
theorem Wk_exit {id:Nat}{k':List It}(hp:popTo id k=some k')(h:Wk C k' s):Wk C (.code (.exit id)::k) s:=
 fun x w hx=>wp_exit (mean_exit hp (h x w hx))
theorem eval_slot {g:Gh}{N:Nat}{a:Act}{w:World}(h:H g N s a w){i:Nat}{x:AV}(hi:zan s.fr i=some x) :
  ∃ M E,St g N M E s a.tmps w/\i<N/\Rel M E (a.eval (.tmp i)) x:=by
 obtain ⟨_,M,E,hs,_⟩:=h;exact ⟨M,E,hs,hs.fr i x hi⟩
theorem Wk_true {c:Nat}{x y:Code}(hc:zan s.fr c=some (.bool true))(h:Wk C (.code x::k) s):Wk C (.code (.cond (.tmp c) x y)::k) s:=by
 intro a w hx;obtain ⟨M,E,hs,_,hr⟩:=eval_slot hx hc;exact wp_cond_true hr.bool_inv (h a w hx)
theorem Wk_false {c:Nat}{x y:Code}(hc:zan s.fr c=some (.bool false))(h:Wk C (.code y::k) s):Wk C (.code (.cond (.tmp c) x y)::k) s:=by
 intro a w hx;obtain ⟨M,E,hs,_,hr⟩:=eval_slot hx hc;exact wp_cond_false hr.bool_inv (h a w hx)
theorem Wk_split {c:Nat}{x y:Code}{b:Bool}(hc:zan s.fr c=some (.bool b))(ht:b=true->Wk C (.code x::k) s)(hf:b=false->Wk C (.code y::k) s):Wk C (.code (.cond (.tmp c) x y)::k) s:=by
 intro a w hx;obtain ⟨M,E,hs,_,hr⟩:=eval_slot hx hc;cases b with
 | true=>exact wp_cond_true hr.bool_inv (ht rfl a w hx)
 | false=>exact wp_cond_false hr.bool_inv (hf rfl a w hx)
theorem Wk_cut {J:S->Prop}{s':S}(hw:∀ a w,H C.g C.N s a w->H C.g C.N s' a w)(hJ:J s'):Wk C (.cut J::k) s:=
 fun a w hx=>⟨s',hJ,hw a w hx⟩
theorem wp_mono_rounds {P:Program}{c:Code}{Q Q':Exit->Act->World->Prop}(hq:∀ e a w,Q e a w->Q' e a w):∀ n a w,Code.rounds P c Q n a w->Code.rounds P c Q' n a w
 | 0,_,_,h=>h
 | n+1,a,w,h=>by
  rw [rounds_succ] at h ⊢;refine wp_mono h fun e a w he=>?_;cases e with
  | normal=>exact wp_mono_rounds hq n a w he
  | _=>exact hq _ _ _ he
theorem Wk_join {x:It}(J:S->Prop)(h1:Wk C (x :: .cut J::k) s)(h2:∀ s',J s'->Wk C k s'):Wk C (x::k) s:=by
 intro a w hx;have hm:=h1 a w hx;have key:∀ e a w,mean C (.cut J::k) e a w->mean C k e a w:=by
  intro e a w he;cases e with
  | normal=>obtain ⟨s',hJ,hs'⟩:=he; exact h2 s' hJ a w hs'
  | _=>exact he
 cases x with
 | code c=>exact wp_mono hm key
 | blk id=>exact key _ _ _ hm
 | cut J'=>exact hm
 | rnd n c=>cases n with
  | zero=>exact hm.elim
  | succ n=>exact wp_mono_rounds key (n+1) a w hm
inductive Iter {σ ρ:Type}(step:σ->Option (σ⊕ρ)):σ->ρ->Prop
 | done {x:σ} {r:ρ} (h:step x=some (.inr r)):Iter step x r
 | next {x y:σ} {r:ρ} (h:step x=some (.inl y)) (ht:Iter step y r):Iter step x r
theorem Iter.uniq {σ ρ:Type}{step:σ->Option (σ⊕ρ)}{x:σ}{r r':ρ}(h:Iter step x r)(h':Iter step x r'):r=r':=by
 induction h with
 | done h=>cases h' with
  | done h'=>rw [h] at h'; cases h'; rfl
  | next h' _=>rw [h] at h'; cases h'
 | next h _ ih=>cases h' with
  | done h'=>rw [h] at h'; cases h'
  | next h' ht=>rw [h] at h'; cases h'; exact ih ht
open Classical in
noncomputable def zb7 {σ ρ:Type}(step:σ->Option (σ⊕ρ))(x:σ):Option ρ:=if h:∃ r,Iter step x r then some h.choose else none
theorem loopO_iff {σ ρ:Type}{step:σ->Option (σ⊕ρ)}{x:σ}{r:ρ}:zb7 step x=some r↔Iter step x r:=by
 unfold zb7;constructor
 ·intro h;split at h
  ·rename_i hx; cases h; exact hx.choose_spec
  ·cases h
 ·intro h;rw [dif_pos ⟨r,h⟩];exact congrArg some ((Exists.choose_spec (⟨r,h⟩:∃ r,Iter step x r)).uniq h)
theorem zn4 {σ ρ:Type}(step:σ->Option (σ⊕ρ))(x:σ):zb7 step x=match step x with
  | none=>none
  | some (.inl y)=>zb7 step y
  | some (.inr r)=>some r:=by
 apply Option.ext;intro r;rw [loopO_iff];constructor
 ·intro h;cases h with
  | done h=>rw [h]
  | next h ht=>rw [h]; exact loopO_iff.2 ht
 ·intro h;split at h
  ·cases h
  ·rename_i y hy; exact .next hy (loopO_iff.1 h)
  ·rename_i r' hr; cases h; exact .done hr
theorem Wk_iter {body:Code}{σ ρ:Type}{step:σ->Option (σ⊕ρ)}{r:ρ}(st:σ->S)(x0:σ)(h:zb7 step x0=some r)
  (hr:∀ n x y,step x=some y->(∀ x',y = .inl x'->Wk C (.rnd n body::k) (st x'))->(∀ r',y = .inr r'->r'=r)->Wk C (.code body :: .rnd n body::k) (st x)) :
  Wk C (.code (.loop body)::k) (st x0):=by
 have main:∃ n,Wk C (.rnd n body::k) (st x0):=by
  have h':=loopO_iff.1 h;clear h
  induction h' with
  | done hd=>exact ⟨1,hr 0 _ _ hd (fun x' e=>by cases e) (fun r' e=>by cases e; rfl)⟩
  | next hd ht ih=>
   obtain ⟨n,hn⟩:=ih hr;exact ⟨n+1,hr n _ _ hd (fun x' e=>by cases e; exact hn) (fun r' e=>by cases e)⟩
 obtain ⟨n,hn⟩:=main;exact fun a w hx=>wp_loop_rounds n (hn a w hx)
theorem Wk_unroll {body:Code}(n:Nat)(h:Wk C (.rnd n body::k) s):Wk C (.code (.loop body)::k) s:=fun a w hx=>wp_loop_rounds n (h a w hx)
theorem Wk_again {n:Nat}{body:Code}(h:Wk C (.code body :: .rnd n body::k) s):Wk C (.rnd (n+1) body::k) s:=fun a w hx=>h a w hx
theorem Wk_meet {x:It}(t:S)(h1:Wk C (x :: .cut (fun s'=>s'=t)::k) s)(h2:Wk C k t):Wk C (x::k) s:=
 Wk_join _ h1 fun s' e=>by subst e; exact h2
end Go.Dm
namespace Go.Dm
open Go Go.RowKit
theorem zf4 (b o j:Nat):(⟨b,o,none⟩:Addr).add j=⟨b,o+j,none⟩:=by
 unfold Addr.add;split
 ·rename_i h; subst h; rfl
 ·rfl
structure Grow (w w':World)(X:Nat->Prop):Prop where
 os:w'.os=w.os
 tape:w'.tape=w.tape
 output:w'.output=w.output
 size:w.heap.size<=w'.heap.size
 block:∀ b,b<w.heap.size->¬ X b->w'.heap[b]?=w.heap[b]?
theorem Grow.cell {w w':World}{X:Nat->Prop}(h:Grow w w' X){b j:Nat}{v:Value}(hc:w.cell? ⟨b,j,none⟩=some v)(hX:¬ X b):w'.cell? ⟨b,j,none⟩=some v:=by
 have hlt:b<w.heap.size:=xcg _ _ hc;rw [xeb (h.block b hlt hX)]; exact hc
theorem Grow.alloc (w:World)(o:Obj):Grow w (w.alloc o) (fun _=>False):=
 ⟨rfl,rfl,rfl,by simp,fun b hb _=>Below.heap_alloc w o b hb⟩
theorem Grow.setRow (w:World)(g:Nat)(cs:Array Value):Grow w (w.setRow g cs) (fun b=>b=g):=
 ⟨rfl,rfl,rfl,by simp,fun b _ hb=>setRow_other w g b cs hb⟩
theorem Grow.refl (w:World)(X:Nat->Prop):Grow w w X:=⟨rfl,rfl,rfl,xaf _,fun _ _ _=>rfl⟩
theorem Grow.drew (w:World):Grow w w.drew (fun _=>False):=⟨rfl,rfl,rfl,xaf _,fun _ _ _=>rfl⟩
theorem Grow.mono {w w':World}{X Y:Nat->Prop}(h:Grow w w' X)(hXY:∀ b,X b->Y b):Grow w w' Y:=⟨h.os,h.tape,h.output,h.size,fun b hb hn=>h.block b hb fun hx=>hn (hXY b hx)⟩
theorem Grow.trans {w w' w'':World}{X:Nat->Prop}(h:Grow w w' X)(h':Grow w' w'' X):Grow w w'' X:=
 ⟨h'.os.trans h.os,h'.tape.trans h.tape,h'.output.trans h.output,xct h.size h'.size,fun b hb hn=>(h'.block b (xbi hb h.size) hn).trans (h.block b hb hn)⟩
theorem St.grow' {g:Gh}{N:Nat}{M:Mem}{E E':Env}{s:S}{tmps:Array Value}{w w':World}(hs:St g N M E s tmps w)(X:Nat->Prop)(hX:∀ b,b<w.heap.size->X b->∃ o,E.own b=some o)
  (hg:Grow w w' X)(hE:E.le E')
  (hown:∀ b,b<w.heap.size->¬ X b->E'.own b=E.own b)
  (hlive:∀ b o,E'.own b=some o->b<w'.heap.size){s':S}(hfr:s'.fr=s.fr)
  (hmX:∀ b j v,X b->M b j=some v->w'.cell? ⟨b,j,none⟩=some v/\∀ o,E'.own b=some o->j<zcs s' o)
  (hrk:∀ b o,E.own b=some o->¬ X b->zcs s o<=zcs s' o)
  (hbx:∀ i cs,zan s'.bx i=some cs->(zan s.bx i=some cs/\∀ b,E.bx i=some b->¬ X b)\/∃ b,E'.bx i=some b/\E'.own b=some (0,i,0)/\BxOk M E' w' b cs)
  (hbxn:∀ i,zan s'.bx i=none->E'.bx i=none)
  (hrw:∀ i r,zan s'.rw i=some r->(zan s.rw i=some r/\E'.rw i=E.rw i/\∀ b p,E.own b=some (1,i,p)\/E.own b=some (5,i,p)->¬ X b)\/∃ q,E'.rw i=some q/\RwOk M E' w' i q r)
  (hrwn:∀ i,zan s'.rw i=none->E'.rw i=none)
  (hmp:∀ i es,zan s'.mp i=some es->(zan s.mp i=some es/\∀ b,E.mp i=some b->¬ X b)\/∃ r,E'.mp i=some r/\E'.own r=some (2,i,0)/\MpOk M E' w' i r es)
  (hmpn:∀ i,zan s'.mp i=none->E'.mp i=none)
  (har:∀ i r,zan s'.ar i=some r->(zan s.ar i=some r/\E'.ar i=E.ar i/\∀ b p,E.own b=some (3,i,p)\/E.own b=some (6,i,p)->¬ X b)\/∃ bs,E'.ar i=some bs/\ArOk M E' w' i bs r)
  (harn:∀ i,zan s'.ar i=none->E'.ar i=none):St g N M E' s' tmps w' where
 size:=hs.size
 fr:=fun i av hi=>by
  rw [hfr] at hi;obtain ⟨h1,h2⟩:=hs.fr i av hi;exact ⟨h1,h2.monoE hE⟩
 mem:=fun b j v hv=>by
  obtain ⟨h1,h2⟩:=hs.mem b j v hv;have hlt:b<w.heap.size:=xcg _ _ h1;by_cases hb:X b
  ·exact hmX b j v hb hv
  ·refine ⟨hg.cell h1 hb,fun o ho=>?_⟩;rw [hown b hlt hb] at ho;exact xbi (h2 o ho) (hrk b o ho hb)
 bx:=fun i cs hi=>by
  rcases hbx i cs hi with ⟨h,hn⟩ | h
  ·obtain ⟨b,h1,h2,t,vs,h3,h4,h5⟩:=hs.bx i cs h;have hlt:=hs.live b _ h2;exact ⟨b,hE.bx i b h1,by rw [hown b hlt (hn b h1)]; exact h2,t,vs,by rw [hg.block b hlt (hn b h1)]; exact h3,h4,fun j v c hv hc=>(h5 j v c hv hc).monoE hE⟩
  ·exact h
 bxn:=hbxn
 rw:=fun i r hi=>by
  rcases hrw i r hi with ⟨h,he,hn⟩ | h
  ·obtain ⟨q,h1,h2⟩:=hs.rw i r h;have key:∀ b o,E.own b=some o->¬ X b->E'.own b=some o/\w'.heap[b]?=w.heap[b]?:=fun b o ho hx=>
    ⟨by rw [hown b (hs.live b o ho) hx]; exact ho,hg.block b (hs.live b o ho) hx⟩
   exact ⟨q,by rw [he]; exact h1,h2.mono (fun _ _ _ h=>h) hE (fun b hb=>key b _ hb (hn b 0 (.inl hb))) (fun b j hb=>key b _ hb (hn b j (.inr hb)))⟩
  ·exact h
 rwn:=hrwn
 mp:=fun i es hi=>by
  rcases hmp i es hi with ⟨h,hn⟩ | h
  ·obtain ⟨r,h1,h2,ents,clock,h3,h4,h5⟩:=hs.mp i es h;have hlt:=hs.live r _ h2;refine ⟨r,hE.mp i r h1,by rw [hown r hlt (hn r h1)]; exact h2,ents,clock,by rw [hg.block r hlt (hn r h1)]; exact h3,h4,
    fun j e p he hp=>⟨(h5 j e p he hp).1,(h5 j e p he hp).2.monoE (Env.arO_le hE _)⟩⟩
  ·exact h
 mpn:=hmpn
 ar:=fun i r hi=>by
  rcases har i r hi with ⟨h,he,hn⟩ | h
  ·obtain ⟨bs,h1,h2⟩:=hs.ar i r h;have key:∀ b o,E.own b=some o->¬ X b->E'.own b=some o/\w'.heap[b]?=w.heap[b]?:=fun b o ho hx=>
    ⟨by rw [hown b (hs.live b o ho) hx]; exact ho,hg.block b (hs.live b o ho) hx⟩
   exact ⟨bs,by rw [he]; exact h1,h2.mono (fun _ _ _ h=>h) hE (fun b j hb=>key b _ hb (hn b j (.inl hb))) (fun b j hb=>key b _ hb (hn b j (.inr hb)))⟩
  ·exact h
 arn:=harn
 live:=hlive
 foreign:=fun b hb=>by
  obtain ⟨h1,h2,h3⟩:=hs.foreign b hb;have hnX:¬ X b:=fun h=>by obtain ⟨o,ho⟩:=hX b h1 h; rw [h3] at ho; cases ho
  exact ⟨xbi h1 hg.size,by rw [hg.block b h1 hnX]; exact h2,by rw [hown b h1 hnX]; exact h3⟩
 m0:=hs.m0
 mf:=hs.mf
 os:=hg.os.trans hs.os
 tape:=hg.tape.trans hs.tape
 output:=hg.output.trans hs.output
 grow:=xct hs.grow hg.size
 lay:=hs.lay
section
variable {g:Gh}{N:Nat}{M:Mem}{E:Env}{s:S}{tmps:Array Value}{w:World}
theorem own_none (hs:St g N M E s tmps w){b:Nat}(hb:w.heap.size<=b):E.own b=none:=by
 cases h:E.own b with
 | none=>rfl
 | some o=>have:=hs.live b o h; omega
theorem St.bxK (hs:St g N M E s tmps w){X:Nat->Prop}(hX:∀ b i,X b->E.own b≠some (0,i,0)):∀ i cs,zan s.bx i=some cs->zan s.bx i=some cs/\∀ b,E.bx i=some b->¬ X b:=by
 intro i cs h;refine ⟨h,fun b hb hx=>?_⟩;obtain ⟨b',h1,h2,_⟩:=hs.bx i cs h;rw [hb] at h1; cases h1;exact hX b i hx h2
theorem St.mpK (hs:St g N M E s tmps w){X:Nat->Prop}(hX:∀ b i,X b->E.own b≠some (2,i,0)):∀ i es,zan s.mp i=some es->zan s.mp i=some es/\∀ b,E.mp i=some b->¬ X b:=by
 intro i es h;refine ⟨h,fun b hb hx=>?_⟩;obtain ⟨b',h1,h2,_⟩:=hs.mp i es h;rw [hb] at h1; cases h1;exact hX b i hx h2
end
def AllR (R:Value->AV->Prop)(vs:List Value)(cs:List AV):Prop:=
 vs.length=cs.length/\∀ (j:Nat) (v:Value) (c:AV),vs[j]?=some v->cs[j]?=some c->R v c
theorem St.box {g:Gh}{N:Nat}{M:Mem}{E:Env}{s:S}{tmps:Array Value}{w:World}(hs:St g N M E s tmps w){i:Nat}(hi:zan s.bx i=none)(hB:i<nB){t:TypeId}{vs:List Value}{cs:List AV}
  (h:AllR (RelS M E) vs cs) :
  ∃ E',E.up E'/\E'.bx i=some w.heap.size/\St g N M E' { s with bx:=(i,cs)::s.bx } tmps (w.alloc (.cells vs.toArray t)):=by
 have hnone:=own_none hs (xaf w.heap.size);have hbn:=hs.bxn i hi;have hle:E.le { E with bx:=fun j=>if j=i then some w.heap.size else E.bx j,own:=fun b=>if b=w.heap.size then some (0,i,0) else E.own b }:=by
  refine ⟨fun j b hb=>?_,fun j q hq=>⟨q,hq,xaf _,fun _=>⟨rfl,rfl,rfl,rfl⟩⟩,fun j r hr=>hr,fun j bs h=>⟨[],by simpa using h⟩⟩;show (if j=i then some w.heap.size else E.bx j)=some b;rw [xab (by rintro rfl; rw [hbn] at hb; cases hb)]; exact hb
 refine ⟨_,⟨hle,fun E0 hp=>⟨fun j b hj h=>hp.bx j b hj (by simp only at h; rwa [xab (by omega)] at h),hp.rw,hp.mp,hp.ar⟩⟩,xad rfl,?_⟩;refine hs.grow' (fun _=>False) (fun _ _ h=>h.elim) (Grow.alloc w _) hle (fun b hb _=>xab (by omega)) ?_ rfl (fun b j v h=>h.elim) (fun b o _ _=>xaf _) ?_ ?_
  (fun j r hj=>.inl ⟨hj,rfl,fun _ _ _ h=>h⟩) hs.rwn (fun j es hj=>.inl ⟨hj,fun _ _ h=>h⟩) hs.mpn (fun j r hj=>.inl ⟨hj,rfl,fun _ _ _ h=>h⟩) hs.arn
 ·intro b o hb;simp only at hb;split at hb
  ·simp; omega
  ·have:=hs.live b o hb; simp; omega
 ·intro j cs' hj;simp only [zai] at hj;split at hj
  ·rename_i e; subst e;cases hj;right;refine ⟨w.heap.size,xad rfl,xad rfl,t,vs.toArray,heap_alloc_new w _,by simpa using h.1,fun j v c hv hc=>(h.2 j v c (by simpa using hv) hc).monoE hle⟩
  ·exact .inl ⟨hj,fun _ _ h=>h⟩
 ·intro j hj;simp only [zai] at hj;split at hj
  ·cases hj
  ·rename_i hne;show (if j=i then some w.heap.size else E.bx j)=none;rw [xab hne]; exact hs.bxn j hj
theorem St.store {g:Gh}{N:Nat}{M:Mem}{E:Env}{s:S}{tmps:Array Value}{w:World}(hs:St g N M E s tmps w){i b:Nat}{cs cs':List AV}(hi:zan s.bx i=some cs)(hb:E.bx i=some b)
  {vs:List Value}(h:AllR (RelS M E) vs cs'):St g N M E { s with bx:=(i,cs')::s.bx } tmps (w.setRow b vs.toArray):=by
 obtain ⟨b',hb',hown,t,old,hh,hsz,hold⟩:=hs.bx i cs hi;rw [hb] at hb'; cases hb';have hlt:=hs.live b _ hown;have hX:∀ k o,k=b->E.own k=some o->o=(0,i,0):=fun k o e ho=>by rw [e,hown] at ho; cases ho; rfl
 refine hs.grow' (fun k=>k=b) (fun k _ hk=>⟨(0,i,0),by rw [hk]; exact hown⟩) (Grow.setRow w b _) (Env.le_refl E) (fun _ _ _=>rfl) (fun k o hk=>by have:=hs.live k o hk; simpa using this) rfl ?_ (fun b o _ _=>xaf _) ?_ ?_
  (fun j r hj=>.inl ⟨hj,rfl,fun k p ho hk=>?_⟩) hs.rwn (fun j es hj=>.inl (hs.mpK (fun k i' hk ho=>by have:=hX k _ hk ho; cases this) j es hj)) hs.mpn (fun j r hj=>.inl ⟨hj,rfl,fun k p ho hk=>?_⟩) hs.arn
 ·intro k j v hk hv;subst hk;have:=(hs.mem k j v hv).2 _ hown;simp [zcs] at this
 ·intro j cs2 hj;simp only [zai] at hj;split at hj
  ·rename_i e; subst e;cases hj;right;exact ⟨b,hb,hown,t,vs.toArray,xdj w b old _ t _ hh,by simpa using h.1,fun j v c hv hc=>h.2 j v c (by simpa using hv) hc⟩
  ·rename_i hne;refine .inl ⟨hj,fun k hk hkb=>?_⟩;obtain ⟨b2,hb2,hown2,_⟩:=hs.bx j cs2 hj;rw [hk] at hb2; cases hb2;have:=hX _ _ hkb hown2;cases this;exact hne rfl
 ·intro j hj;simp only [zai] at hj;split at hj
  ·cases hj
  ·exact hs.bxn j hj
 ·rcases ho with ho | ho <;> · have:=hX k _ hk ho; cases this
 ·rcases ho with ho | ho <;> · have:=hX k _ hk ho; cases this
theorem St.putS {g:Gh}{N:Nat}{M:Mem}{E:Env}{a:Act}{s:S}{w:World}(hs:St g N M E s a.tmps w){d:Nat}(hd:d<N){v:Value}{x:AV}
  (h:Rel M E v x):St g N M E { s with fr:=(d,x)::s.fr } (a.put (some d) v).tmps w:=by
 refine { hs with size:=by simpa [Act.put] using hs.size,fr:=fun i av hi=>?_ };simp only [zai] at hi;simp only [Act.put,xan];split at hi
 ·rename_i e; subst e;cases hi;refine ⟨hd,?_⟩;rw [xb4 (by rw [hs.size]; exact hd)];exact h
 ·rename_i hne;obtain ⟨h1,h2⟩:=hs.fr i av hi;rw [xch (fun e=>hne e.symm)];rw [xan] at h2;exact ⟨h1,h2⟩
theorem zfx (a:Act)(d:Option Nat)(v:Value):(a.put d v).defers=a.defers:=by cases d <;> rfl
theorem zex {sz:Nat}:∀ {xs:List AV},(∀ x∈xs,x.cells.length=sz)->(zc0 xs).length=xs.length*sz
 | [],_=>by simp [zc0]
 | x::l,h=>by
  have:=zex (xs:=l) fun y hy=>h y (by simp [hy]);simp only [zc0,List.flatMap_cons,xaa,xal] at this ⊢;rw [this,h x (by simp),xdw]; omega
theorem zf7 (a b:List AV):zc0 (a++b)=zc0 a++zc0 b:=by simp [zc0]
theorem ze6 (x:AV)(xs:List AV):zc0 (x::xs)=x.cells++zc0 xs:=by simp [zc0]
theorem zmt {s:S}{i:Nat}{r:Rw}(h:zan s.rw i=some r):zcs s (1,i,0)=r.k*r.sz:=by simp [zcs,h]
section
variable {g:Gh}{N:Nat}{M:Mem}{E:Env}{s:S}{tmps:Array Value}{w w1:World}
theorem St.rowNew (hs:St g N M E s tmps w){i:Nat}{vr:Nat}(hvr:zan s.rw i=none/\i<nB\/∃ r,zan s.rw i=some r/\r.ver<vr)
  (hg:Grow w w1 (fun _=>False)){vs:Array Value}{e:TypeId}{sz n c k cm:Nat}{nl:Bool}{pu:Nat}{ns:List Nat}{xs:List AV}(hkx:k<=xs.length)(hn:n=xs.length)(hnc:n<=c)(hc:c<=maxLen)(hsz:∀ x∈xs,x.cells.length=sz)
  (hcm:cm<=c)(hnl:nl=true->xs≠[])(hvs:vs.size=c*sz)(h5:∀ p,zcs s (5,i,p)<=ownK (zc0 xs)[p]?)
  (hrel:CsOk M E w pu ns 5 i 0 vs (zc0 xs)) :
  ∃ E',E.up E'/\E'.rw i=some ⟨some ⟨w1.heap.size,0,none⟩,n,c,sz,vr⟩/\
   St g N M E' { s with rw:=(i,⟨e,sz,vr,k,cm,nl,pu,ns,xs⟩)::s.rw } tmps (w1.alloc (.cells vs e)):=by
 have hle:E.le { E with
   rw:=fun j=>if j=i then some ⟨some ⟨w1.heap.size,0,none⟩,n,c,sz,vr⟩ else E.rw j
   own:=fun b=>if b=w1.heap.size then some (1,i,0) else if E.own b=some (1,i,0) then none else E.own b }:=by
  refine ⟨fun j b hb=>hb,fun j q hq=>?_,fun j r hr=>hr,fun j bs h=>⟨[],by simpa using h⟩⟩;by_cases hj:j=i
  ·subst hj;have:q.ver<vr:=by
    rcases hvr with ⟨h,_⟩ | ⟨r,h,hl⟩
    ·rw [hs.rwn j h] at hq; cases hq
    ·obtain ⟨q',hq',hok⟩:=hs.rw j r h;rw [hq] at hq'; cases hq';have:=hok.ver;omega
   exact ⟨_,xad rfl,Nat.le_of_lt this,fun e=>by have e:q.ver=vr:=e; omega⟩
  ·exact ⟨q,by simp only [xab hj]; exact hq,xaf _,fun _=>⟨rfl,rfl,rfl,rfl⟩⟩
 have hsize:=hg.size;refine ⟨_,⟨hle,fun E0 hp=>⟨hp.bx,fun j q hj h hv=>?_,hp.mp,hp.ar⟩⟩,xad rfl,?_⟩
 ·simp only at h;split at h
  ·rename_i e; subst e;cases h;simp only at hv
   rcases hvr with ⟨_,h⟩ | ⟨r,_,hl⟩ <;> omega
  ·exact hp.rw j q hj h hv
 have hbig:Grow w (w1.alloc (.cells vs e)) (fun _=>False):=(hg.mono (fun _ h=>h.elim)).trans ((Grow.alloc w1 _).mono (fun _ h=>h.elim));refine hs.grow' (fun b=>E.own b=some (1,i,0)) (fun b _ h=>⟨_,h⟩) (hbig.mono (fun _ h=>h.elim)) hle
  (fun b hb hX=>?_) ?_ rfl ?_ ?_
  (fun k cs hk=>.inl (hs.bxK (fun b i' h ho=>by rw [ho] at h; cases h) k cs hk)) hs.bxn ?_ ?_
  (fun k es hk=>.inl (hs.mpK (fun b i' h ho=>by rw [ho] at h; cases h) k es hk)) hs.mpn
  (fun k r hk=>.inl ⟨hk,rfl,fun b p ho h=>by rcases ho with ho | ho <;> (rw [ho] at h; cases h)⟩) hs.arn
 ·show (if b=w1.heap.size then some ((1:Nat),i,0) else if E.own b=some (1,i,0) then none else E.own b)=E.own b;rw [xab (by omega),xab hX]
 ·intro b o hb;simp only at hb;split at hb
  ·simp; omega
  ·split at hb
   ·cases hb
   ·have:=hs.live b o hb; simp; omega
 ·intro b j v hX hM;obtain ⟨h1,_⟩:=hs.mem b j v hM;have hlt:b<w.heap.size:=xcg _ _ h1;refine ⟨hbig.cell h1 (fun h=>h),fun o ho=>?_⟩;simp only at ho;rw [xab (by omega),xad hX] at ho;cases ho
 ·intro b o ho hX;obtain ⟨kd,j,p⟩:=o;by_cases hj:j=i
  ·subst hj;by_cases h5':kd=5
   ·subst h5';refine xct (h5 p) ?_;simp [zcs,zai]
   ·by_cases h1:kd=1
    ·subst h1;by_cases hp:p=0
     ·subst hp; exact absurd ho hX
     ·simp [zcs,hp]
    ·simp [zcs,h1,h5']
  ·simp only [zcs,zai,xab hj]; exact xaf _
 ·intro j r hj;simp only [zai] at hj;split at hj
  ·rename_i e'; subst e';cases hj;refine .inr ⟨_,xad rfl,⟨rfl,rfl,hn,hnc,hc,hsz,hkx,hcm,fun h=>?_,.inr ⟨w1.heap.size,vs,rfl,xad rfl,heap_alloc_new w1 _,hvs,?_⟩⟩⟩
   ·simp only [reduceCtorEq,false_iff]; exact hnl h
   ·refine hrel.mono (fun _ _ _ h=>h) (fun _=>Env.arP_le hle _ _) fun b p ho=>?_;have hlt:=hs.live b _ ho;refine ⟨?_,hbig.block b hlt fun h=>h⟩;show (if b=w1.heap.size then some ((1:Nat),j,0) else if E.own b=some (1,j,0) then none else E.own b)=_;rw [xab (by omega),xab (by rw [ho]; simp)]; exact ho
  ·rename_i hne;refine .inl ⟨hj,xab hne,fun b p ho h=>?_⟩
   rcases ho with ho | ho
   ·rw [ho] at h; cases h; exact hne rfl
   ·rw [ho] at h; cases h
 ·intro k hk;simp only [zai] at hk;split at hk
  ·cases hk
  ·rename_i hne;show (if k=i then _ else E.rw k)=none;rw [xab hne]; exact hs.rwn k hk
end
end Go.Dm
namespace Go.Dm
open Go Go.RowKit
section
variable {g:Gh}{N:Nat}{M:Mem}{E:Env}{s:S}{tmps:Array Value}{w w':World}
theorem St.rowPut (hs:St g N M E s tmps w){i:Nat}{r r':Rw}{q:RwE}(hr:zan s.rw i=some r)(hq:E.rw i=some q){n':Nat}
  (hver:(r'.ver=r.ver/\n'=q.n)\/r.ver<r'.ver)(hg:Grow w w' (fun b=>E.own b=some (1,i,0)))(hsz:r'.sz=r.sz)(hn:n'=r'.xs.length)(hnc:n'<=q.c)
  (hes:∀ x∈r'.xs,x.cells.length=r.sz)(hk:r'.k<=r'.xs.length)(hcm:r'.cm<=q.c)(hnl:r'.nl=true->(q.a=none↔r'.xs=[]))(hkk:r.k<=r'.k)
  (h5:∀ p,zcs s (5,i,p)<=ownK (zc0 r'.xs)[p]?)
  (hM:∀ b j v,E.own b=some (1,i,0)->M b j=some v->w'.cell? ⟨b,j,none⟩=some v)
  (hblk:∀ blk vs,q.a=some ⟨blk,0,none⟩->E.own blk=some (1,i,0)->w.heap[blk]?=some (.cells vs r.ty (0,0))->vs.size=q.c*q.sz->CsOk M E w r.pu r.ns 5 i 0 vs (zc0 r.xs)->
   ∃ vs',w'.heap[blk]?=some (.cells vs' r'.ty (0,0))/\vs'.size=vs.size/\CsOk M E w r'.pu r'.ns 5 i 0 vs' (zc0 r'.xs)) :
  ∃ E',E.up E'/\E'.rw i=some ⟨q.a,n',q.c,q.sz,r'.ver⟩/\St g N M E' { s with rw:=(i,r')::s.rw } tmps w':=by
 obtain ⟨q',hq',hok⟩:=hs.rw i r hr;rw [hq] at hq'; cases hq';have hle:E.le { E with rw:=fun j=>if j=i then some ⟨q.a,n',q.c,q.sz,r'.ver⟩ else E.rw j }:=by
  refine ⟨fun j b hb=>hb,fun j q2 hq2=>?_,fun j r hr=>hr,fun j bs h=>⟨[],by simpa using h⟩⟩;by_cases hj:j=i
  ·subst hj;rw [hq] at hq2; cases hq2;have h1:=hok.ver;refine ⟨_,xad rfl,?_,fun e=>?_⟩
   ·show q.ver<=r'.ver;omega
   ·have e:q.ver=r'.ver:=e;have:n'=q.n:=by omega
    exact ⟨rfl,this,rfl,rfl⟩
  ·exact ⟨q2,by simp only [xab hj]; exact hq2,xaf _,fun _=>⟨rfl,rfl,rfl,rfl⟩⟩
 refine ⟨_,⟨hle,fun E0 hp=>⟨hp.bx,fun j q2 hj h hv=>?_,hp.mp,hp.ar⟩⟩,xad rfl,?_⟩
 ·simp only at h;split at h
  ·rename_i e; subst e;cases h;simp only at hv
   rcases hver with ⟨e1,e2⟩ | hl
   ·have h1:=hok.ver;subst e2;have:=hp.rw j q hj hq (by omega);rw [this];congr 1;rw [hv,<- (show q.ver=0 by omega)]
   ·omega
  ·exact hp.rw j q2 hj h hv
 refine hs.grow' (fun b=>E.own b=some (1,i,0)) (fun b _ h=>⟨_,h⟩) hg hle (fun b hb hX=>rfl) (fun b o hb=>xbi (hs.live b o hb) hg.size) rfl ?_ ?_
  (fun k cs hk=>.inl (hs.bxK (fun b i' h ho=>by rw [ho] at h; cases h) k cs hk)) hs.bxn ?_ ?_
  (fun k es hk=>.inl (hs.mpK (fun b i' h ho=>by rw [ho] at h; cases h) k es hk)) hs.mpn
  (fun k r hk=>.inl ⟨hk,rfl,fun b p ho h=>by rcases ho with ho | ho <;> (rw [ho] at h; cases h)⟩) hs.arn
 ·intro b j v hX hv;refine ⟨hM b j v hX hv,fun o ho=>?_⟩;have ho:E.own b=some o:=ho;rw [hX] at ho; cases ho;have:=(hs.mem b j v hv).2 _ hX;rw [zmt hr] at this;rw [zmt (by simp [zai]:zan ((i,r')::s.rw) i=some r'),hsz];exact xbi this (xa6 _ hkk)
 ·intro b o ho hX;obtain ⟨kd,j,p⟩:=o;by_cases hj:j=i
  ·subst hj;by_cases h5':kd=5
   ·subst h5';refine xct (h5 p) ?_;simp [zcs,zai]
   ·by_cases h1:kd=1
    ·subst h1;by_cases hp:p=0
     ·subst hp; exact absurd ho hX
     ·simp [zcs,hp]
    ·simp [zcs,h1,h5']
  ·simp only [zcs,zai,xab hj]; exact xaf _
 ·intro j r2 hj;simp only [zai] at hj;split at hj
  ·rename_i e'; subst e';cases hj;refine .inr ⟨_,xad rfl,⟨by rw [hsz]; exact hok.sz,rfl,hn,hnc,hok.cap,by rw [hsz]; exact hes,hk,hcm,hnl,?_⟩⟩
   rcases hok.blk with hb | ⟨blk,vs,g1,g2,g3,g4,g5⟩
   ·exact .inl hb
   ·obtain ⟨vs',e1,e2,e3⟩:=hblk blk vs g1 g2 g3 g4 g5;refine .inr ⟨blk,vs',g1,g2,e1,by rw [e2]; exact g4,e3.mono (fun _ _ _ h=>h) (fun _=>Env.arP_le hle _ _) fun b p ho=>⟨ho,hg.block b (hs.live b _ ho) (by rw [ho]; simp)⟩⟩
  ·rename_i hne;refine .inl ⟨hj,xab hne,fun b p ho h=>?_⟩
   rcases ho with ho | ho
   ·rw [ho] at h; cases h; exact hne rfl
   ·rw [ho] at h; cases h
 ·intro k hk;simp only [zai] at hk;split at hk
  ·cases hk
  ·rename_i hne;show (if k=i then _ else E.rw k)=none;rw [xab hne]; exact hs.rwn k hk
theorem St.row0 (hs:St g N M E s tmps w){i:Nat}(hi:zan s.rw i=none)(hB:i<nB)(a:Option Addr)(e:TypeId)(sz:Nat)(nl:Bool)(pu:Nat)(ns:List Nat)(hnl:nl=true->a=none) :
  ∃ E',E.up E'/\E'.rw i=some ⟨a,0,0,sz,0⟩/\St g N M E' { s with rw:=(i,⟨e,sz,0,0,0,nl,pu,ns,[]⟩)::s.rw } tmps w:=by
 have hle:E.le { E with rw:=fun j=>if j=i then some ⟨a,0,0,sz,0⟩ else E.rw j,own:=fun b=>if E.own b=some (1,i,0) then none else E.own b }:=by
  refine ⟨fun j b hb=>hb,fun j q hq=>?_,fun j r hr=>hr,fun j bs h=>⟨[],by simpa using h⟩⟩;have hne:j≠i:=by rintro rfl; rw [hs.rwn j hi] at hq; cases hq
  exact ⟨q,by simp only [xab hne]; exact hq,xaf _,fun _=>⟨rfl,rfl,rfl,rfl⟩⟩
 refine ⟨_,⟨hle,fun E0 hp=>⟨hp.bx,fun j q2 hj h hv=>hp.rw j q2 hj (by simp only at h; rwa [xab (by omega)] at h) hv,hp.mp,hp.ar⟩⟩,xad rfl,?_⟩;have hm:∀ b j v,E.own b=some (1,i,0)->M b j=some v->False:=by
  intro b j v ho hv;have:=(hs.mem b j v hv).2 _ ho;simp [zcs,hi] at this
 refine hs.grow' (fun b=>E.own b=some (1,i,0)) (fun b _ h=>⟨_,h⟩) (Grow.refl w _) hle (fun b hb hX=>xab hX) (fun b o hb=>?_) rfl (fun b j v hX hv=>(hm b j v hX hv).elim) ?_
  (fun k cs hk=>.inl (hs.bxK (fun b i' h ho=>by rw [ho] at h; cases h) k cs hk)) hs.bxn ?_ ?_
  (fun k es hk=>.inl (hs.mpK (fun b i' h ho=>by rw [ho] at h; cases h) k es hk)) hs.mpn
  (fun k r hk=>.inl ⟨hk,rfl,fun b p ho h=>by rcases ho with ho | ho <;> (rw [ho] at h; cases h)⟩) hs.arn
 ·simp only at hb;split at hb
  ·cases hb
  ·exact hs.live b o hb
 ·intro b o ho hX;obtain ⟨kd,j,p⟩:=o;by_cases hj:j=i
  ·subst hj;by_cases h5':kd=5
   ·subst h5'; simp [zcs,hi]
   ·by_cases h1:kd=1
    ·subst h1; simp [zcs,hi]
    ·simp [zcs,h1,h5']
  ·simp only [zcs,zai,xab hj]; exact xaf _
 ·intro j r2 hj;simp only [zai] at hj;split at hj
  ·rename_i e'; subst e';cases hj;exact .inr ⟨_,xad rfl,⟨rfl,rfl,rfl,xaf _,xbm _,by simp,xaf _,xaf _,fun h=>by simp [hnl h],.inl rfl⟩⟩
  ·rename_i hne;refine .inl ⟨hj,xab hne,fun b p ho h=>?_⟩
   rcases ho with ho | ho
   ·rw [ho] at h; cases h; exact hne rfl
   ·rw [ho] at h; cases h
 ·intro k hk;simp only [zai] at hk;split at hk
  ·cases hk
  ·rename_i hne;show (if k=i then _ else E.rw k)=none;rw [xab hne]; exact hs.rwn k hk
theorem cs_pure {pu:Nat}{ns:List Nat}{kd i p:Nat}{vs:Array Value}{cs:List AV}(h:CsOk M E w pu ns kd i p vs cs)(hp:pu=0):∀ (j:Nat) (u:AV),cs[j]?=some u->∃ v,vs[j]?=some v/\RelP M v u:=by
 subst hp;exact h
theorem St.moreM {M':Mem}{s':S}(hs:St g N M E s tmps w)(hM:∀ b j v,M b j=some v->M' b j=some v)
  (hmem:∀ b j v,M' b j=some v->w.cell? ⟨b,j,none⟩=some v/\∀ o,E.own b=some o->j<zcs s' o)
  (hmf:∀ b j v,M' b j=some v->g.F b->g.M0 b j=some v)(hfr:s'.fr=s.fr)(hbx:s'.bx=s.bx)(hmp:s'.mp=s.mp)(har:s'.ar=s.ar)
  (hrw:∀ i r',zan s'.rw i=some r'->∃ r,zan s.rw i=some r/\∃ k',r'={ r with k:=k' }/\k'<=r.xs.length)(hrn:∀ i,zan s'.rw i=none->zan s.rw i=none):St g N M' E s' tmps w where
 size:=hs.size
 fr:=fun i av hi=>by
  rw [hfr] at hi;exact ⟨(hs.fr i av hi).1,(hs.fr i av hi).2.monoM hM⟩
 mem:=hmem
 bx:=fun i cs hi=>by
  rw [hbx] at hi;obtain ⟨b,h1,h2,t,vs,h3,h4,h5⟩:=hs.bx i cs hi;exact ⟨b,h1,h2,t,vs,h3,h4,fun j v c hv hc=>(h5 j v c hv hc).monoM hM⟩
 bxn:=fun i hi=>hs.bxn i (by rw [<- hbx]; exact hi)
 rw:=fun i r' hi=>by
  obtain ⟨r,hr,k',rfl,hk⟩:=hrw i r' hi;obtain ⟨q,h1,hok⟩:=hs.rw i r hr;have:=hok.mono hM (Env.le_refl E) (fun b h=>⟨h,rfl⟩) (fun b j h=>⟨h,rfl⟩);exact ⟨q,h1,{ this with k:=hk }⟩
 rwn:=fun i hi=>hs.rwn i (hrn i hi)
 mp:=fun i es hi=>by
  rw [hmp] at hi;obtain ⟨r,h1,h2,ents,clock,h3,h4,h5⟩:=hs.mp i es hi;exact ⟨r,h1,h2,ents,clock,h3,h4,fun j e p he hp=>⟨(h5 j e p he hp).1.mono hM,(h5 j e p he hp).2.monoM hM⟩⟩
 mpn:=fun i hi=>hs.mpn i (by rw [<- hmp]; exact hi)
 ar:=fun i r hi=>by
  rw [har] at hi;obtain ⟨bs,h1,hok⟩:=hs.ar i r hi;exact ⟨bs,h1,hok.mono hM (Env.le_refl E) (fun b j h=>⟨h,rfl⟩) (fun b j h=>⟨h,rfl⟩)⟩
 arn:=fun i hi=>hs.arn i (by rw [<- har]; exact hi)
 live:=hs.live
 foreign:=hs.foreign
 m0:=fun b j v h=>hM b j v (hs.m0 b j v h)
 mf:=hmf
 os:=hs.os
 tape:=hs.tape
 output:=hs.output
 grow:=hs.grow
 lay:=hs.lay
theorem St.sealRow (hs:St g N M E s tmps w){i:Nat}{r:Rw}(hr:zan s.rw i=some r)(hpu:r.pu=0) :
  ∃ M',(∀ b j v,M b j=some v->M' b j=some v)/\St g N M' E { s with rw:=(i,{ r with k:=r.xs.length })::s.rw } tmps w/\(∀ v,RelS M E v (.row i r.ver)->RelP M' v (.sl r.sz r.xs)):=by
 obtain ⟨q,hq,hok⟩:=hs.rw i r hr;have hrw:∀ i' r',zan ((i,{ r with k:=r.xs.length })::s.rw) i'=some r'->∃ r0,zan s.rw i'=some r0/\∃ k',r'={ r0 with k:=k' }/\k'<=r0.xs.length:=by
  intro i' r' h;rw [zai] at h;split at h
  ·rename_i e; subst e; cases h;exact ⟨r,hr,_,rfl,xaf _⟩
  ·obtain ⟨q',_,hok'⟩:=hs.rw i' r' h;exact ⟨r',h,r'.k,rfl,hok'.k⟩
 have hrn:∀ i',zan ((i,{ r with k:=r.xs.length })::s.rw) i'=none->zan s.rw i'=none:=by
  intro i' h;rw [zai] at h;split at h
  ·cases h
  ·exact h
 have hseal:∀ o,zcs s o<=zcs { s with rw:=(i,{ r with k:=r.xs.length })::s.rw } o:=by
  rintro ⟨kd,j,p⟩;by_cases hj:j=i
  ·subst hj;simp only [zcs,zai,xc1,hr];split
   ·exact xa6 _ hok.k
   ·exact xaf _
  ·simp only [zcs,zai,xab hj]; exact xaf _
 have hold:∀ b j v,M b j=some v->w.cell? ⟨b,j,none⟩=some v/\∀ o,E.own b=some o->j<zcs { s with rw:=(i,{ r with k:=r.xs.length })::s.rw } o:=by
  intro b j v h;obtain ⟨h1,h2⟩:=hs.mem b j v h;exact ⟨h1,fun o ho=>xbi (h2 o ho) (hseal o)⟩
 rcases hok.blk with hc | ⟨blk,vs,ha,ho,hh,hvs,hrel⟩
 ·refine ⟨M,fun _ _ _ h=>h,hs.moreM (fun _ _ _ h=>h) hold hs.mf rfl rfl rfl rfl hrw hrn,?_⟩;intro v hv;obtain ⟨n,c,a,q',rfl,hq',_,himp⟩:=(Rel.cell hv).row_inv;rw [hq] at hq'; cases hq';obtain ⟨e1,e2,e3⟩:=himp hok.ver.symm;have h1:=hok.n;have h2:=hok.nc;have hx:r.xs=[]:=xai (by omega);refine .sl a n c r.sz r.xs (fun _=>undef) (by omega) (by omega) (by omega) hok.es (fun h=>absurd hx h) (fun j u hu=>?_);rw [hx] at hu; simp [zc0] at hu
 ·have hrel:=cs_pure hrel hpu;have hlen:=zex hok.es;have hle:∀ b j v,M b j=some v->(if b=blk/\j<(zc0 r.xs).length then vs[j]? else M b j)=some v:=by
   intro b j v h;split
   ·rename_i hb;obtain ⟨rfl,_⟩:=hb;have:=(hs.mem b j v h).1;rw [xcz w b j vs r.ty (0,0) hh] at this;exact this
   ·exact h
  refine ⟨fun b j=>if b=blk/\j<(zc0 r.xs).length then vs[j]? else M b j,hle,hs.moreM hle ?_ ?_ rfl rfl rfl rfl hrw hrn,?_⟩
  ·intro b j v h;split at h
   ·rename_i hb;obtain ⟨rfl,hj⟩:=hb;refine ⟨by rw [xcz w b j vs r.ty (0,0) hh]; exact h,fun o ho'=>?_⟩;rw [ho] at ho'; cases ho';rw [zmt (by simp [zai]:zan ((i,{ r with k:=r.xs.length })::s.rw) i=some { r with k:=r.xs.length })];rw [hlen] at hj; exact hj
   ·exact hold b j v h
  ·intro b j v h hF;split at h
   ·rename_i hb;obtain ⟨rfl,_⟩:=hb;have:=(hs.foreign b hF).2.2;rw [ho] at this; cases this
   ·exact hs.mf b j v h hF
  ·intro v hv;obtain ⟨n,c,a,q',rfl,hq',_,himp⟩:=(Rel.cell hv).row_inv;rw [hq] at hq'; cases hq';obtain ⟨e1,e2,e3⟩:=himp hok.ver.symm;have h1:=hok.n;have h2:=hok.nc;have h3:=hok.cap;refine .sl a n c r.sz r.xs (fun j=>vs.getD j undef) (by omega) (by omega) (by omega) hok.es (fun _=>⟨blk,0,by rw [e1,ha],fun j hj=>?_⟩) (fun j u hu=>?_)
   ·obtain ⟨u,hu⟩:∃ u,(zc0 r.xs)[j]?=some u:=⟨_,xag hj⟩;obtain ⟨v,hv,_⟩:=hrel j u hu;show (if blk=blk/\0+j<(zc0 r.xs).length then vs[0+j]? else M blk (0+j))=_;rw [xbr,xad ⟨rfl,hj⟩,hv];simp [xan,hv]
   ·obtain ⟨v,hv,hr⟩:=hrel j u hu;simp only [xan,hv,xb8];exact hr.mono hle
end
def newsOf (f:Nat->Value)(n:Nat):List Value:=(List.range n).map f
theorem newsOf_len (f:Nat->Value)(n:Nat):(newsOf f n).length=n:=by simp [newsOf]
theorem newsOf_get {f:Nat->Value}{n j:Nat}(h:j<n):(newsOf f n)[j]?=some (f j):=by simp [newsOf,h]
theorem newsOf_get' {f:Nat->Value}{n j:Nat}{u:Value}(h:(newsOf f n)[j]?=some u):j<n/\u=f j:=by
 have hj:j<n:=by
  have:=(xac.1 h).1;rwa [newsOf_len] at this
 rw [newsOf_get hj] at h;cases h; exact ⟨hj,rfl⟩
structure SrcV (P:Program)(w:World)(t2:TypeId)(x:Value)(size m:Nat)(news:List Value):Prop where
 ty:(∃ e,P.underlying t2=some (.slice e))\/P.underlying t2=some .string
 len:∀ w',(Builtin.lenOf x).run P w' = .ok m w'
 cells:(Builtin.firstCells size m x).run P w = .ok news.toArray w
 cells':(Builtin.firstCells size m x).run P w.drew = .ok news.toArray w.drew
 n:news.length=m*size
 one:∀ u∈news,u.oneCell'=true
section
variable {P:Program}{w:World}{t t2 ty e:TypeId}{inf:TypeInfo}{x:Value}{m:Nat}{news:List Value}
theorem append_none (ht:P.underlying t=some (.slice e))(hi:P.info? e=some inf)(hx:SrcV P w t2 x inf.size m news){base:Option Addr}{n0 c:Nat}(hm:m=0)(hn:n0<=c) :
  (Builtin.append_ #[t,t2] ty #[.slice base n0 c,x]).run P w = .ok (.slice base n0 c) w:=by
 have hz:news=[]:=xai (by rw [hx.n,hm,xei]);have h1:=hx.cells;rw [hz,hm] at h1;have h2:=hx.len w;rw [hm] at h2
 rcases hx.ty with ⟨e2,hd⟩ | hd <;> cases base <;> simp [Builtin.append_,xah ht,xah hd,sizeOf,typeInfo,hi,h2,h1,hn,storeCells]
theorem append_room (ht:P.underlying t=some (.slice e))(hi:P.info? e=some inf)(hx:SrcV P w t2 x inf.size m news){blk n0 c:Nat}{cur:Array Value}(hg:w.heap[blk]?=some (.cells cur e (0,0)))
  (hroom:n0+m<=c)(hfit:n0*inf.size+news.length<=cur.size) :
  (Builtin.append_ #[t,t2] ty #[.slice (some ⟨blk,0,none⟩) n0 c,x]).run P w =
   .ok (.slice (some ⟨blk,0,none⟩) (n0+m) c) (w.setRow blk (cur.toList.take (n0*inf.size)++news++cur.toList.drop (n0*inf.size+news.length)).toArray):=by
 have hst:=xer P blk (n0*inf.size) e news 0 cur w hg (by simpa using hfit) hx.one;simp only [xcu] at hst
 rcases hx.ty with ⟨e2,hd⟩ | hd <;> simp [Builtin.append_,xah ht,xah hd,sizeOf,typeInfo,hi,hx.len,hroom,hx.cells,Addr.add_lit,hst]
theorem append_grow {z:Value}(ht:P.underlying t=some (.slice e))(hi:P.info? e=some inf)(hz:inf.zero=some z)(hx:SrcV P w t2 x inf.size m news){base:Option Addr}{n0 c:Nat}{olds:List Value}
  (hold:(Builtin.firstCells inf.size n0 (.slice base n0 c)).run P w.drew = .ok olds.toArray w.drew)(hg:c<n0+m)(h63:n0+m<=maxLen)(hfit:Builtin.nextslicecap (n0+m) c*inf.bytes<=281474976710656) :
  (Builtin.append_ #[t,t2] ty #[.slice base n0 c,x]).run P w =
   .ok (.slice (some ⟨w.heap.size,0,none⟩) (n0+m) (grownCap w (n0+m) c e))
    (w.drew.alloc (.cells (olds.toArray++news.toArray++Builtin.zeroCells z.cells (grownCap w (n0+m) c e - (n0+m))) e)):=by
 have hn:¬ (n0+m<=c):=by omega
 have h63':¬ (9223372036854775807<((n0:Int)+(m:Int))):=by simp only [maxLen] at h63; omega
 have h48':¬ (281474976710656<Builtin.nextslicecap (n0+m) c*inf.bytes):=by omega
 rcases hx.ty with ⟨e2,hd⟩ | hd <;>
 ·simp [Builtin.append_,xah ht,xah hd,sizeOf,typeInfo,zeroValue,hi,hz,hx.len,hn,h63',h48',Question.forced,hx.cells',hold,newRow,grownCap]
  try (congr 2; apply Array.ext'; simp [xaj])
end
theorem zia {P:Program}(w:World){size n:Nat}{a:Option Addr}{len c:Nat}{cs:List Value}(hl:cs.length=n*size)(h:n*size≠0->∃ blk off,a=some ⟨blk,off,none⟩/\∀ j v,cs[j]?=some v->w.cell? ⟨blk,off+j,none⟩=some v) :
  (Builtin.firstCells size n (.slice a len c)).run P w = .ok cs.toArray w:=by
 by_cases hz:n*size=0
 ·have:cs=[]:=xai (by omega);subst this;cases a with
  | none=>simp [Builtin.firstCells]
  | some a=>simp [Builtin.firstCells,hz,loadCells,loadCellsFrom]
 ·obtain ⟨blk,off,rfl,hc⟩:=h hz;exact run_firstCells_some (P:=P) w size n ⟨blk,off,none⟩ len c cs hl (fun j v hv=>by rw [zf4]; exact hc j v hv)
theorem srcV_slice {P:Program}{w:World}{t2:TypeId}(ht:(∃ e,P.underlying t2=some (.slice e))\/P.underlying t2=some .string){a:Option Addr}{size m c:Nat}{news:List Value}(hl:news.length=m*size)(h1:∀ u∈news,u.oneCell'=true)
  (h:m*size≠0->∃ blk off,a=some ⟨blk,off,none⟩/\∀ j v,news[j]?=some v->w.cell? ⟨blk,off+j,none⟩=some v):SrcV P w t2 (.slice a m c) size m news where
 ty:=ht
 len:=fun w'=>rfl
 cells:=zia w hl h
 cells':=zia w.drew hl (fun hz=>let ⟨b,o,e,hc⟩:=h hz; ⟨b,o,e,fun j v hv=>by simpa using hc j v hv⟩)
 n:=hl
 one:=h1
theorem srcV_str {P:Program}{w:World}{t2:TypeId}(ht:(∃ e,P.underlying t2=some (.slice e))\/P.underlying t2=some .string)(l:List UInt8):SrcV P w t2 (.string ⟨l.toArray⟩) 1 l.length (l.map fun b=>.int .u8 (b.toNat:Int)) where
 ty:=ht
 len:=fun w'=>by simp [Builtin.lenOf,ByteArray.size]
 cells:=by
  have:(ByteArray.mk l.toArray).extract 0 l.length=⟨l.toArray⟩:=by
   apply ByteArray.ext;simp [xe4]
  simp [Builtin.firstCells,this]
 cells':=by
  have:(ByteArray.mk l.toArray).extract 0 l.length=⟨l.toArray⟩:=by
   apply ByteArray.ext;simp [xe4]
  simp [Builtin.firstCells,this]
 n:=by simp
 one:=by simp [Value.oneCell']
theorem ownK_append {a b:List AV}{p:Nat}(h:∀ u∈b,ownK (some u)=0):ownK a[p]?=ownK (a++b)[p]?:=by
 by_cases hp:p<a.length
 ·rw [xak hp]
 ·rw [xas (by omega),xcv (by omega:a.length<=p)];cases hb:b[p - a.length]? with
  | none=>rfl
  | some u=>rw [h u (xbk hb)]; rfl
end Go.Dm
namespace Go.Dm
open Go Go.RowKit
section
variable {g:Gh}{N:Nat}{M:Mem}{E:Env}{s:S}{tmps:Array Value}{w w':World}
theorem RelP.notOwn {v:Value}{u:AV}(h:RelP M v u):ownK (some u)=0:=by cases h <;> rfl
theorem RelS.notOwn {v:Value}{u:AV}(h:RelS M E v u):ownK (some u)=0:=by
 cases h with
 | pure h=>exact h.notOwn
 | _=>rfl
theorem eR.notOwn {pu:Nat}{ns:List Nat}{v:Value}{u:AV}(h:eR M E pu ns v u):ownK (some u)=0:=by
 match pu,h with
 | 0,h=>exact RelP.notOwn h
 | 1,h=>exact RelS.notOwn h
 | n+2,h=>exact RelS.notOwn h
theorem RwOk.own1 {i:Nat}{q:RwE}{r:Rw}(h:RwOk M E w i q r)(hp:r.pu<=1)(p:Nat):ownK (zc0 r.xs)[p]?=0:=by
 rcases h.blk with hc | ⟨blk,vs,_,_,_,_,hcs⟩
 ·have h1:=h.n;have h2:=h.nc;have:r.xs=[]:=xai (by omega);rw [this]; simp [zc0,ownK]
 ·cases hu:(zc0 r.xs)[p]? with
  | none=>rfl
  | some u=>
   obtain ⟨v,_,hr⟩:=hcs p u hu
   rcases (show r.pu=0\/r.pu=1 by omega) with e | e
   ·rw [e] at hr; exact RelP.notOwn hr
   ·rw [e] at hr; exact RelS.notOwn hr
theorem flat_drop {sz:Nat}:∀ {xs:List AV} (m:Nat),(∀ x∈xs,x.cells.length=sz)->zc0 (xs.drop m)=(zc0 xs).drop (m*sz)
 | xs,0,_=>by simp
 | [],m+1,_=>by simp [zc0]
 | x::xs,m+1,h=>by
  have hx:=h x (by simp);rw [xdv,flat_drop m fun y hy=>h y (by simp [hy]),ze6,xdw,Nat.add_comm,<- xcm,<- hx];simp
theorem zjj {sz:Nat}:∀ {xs:List AV} (m:Nat),(∀ x∈xs,x.cells.length=sz)->zc0 (xs.take m)=(zc0 xs).take (m*sz)
 | xs,0,_=>by simp [zc0]
 | [],m+1,_=>by simp [zc0]
 | x::xs,m+1,h=>by
  have hx:=h x (by simp);rw [xdt,ze6,zjj m fun y hy=>h y (by simp [hy]),ze6,xdw,Nat.add_comm,<- hx,List.take_length_add_append]
theorem St.appendRow (hs:St g N M E s tmps w){i:Nat}{r:Rw}{q:RwE}(hr:zan s.rw i=some r)(hq:E.rw i=some q)
  {P:Program}{t t2 ty:TypeId}{inf:TypeInfo}{z:Value}(ht:P.underlying t=some (.slice r.ty))(hi:P.info? r.ty=some inf)(hz:inf.zero=some z)
  (hsize:inf.size=r.sz)(hzs:z.cells.size=r.sz)(hpos:0<r.sz){n0 m:Nat}(hn0:n0<=r.xs.length)(hk:r.k<=n0)(hdeep:r.pu<=1\/n0=r.xs.length){x:Value}{nx:List AV}{news:List Value}(hx:SrcV P w t2 x r.sz m news)(hm:m=nx.length)
  (hsz2:∀ y∈nx,y.cells.length=r.sz)(hrel2:∀ (j:Nat) (u:AV),(zc0 nx)[j]?=some u->∃ v,news[j]?=some v/\eR M E r.pu r.ns v u)
  {cm':Nat}{nl':Bool}(hcm:cm'<=r.xs.length\/cm'<=r.cm)(hnl:nl'=true->r.nl=true/\n0=r.xs.length)
  (h63:n0+m<=maxLen)(hbytes:(n0+m)*inf.bytes<=140737488355328) :
  ∃ v' w' E',(Builtin.append_ #[t,t2] ty #[.slice q.a n0 q.c,x]).run P w = .ok v' w'/\E.up E'/\RelS M E' v' (.row i (r.ver+1))/\
   St g N M E' { s with rw:=(i,{ r with ver:=r.ver+1,cm:=cm',nl:=nl',xs:=r.xs.take n0++nx })::s.rw } tmps w':=by
 obtain ⟨q',hq',hok⟩:=hs.rw i r hr;rw [hq] at hq'; cases hq';have hlen:=zex hok.es;have hlen2:=zex hsz2;have hnews:news.length=(zc0 nx).length:=by rw [hx.n,hm,hlen2]
 have hes:∀ y∈r.xs.take n0++nx,y.cells.length=r.sz:=fun y hy=>by
  rcases xax.1 hy with h | h
  ·exact hok.es y (xb6 h)
  ·exact hsz2 y h
 have htl:(zc0 (r.xs.take n0)).length=n0*r.sz:=by
  rw [zex (fun y hy=>hok.es y (xb6 hy)),xar,xca hn0]
 have hlx:(r.xs.take n0++nx).length=n0+m:=by rw [xaa,xar,xca hn0,hm]
 have hqn:=hok.n;have hnc:=hok.nc;have hcap:=hok.cap;have hcmq:=hok.cm;have hown2:∀ u∈zc0 nx,ownK (some u)=0:=fun u hu=>by
  obtain ⟨j,hj⟩:=xcc hu;obtain ⟨v,_,hr2⟩:=hrel2 j u hj;exact hr2.notOwn
 have h5:∀ p,zcs s (5,i,p)<=ownK (zc0 (r.xs.take n0++nx))[p]?:=by
  intro p;have e:zcs s (5,i,p)=ownK (zc0 r.xs)[p]?:=by simp [zcs,hr]
  rw [e]
  rcases hdeep with hp | hp
  ·rw [hok.own1 hp]; exact xbm _
  ·rw [hp,xco,zf7,<- ownK_append hown2]; exact xaf _
 have hrow:∀ {E':Env} {a:Option Addr} {n c sz:Nat},E'.rw i=some ⟨a,n,c,sz,r.ver+1⟩->RelS M E' (.slice a n c) (.row i (r.ver+1)):=fun h=>
  .row i _ _ _ _ _ h (xaf _) fun _=>⟨rfl,rfl,rfl⟩
 have hx':SrcV P w t2 x inf.size m news:=by rw [hsize]; exact hx
 have hcs:∀ (vs:Array Value),vs.size=q.c*q.sz->CsOk M E w r.pu r.ns 5 i 0 vs (zc0 r.xs)->∀ tl:List Value,CsOk M E w r.pu r.ns 5 i 0 (vs.toList.take (n0*r.sz)++news++tl).toArray (zc0 (r.xs.take n0++nx)):=by
  intro vs hvs hcs tl j u hu;rw [zf7] at hu;have hvl:(vs.toList.take (n0*r.sz)).length=n0*r.sz:=by
   rw [xar,xbv,hvs,hok.sz,xca (xa6 _ (by omega))]
  by_cases hj:j<n0*r.sz
  ·rw [xak (by rw [htl]; exact hj),zjj n0 hok.es,xau,xad hj] at hu;obtain ⟨v,hv,hr2⟩:=hcs j u hu;refine ⟨v,?_,hr2⟩;rw [xa1,xaj,xak (by rw [hvl]; exact hj),xau,xad hj];simpa using hv
  ·rw [xas (by rw [htl]; omega),htl] at hu;obtain ⟨v,hv,hr2⟩:=hrel2 _ u hu;refine ⟨v,?_,?_⟩
   ·have hj2:=(xac.1 hv).1;rw [xa1,xaj,xas (by rw [hvl]; omega),hvl,xak hj2]; exact hv
   ·exact hr2.c w _ _ _
 by_cases hm0:m=0
 ·
  have hnx:nx=[]:=xai (by omega);have hf:zc0 nx=[]:=by rw [hnx]; rfl
  obtain ⟨E',hle,hE',hst⟩:=hs.rowPut (w':=w) hr hq (r':={ r with ver:=r.ver+1,cm:=cm',nl:=nl',xs:=r.xs.take n0++nx }) (n':=n0) (.inr (xc6 _)) (Grow.refl w _) rfl (by rw [hlx]; omega) (by omega) hes
   (by rw [hlx]; show r.k<=n0+m; omega) (by show cm'<=q.c; omega) (fun h=>by
    obtain ⟨h1,h2⟩:=hnl h;rw [hok.nl h1,hnx,h2]; simp) (xaf _) h5 (fun b j v _ hv=>(hs.mem b j v hv).1) (fun blk vs g1 g2 g3 g4 g5=>⟨vs,g3,rfl,fun j u hu=>by
    have hu:(zc0 (r.xs.take n0++nx))[j]?=some u:=hu;rw [hnx,xbh,zjj n0 hok.es,xau] at hu;split at hu
    ·exact g5 j u hu
    ·cases hu⟩)
  exact ⟨_,w,E',append_none ht hi hx' hm0 (by omega),hle,hrow hE',hst⟩
 by_cases hroom:n0+m<=q.c
 ·
  rcases hok.blk with hb | ⟨blk,vs,g1,g2,g3,g4,g5⟩
  ·omega
  have hfit:n0*inf.size+news.length<=vs.size:=by
   rw [hx.n,hsize,<- xcj,g4,hok.sz]; exact xa6 _ hroom
  have hrun:=append_room (P:=P) (ty:=ty) ht hi hx' g3 hroom hfit;obtain ⟨E',hle,hE',hst⟩:=hs.rowPut (w':=w.setRow blk (vs.toList.take (n0*inf.size)++news++vs.toList.drop (n0*inf.size+news.length)).toArray) hr hq
   (r':={ r with ver:=r.ver+1,cm:=cm',nl:=nl',xs:=r.xs.take n0++nx }) (n':=n0+m) (.inr (xc6 _)) ((Grow.setRow w blk _).mono fun b e=>by rw [e]; exact g2) rfl (by rw [hlx]) hroom hes
   (by rw [hlx]; show r.k<=n0+m; omega) (by show cm'<=q.c; omega) (fun h=>by
    rw [g1]; simp only [reduceCtorEq,false_iff];intro e; rw [e] at hlx; simp at hlx; omega) (xaf _) h5 (fun b j v ho hv=>by
    obtain ⟨h1,h2⟩:=hs.mem b j v hv;by_cases hbb:b=blk
    ·subst hbb;have h3:=h2 _ ho;rw [zmt hr] at h3;have h4:j<n0*r.sz:=xbi h3 (xa6 _ hk);rw [xcz _ b j _ r.ty (0,0) (xdj w b vs _ r.ty _ g3)];rw [xcz w b j vs r.ty (0,0) g3] at h1;rw [xa1,xaj,xak (by rw [xar,xbv,hsize,xca (by rw [hsize] at hfit; omega)]; exact h4),xau,xad (by rw [hsize]; exact h4)];simpa using h1
    ·exact (Grow.setRow w blk _).cell h1 hbb) (fun blk' vs' e1 e2 e3 e4 e5=>by
    rw [g1] at e1; cases e1;rw [g3] at e3; cases e3;refine ⟨_,xdj w blk vs _ r.ty _ g3,?_,?_⟩
    ·simp only [xaz,xaa,xar,xa8,xbv];omega
    ·rw [hsize]; exact hcs vs g4 g5 _)
  exact ⟨_,_,E',by rw [g1]; exact hrun,hle,by have:=hrow hE'; rwa [g1] at this,hst⟩
 ·
  have hold:∃ olds:List Value,(Builtin.firstCells inf.size n0 (.slice q.a n0 q.c)).run P w.drew = .ok olds.toArray w.drew/\olds.length=n0*r.sz/\
    ∀ tl:List Value,CsOk M E w r.pu r.ns 5 i 0 (olds++news++tl).toArray (zc0 (r.xs.take n0++nx)):=by
   rcases hok.blk with hb | ⟨blk,vs,g1,g2,g3,g4,g5⟩
   ·have hn:n0=0:=by omega
    refine ⟨[],?_,by rw [hn]; simp,fun tl=>?_⟩
    ·rw [hn]; exact zia (P:=P) w.drew (by simp) (fun h=>absurd (xei _) h)
    ·intro j u hu;rw [hn,List.take_zero,xbt] at hu;obtain ⟨v,hv,hr2⟩:=hrel2 j u hu;have hj2:=(xac.1 hv).1;exact ⟨v,by rw [xa1,xbt,xak hj2]; exact hv,hr2.c w _ _ _⟩
   ·have hvl:(vs.toList.take (n0*r.sz)).length=n0*r.sz:=by
     rw [xar,xbv,g4,hok.sz,xca (xa6 _ (by omega))]
    refine ⟨vs.toList.take (n0*r.sz),?_,hvl,hcs vs g4 g5⟩;refine zia (P:=P) w.drew (by rw [hvl,hsize]) (fun _=>⟨blk,0,g1,fun j v hv=>?_⟩);rw [xbr,World.cell?_drew,xcz w blk j vs r.ty (0,0) g3];rw [xau] at hv;split at hv
    ·simpa using hv
    ·cases hv
  obtain ⟨olds,ho1,ho2,ho3⟩:=hold;have hrun:=append_grow (P:=P) (ty:=ty) ht hi hz hx' ho1 (by omega) h63 (growslice_fits (by omega) hbytes);have hge:=xfc w (n0+m) q.c r.ty;have hcm2:grownCap w (n0+m) q.c r.ty<=maxLen:=xdz w _ _ r.ty h63;obtain ⟨E',hle,hE',hst⟩:=hs.rowNew (i:=i) (vr:=r.ver+1) (.inr ⟨r,hr,xc6 _⟩) (w1:=w.drew) (Grow.drew w)
   (vs:=olds.toArray++news.toArray++Builtin.zeroCells z.cells (grownCap w (n0+m) q.c r.ty - (n0+m))) (e:=r.ty) (sz:=r.sz)
   (n:=n0+m) (c:=grownCap w (n0+m) q.c r.ty) (k:=r.k) (cm:=cm') (nl:=nl') (pu:=r.pu) (ns:=r.ns) (xs:=r.xs.take n0++nx) (by rw [hlx]; omega) (by rw [hlx]) hge hcm2 hes (by omega)
   (fun _ e=>by rw [e] at hlx; simp at hlx; omega)
   (by
    simp only [Array.size_append,xaz,xfa,hzs,ho2,hx.n,<- xcj];congr 1; omega) h5
   (by
    have:=ho3 (Builtin.zeroCells z.cells (grownCap w (n0+m) q.c r.ty - (n0+m))).toList;have e:(olds++news++(Builtin.zeroCells z.cells (grownCap w (n0+m) q.c r.ty - (n0+m))).toList).toArray=olds.toArray++news.toArray++Builtin.zeroCells z.cells (grownCap w (n0+m) q.c r.ty - (n0+m)):=by
     apply Array.ext'; simp
    rwa [e] at this)
  exact ⟨_,_,E',hrun,hle,hrow hE',hst⟩
end
end Go.Dm
namespace Go.Dm
open Go Go.RowKit
theorem St.weak {g:Gh}{N:Nat}{M:Mem}{E E':Env}{s s':S}{tmps:Array Value}{w:World}(hs:St g N M E s tmps w)
  (hfr:∀ i y,zan s'.fr i=some y->∃ x,zan s.fr i=some x/\∀ v,Rel M E v x->Rel M E' v y)
  (hbx:∀ i' cs',zan s'.bx i'=some cs'->∃ i cs,zan s.bx i=some cs/\(∀ b,E.bx i=some b->E'.bx i'=some b)/\(∀ b,E.own b=some (0,i,0)->E'.own b=some (0,i',0))/\
   cs'.length=cs.length/\∀ (j:Nat) (c c':AV) (v:Value),cs[j]?=some c->cs'[j]?=some c'->RelS M E v c->RelS M E' v c')
  (hbxn:∀ i,zan s'.bx i=none->E'.bx i=none)
  (hrw:∀ i' r',zan s'.rw i'=some r'->∃ i r,zan s.rw i=some r/\(∀ q,E.rw i=some q->E'.rw i'=some { q with ver:=r'.ver })/\(∀ b,E.own b=some (1,i,0)->E'.own b=some (1,i',0))/\
   (∀ b p,E.own b=some (5,i,p)->E'.own b=some (5,i',p))/\r'.ty=r.ty/\r'.sz=r.sz/\(r'.k=r.k\/r'.k=r.xs.length)/\r'.xs=r.xs/\r'.pu=r.pu/\r'.ns=r.ns/\r'.cm<=r.cm/\(r'.nl=true->r.nl=true)/\(r.pu≠0->(E.arP r.ns r.pu).le (E'.arP r.ns r.pu)))
  (hrwn:∀ i,zan s'.rw i=none->E'.rw i=none)
  (hmp:∀ i' es',zan s'.mp i'=some es'->∃ i es,zan s.mp i=some es/\(∀ b,E.mp i=some b->E'.mp i'=some b)/\(∀ b,E.own b=some (2,i,0)->E'.own b=some (2,i',0))/\
   es'.length=es.length/\∀ (j:Nat) (c c':AV×AV),es[j]?=some c->es'[j]?=some c'->c'.1=c.1/\∀ v,Rel M (E.arO (mns i)) v c.2->Rel M (E'.arO (mns i')) v c'.2)
  (hmpn:∀ i,zan s'.mp i=none->E'.mp i=none)
  (har:∀ i r,zan s'.ar i=some r->zan s.ar i=some r/\E'.ar i=E.ar i/\(∀ b p,E.own b=some (3,i,p)->E'.own b=some (3,i,p))/\(∀ b p,E.own b=some (6,i,p)->E'.own b=some (6,i,p))/\(E.arO r.ns).le (E'.arO r.ns)/\(memN 7 r.ns=true->∀ c b,E.bx c=some b->E'.bx c=some b))
  (harn:∀ i,zan s'.ar i=none->E'.ar i=none)
  (hown:∀ b o',E'.own b=some o'->∃ o,E.own b=some o/\∀ j,j<zcs s o->j<zcs s' o'):St g N M E' s' tmps w where
 size:=hs.size
 fr:=fun i y hi=>by
  obtain ⟨x,h1,h2⟩:=hfr i y hi;exact ⟨(hs.fr i x h1).1,h2 _ (hs.fr i x h1).2⟩
 mem:=fun b j v hv=>by
  obtain ⟨h1,h2⟩:=hs.mem b j v hv;refine ⟨h1,fun o' ho'=>?_⟩;obtain ⟨o,ho,hl⟩:=hown b o' ho';exact hl j (h2 o ho)
 bx:=fun i' cs' hi=>by
  obtain ⟨i,cs,h1,h2,h3,h4,h5⟩:=hbx i' cs' hi;obtain ⟨b,g1,g2,t,vs,g3,g4,g5⟩:=hs.bx i cs h1;refine ⟨b,h2 b g1,h3 b g2,t,vs,g3,g4.trans h4.symm,fun j v c' hv hc'=>?_⟩;have hj:=(xac.1 hc').1;have hc:cs[j]?=some cs[j]:=xag (by omega);exact h5 j _ c' v hc hc' (g5 j v _ hv hc)
 bxn:=hbxn
 rw:=fun i' r' hi=>by
  obtain ⟨i,r,h1,h2,h3,h4,e1,e2,e3,e4,e5,e6,e7,e8,e9⟩:=hrw i' r' hi;obtain ⟨q,hq,hok⟩:=hs.rw i r h1;refine ⟨_,h2 q hq,⟨by rw [e2]; exact hok.sz,rfl,by rw [e4]; exact hok.n,hok.nc,hok.cap,by rw [e4,e2]; exact hok.es,by rw [e4]; exact e3.elim (fun e=>by rw [e]; exact hok.k) (fun e=>Nat.le_of_eq e),xct e7 hok.cm,fun h=>by rw [e4]; exact hok.nl (e8 h),?_⟩⟩
  rcases hok.blk with hb | ⟨blk,vs,g1,g2,g3,g4,g5⟩
  ·exact .inl hb
  ·refine .inr ⟨blk,vs,g1,h3 blk g2,by rw [e1]; exact g3,g4,?_⟩;rw [e5,e6,e4];exact g5.mono (fun _ _ _ h=>h) e9 fun b p ho=>⟨h4 b p ho,rfl⟩
 rwn:=hrwn
 mp:=fun i' es' hi=>by
  obtain ⟨i,es,h1,h2,h3,h4,h5⟩:=hmp i' es' hi;obtain ⟨r,g1,g2,ents,clock,g3,g4,g5⟩:=hs.mp i es h1;refine ⟨r,h2 r g1,h3 r g2,ents,clock,g3,⟨g4.1.trans h4.symm,g4.2.1.trans h4.symm,g4.2.2⟩,fun j e p' he hp'=>?_⟩;have hj:=(xac.1 hp').1;have hp:es[j]?=some es[j]:=xag (by omega);obtain ⟨f1,f2⟩:=h5 j _ p' hp hp';obtain ⟨k1,k2⟩:=g5 j e _ he hp;exact ⟨by rw [f1]; exact k1,f2 _ k2⟩
 mpn:=hmpn
 ar:=fun i r hi=>by
  obtain ⟨h1,h2,h3,h4,h5,h6⟩:=har i r hi;obtain ⟨bs,hbs,hok⟩:=hs.ar i r h1;refine ⟨bs,by rw [h2]; exact hbs,⟨hok.n,hok.es,fun k x hx hh=>?_,fun k c o l hx=>by
   obtain ⟨g1,b,g2,g3⟩:=hok.ho k c o l hx;exact ⟨g1,b,g2,h6 g1 c b g3⟩⟩⟩
  obtain ⟨b,vs,g1,g2,g3,g4,g5⟩:=hok.el k x hx hh;exact ⟨b,vs,g1,h3 b k g2,g3,g4,g5.mono (fun _ _ _ h=>h) (fun _=>h5) fun b p ho=>⟨h4 b p ho,rfl⟩⟩
 arn:=harn
 live:=fun b o' h=>by
  obtain ⟨o,ho,_⟩:=hown b o' h;exact hs.live b o ho
 foreign:=fun b h=>by
  obtain ⟨h1,h2,h3⟩:=hs.foreign b h;refine ⟨h1,h2,?_⟩;cases ho:E'.own b with
  | none=>rfl
  | some o'=>obtain ⟨o,ho,_⟩:=hown b o' ho; rw [h3] at ho; cases ho
 m0:=hs.m0
 mf:=hs.mf
 os:=hs.os
 tape:=hs.tape
 output:=hs.output
 grow:=hs.grow
 lay:=hs.lay
def Env.keep (E:Env)(kb kr km ka:Nat->Bool):Env where
 bx i:=if kb i then E.bx i else Option.none
 rw i:=if kr i then E.rw i else Option.none
 mp i:=if km i then E.mp i else Option.none
 ar i:=if ka i then E.ar i else Option.none
 own b:=match E.own b with
  | some (k,i,p)=>if (k=0/\kb i=true)\/((k=1\/k=5)/\kr i=true)\/(k=2/\km i=true)\/((k=3\/k=6)/\ka i=true) then some (k,i,p) else Option.none
  | Option.none=>Option.none
theorem Env.keep_p0 {E0 E:Env}(h:Env.p0 E0 E)(kb kr km ka:Nat->Bool):Env.p0 E0 (E.keep kb kr km ka):=by
 refine ⟨fun i b hi e=>?_,fun i q hi e hv=>?_,fun i r hi e=>?_,fun i bs hi e=>?_⟩ <;> simp only [Env.keep] at e <;> split at e <;> first | (cases e; done) | skip
 ·exact h.bx i b hi e
 ·exact h.rw i q hi e hv
 ·exact h.mp i r hi e
 ·exact h.ar i bs hi e
section
variable {M:Mem}{E:Env}{kb kr km ka:Nat->Bool}
theorem zlv {b k i p:Nat}(h:E.own b=some (k,i,p))(hk:(k=0/\kb i=true)\/((k=1\/k=5)/\kr i=true)\/(k=2/\km i=true)\/((k=3\/k=6)/\ka i=true)):(E.keep kb kr km ka).own b=some (k,i,p):=by
 simp only [Env.keep,h];rw [xad hk]
theorem keep_own' {b:Nat}{o:Nat×Nat×Nat}(h:(E.keep kb kr km ka).own b=some o):E.own b=some o/\((o.1=0/\kb o.2.1=true)\/((o.1=1\/o.1=5)/\kr o.2.1=true)\/(o.1=2/\km o.2.1=true)\/((o.1=3\/o.1=6)/\ka o.2.1=true)):=by
 simp only [Env.keep] at h;split at h
 ·rename_i k i p ho;split at h
  ·rename_i hk;cases h;exact ⟨ho,hk⟩
  ·cases h
 ·cases h
theorem RelS.keep {v:Value}{x:AV}(h:RelS M E v x):x.okIn kb kr km ka=true->RelS M (E.keep kb kr km ka) v x:=by
 induction h with
 | pure h=>exact fun _=>.pure h
 | any h=>exact fun _=>.any h
 | ptr i off b h=>exact fun hx=>.ptr i off b (by simp only [AV.okIn] at hx; simp [Env.keep,hx,h])
 | row i vr n c a q hq hv h=>exact fun hx=>.row i vr n c a q (by simp only [AV.okIn] at hx; simp [Env.keep,hx,hq]) hv h
 | rowv i vr off m n c a q hq hv h=>exact fun hx=>.rowv i vr off m n c a q (by simp only [AV.okIn] at hx; simp [Env.keep,hx,hq]) hv h
 | ep i vr k off ad q hq hv h=>exact fun hx=>.ep i vr k off ad q (by simp only [AV.okIn] at hx; simp [Env.keep,hx,hq]) hv h
 | aptr i k off bs b h hk=>exact fun hx=>.aptr i k off bs b (by simp only [AV.okIn] at hx; simp [Env.keep,hx,h]) hk
 | mp i r h=>exact fun hx=>.mp i r (by simp only [AV.okIn] at hx; simp [Env.keep,hx,h])
 | popt b x ht hf ih=>exact fun hx=>.popt b x (fun e=>ih e (by simpa only [AV.okIn] using hx)) hf
 | fn f vs cs hl h ih=>exact fun hx=>.fn f vs cs hl fun j v c hv hc=>ih j v c hv hc (zjt (by simpa only [AV.okIn] using hx) hc)
theorem Rel.keep {v:Value}{x:AV}(h:Rel M E v x):x.okIn kb kr km ka=true->Rel M (E.keep kb kr km ka) v x:=by
 induction h with
 | cell h=>exact fun hx=>.cell (h.keep hx)
 | agg vs cs hl h=>exact fun hx=>.agg vs cs hl fun j v c hv hc=>(h j v c hv hc).keep (zjt (by simpa only [AV.okIn] using hx) hc)
 | tup vs cs hl h ih=>exact fun hx=>.tup vs cs hl fun j v c hv hc=>ih j v c hv hc (zjt (by simpa only [AV.okIn] using hx) hc)
 | any v=>exact fun _=>.any v
 | when v c x h hu ih=>exact fun hx=>.when v c x (fun hc=>ih hc (by simpa only [AV.okIn] using hx)) hu
theorem keep_arO (ns:List Nat)(h:∀ i,memN i ns=true->ka i=true):(E.arO ns).le ((E.keep kb kr km ka).arO ns):=by
 refine ⟨fun i b e=>(by cases e),fun i q e=>(by cases e),fun i r e=>(by cases e),fun i bs e=>?_⟩;simp only [Env.arO,Env.keep] at e ⊢;split at e
 ·rename_i hm;rw [xad hm,xad (h i hm)]; exact ⟨[],by simpa using e⟩
 ·cases e
end
def zam {α:Type}:List (Nat×α)->Nat->Bool
 | [],_=>false
 | (j,_)::l,i=>match Nat.beq i j with
  | true=>true
  | false=>zam l i
theorem zf5 {α:Type}:∀ (l:List (Nat×α)) (i:Nat),zam l i=(zan l i).isSome
 | [],i=>rfl
 | (j,v)::l,i=>by
  rw [zai];simp only [zam];split
  ·rename_i h; rw [xad (zbc h)]; rfl
  ·rename_i h; rw [xab (beq_false h)]; exact zf5 l i
theorem zdj {α:Type}{l:List (Nat×α)}{i:Nat}{v:α}(h:zan l i=some v):zam l i=true:=by rw [zf5,h]; rfl
theorem zk4 {α:Type}{l:List (Nat×α)}{i:Nat}(h:zan l i=none):zam l i=false:=by rw [zf5,h]; rfl
theorem memN_in {i:Nat}:∀ {l:List Nat},memN i l=true->i∈l
 | [],h=>by cases h
 | j::l,h=>by
  simp only [memN] at h;split at h
  ·rename_i e; rw [zbc e]; simp
  ·exact xb3 _ (memN_in h)
def allN (f:Nat->Bool):List Nat->Bool
 | []=>true
 | i::l=>match f i with | true=>allN f l | false=>false
theorem allN_get {f:Nat->Bool}:∀ {l:List Nat} {i:Nat},allN f l=true->i∈l->f i=true
 | j::l,i,h,hi=>by
  simp only [allN] at h;split at h
  ·rename_i hj
   rcases xaq.1 hi with rfl | hi
   ·exact hj
   ·exact allN_get h hi
  ·cases h
def okF (f:AV->Bool):List (Nat×AV)->Bool
 | []=>true
 | (_,x)::l=>match f x with | true=>okF f l | false=>false
def okB (f:List AV->Bool):List (Nat×List AV)->Bool
 | []=>true
 | (_,x)::l=>match f x with | true=>okB f l | false=>false
def okR (f:List Nat->Bool):List (Nat×Rw)->Bool
 | []=>true
 | (_,x)::l=>match Nat.ble x.pu 2 with
  | true=>match f x.ns with | true=>okR f l | false=>false
  | false=>false
def p2R:List (Nat×Rw)->Bool
 | []=>true
 | (_,x)::l=>match Nat.ble x.pu 2 with
  | true=>p2R l
  | false=>false
theorem p2R_get:∀ {l:List (Nat×Rw)} {i:Nat} {x:Rw},p2R l=true->zan l i=some x->x.pu<=2
 | [],_,_,_,h=>by cases h
 | (j,y)::l,i,x,hl,h=>by
  simp only [p2R] at hl;split at hl
  ·rename_i hy;rw [zai] at h;split at h
   ·cases h; exact xap hy
   ·exact p2R_get hl h
  ·cases hl
theorem okR_p2 {f:List Nat->Bool}:∀ {l:List (Nat×Rw)},okR f l=true->p2R l=true
 | [],_=>rfl
 | (j,y)::l,hl=>by
  simp only [okR] at hl;split at hl
  ·rename_i hy;split at hl
   ·simp only [p2R,hy,okR_p2 hl]
   ·cases hl
  ·cases hl
def okA (f:List Nat->Bool):List (Nat×Arn)->Bool
 | []=>true
 | (_,x)::l=>match f x.ns with | true=>okA f l | false=>false
theorem okF_get {f:AV->Bool}:∀ {l:List (Nat×AV)} {i:Nat} {x:AV},okF f l=true->zan l i=some x->f x=true
 | [],_,_,_,h=>by cases h
 | (j,y)::l,i,x,hl,h=>by
  simp only [okF] at hl;split at hl
  ·rw [zai] at h;split at h
   ·cases h; assumption
   ·exact okF_get hl h
  ·cases hl
theorem okB_get {f:List AV->Bool}:∀ {l:List (Nat×List AV)} {i:Nat} {x:List AV},okB f l=true->zan l i=some x->f x=true
 | [],_,_,_,h=>by cases h
 | (j,y)::l,i,x,hl,h=>by
  simp only [okB] at hl;split at hl
  ·rw [zai] at h;split at h
   ·cases h; assumption
   ·exact okB_get hl h
  ·cases hl
theorem okR_get {f:List Nat->Bool}:∀ {l:List (Nat×Rw)} {i:Nat} {x:Rw},okR f l=true->zan l i=some x->f x.ns=true
 | [],_,_,_,h=>by cases h
 | (j,y)::l,i,x,hl,h=>by
  simp only [okR] at hl;split at hl
  ·split at hl
   ·rw [zai] at h;split at h
    ·cases h; assumption
    ·exact okR_get hl h
   ·cases hl
  ·cases hl
theorem okA_get {f:List Nat->Bool}:∀ {l:List (Nat×Arn)} {i:Nat} {x:Arn},okA f l=true->zan l i=some x->f x.ns=true
 | [],_,_,_,h=>by cases h
 | (j,y)::l,i,x,hl,h=>by
  simp only [okA] at hl;split at hl
  ·rw [zai] at h;split at h
   ·cases h; assumption
   ·exact okA_get hl h
  ·cases hl
def mpO (h:Bool):List (Nat×List (AV×AV))->Bool
 | []=>true
 | (i,_)::l=>match spM i with
  | true=>match h with
   | true=>mpO h l
   | false=>false
  | false=>mpO h l
theorem mpO_get {h:Bool}:∀ {l:List (Nat×List (AV×AV))} {i:Nat} {es:List (AV×AV)},mpO h l=true->zan l i=some es->spM i=true->h=true
 | [],_,_,_,e,_=>by cases e
 | (j,y)::l,i,es,hl,e,hi=>by
  simp only [mpO] at hl;rw [zai] at e;by_cases c:i=j
  ·subst c;rw [hi] at hl;cases h with
   | true=>rfl
   | false=>cases hl
  ·rw [xab c] at e;split at hl
   ·split at hl
    ·rfl
    ·cases hl
   ·exact mpO_get hl e hi
def closed0 (t:S):Bool:=match okF (AV.okIn (zam t.bx) (zam t.rw) (zam t.mp) (zam t.ar)) t.fr with
 | true=>match okB (AV.okInL (zam t.bx) (zam t.rw) (zam t.mp) (zam t.ar)) t.bx with
  | true=>match okR (allN (zam t.ar)) t.rw with
   | true=>okA (allN (zam t.ar)) t.ar
   | false=>false
  | false=>false
 | false=>false
def zmg (t:S):Bool:=match mpO (zam t.ar nB) t.mp with
 | true=>match zam t.ar 7 with
  | true=>false
  | false=>closed0 t
 | false=>false
theorem closedB_ok {t:S}(h:zmg t=true):okF (AV.okIn (zam t.bx) (zam t.rw) (zam t.mp) (zam t.ar)) t.fr=true/\okB (AV.okInL (zam t.bx) (zam t.rw) (zam t.mp) (zam t.ar)) t.bx=true/\
  okR (allN (zam t.ar)) t.rw=true/\okA (allN (zam t.ar)) t.ar=true:=by
 unfold zmg at h;split at h
 case h_2=>cases h
 split at h
 case h_1=>cases h
 unfold closed0 at h;split at h
 ·rename_i h1;split at h
  ·rename_i h2;split at h
   ·rename_i h4; exact ⟨h1,h2,h4,h⟩
   ·cases h
  ·cases h
 ·cases h
theorem closedB_7 {t:S}(h:zmg t=true):zam t.ar 7=false:=by
 unfold zmg at h;split at h
 case h_2=>cases h
 split at h
 ·cases h
 ·assumption
theorem closedB_mp {t:S}(h:zmg t=true){i:Nat}{es:List (AV×AV)}(he:zan t.mp i=some es){j:Nat}(hj:memN j (mns i)=true):zam t.ar j=true:=by
 unfold zmg at h;split at h
 case h_2=>cases h
 rename_i h1;unfold mns at hj;split at hj
 ·rename_i hs;simp only [memN] at hj;split at hj
  ·rename_i e;rw [zbc e]; exact mpO_get h1 he hs
  ·cases hj
 ·cases hj
theorem St.sub {g:Gh}{N:Nat}{M:Mem}{E:Env}{s t:S}{tmps:Array Value}{w:World}(hs:St g N M E s tmps w)
  (hf:∀ i v,zan t.fr i=some v->zan s.fr i=some v)(hb:∀ i v,zan t.bx i=some v->zan s.bx i=some v)(hr:∀ i v,zan t.rw i=some v->zan s.rw i=some v)(hm:∀ i v,zan t.mp i=some v->zan s.mp i=some v)
  (ha:∀ i v,zan t.ar i=some v->zan s.ar i=some v)(hc:zmg t=true) :
  St g N M (E.keep (zam t.bx) (zam t.rw) (zam t.mp) (zam t.ar)) t tmps w:=by
 obtain ⟨c1,c2,c4,c5⟩:=closedB_ok hc;refine hs.weak (fun i y hi=>⟨y,hf i y hi,fun v hv=>hv.keep (okF_get c1 hi)⟩) (fun i cs hi=>⟨i,cs,hb i cs hi,fun b h=>?_,fun b h=>zlv h (.inl ⟨rfl,zdj hi⟩),rfl,fun j c c' v h1 h2 hv=>?_⟩) (fun i hi=>?_)
  (fun i r hi=>⟨i,r,hr i r hi,fun q h=>?_,fun b h=>zlv h (.inr (.inl ⟨.inl rfl,zdj hi⟩)),fun b p h=>zlv h (.inr (.inl ⟨.inr rfl,zdj hi⟩)),rfl,rfl,.inl rfl,rfl,rfl,rfl,xaf _,fun h=>h,fun _=>Env.arP_of (p2R_get (okR_p2 c4) hi) (keep_arO _ fun j hj=>?_)⟩) (fun i hi=>?_)
  (fun i es hi=>⟨i,es,hm i es hi,fun b h=>?_,fun b h=>zlv h (.inr (.inr (.inl ⟨rfl,zdj hi⟩))),rfl,fun j c c' h1 h2=>?_⟩) (fun i hi=>?_)
  (fun i r hi=>⟨ha i r hi,?_,fun b p h=>zlv h (.inr (.inr (.inr ⟨.inl rfl,zdj hi⟩))),fun b p h=>zlv h (.inr (.inr (.inr ⟨.inr rfl,zdj hi⟩))),keep_arO _ fun j hj=>?_,fun h7=>absurd (allN_get (okA_get c5 hi) (memN_in h7)) (by rw [closedB_7 hc]; exact Bool.false_ne_true)⟩) (fun i hi=>?_) (fun b o ho=>?_)
 ·simp [Env.keep,zdj hi,h]
 ·rw [h1] at h2; cases h2;exact hv.keep (zjt (okB_get c2 hi) h1)
 ·simp [Env.keep,zk4 hi]
 ·obtain ⟨q',hq',hok⟩:=hs.rw i r (hr i r hi);rw [h] at hq'; cases hq';simp only [Env.keep,zdj hi,xc1,h];rw [<- hok.ver]
 ·exact allN_get (okR_get c4 hi) (memN_in hj)
 ·simp [Env.keep,zk4 hi]
 ·simp [Env.keep,zdj hi,h]
 ·rw [h1] at h2; cases h2;exact ⟨rfl,fun v hv=>hv.monoE (keep_arO _ fun j hj=>closedB_mp hc hi hj)⟩
 ·simp [Env.keep,zk4 hi]
 ·simp [Env.keep,zdj hi]
 ·exact allN_get (okA_get c5 hi) (memN_in hj)
 ·simp [Env.keep,zk4 hi]
 ·obtain ⟨h1,h2⟩:=keep_own' ho;refine ⟨o,h1,fun j hj=>?_⟩;obtain ⟨k,i,p⟩:=o
  rcases h2 with ⟨e,h2⟩ | ⟨e,h2⟩ | ⟨e,h2⟩ | ⟨e,h2⟩ <;> simp only at e h2
  ·subst e; simp [zcs] at hj
  ·rw [zf5] at h2;obtain ⟨r,hr2⟩:=xeu.1 h2;have:=hr i r hr2
   rcases e with rfl | rfl <;> simpa [zcs,hr2,this] using hj
  ·subst e; simp [zcs] at hj
  ·rw [zf5] at h2;obtain ⟨r,hr2⟩:=xeu.1 h2;have:=ha i r hr2
   rcases e with rfl | rfl <;> simpa [zcs,hr2,this] using hj
def S.none:S:=⟨[],[],[],[],[]⟩
abbrev no:Nat->Bool:=fun _=>false
def AV.isPure (x:AV):Bool:=x.okIn no no no no
theorem Env.keep_none (E:Env):E.keep no no no no=Env.none:=by
 have:∀ b,(E.keep no no no no).own b=Option.none:=by
  intro b;cases h:(E.keep no no no no).own b with
  | none=>rfl
  | some o=>obtain ⟨_,h | h | h | h⟩:=keep_own' h <;> cases h.2
 simp only [Env.none];unfold Env.keep at this ⊢;simp only [xby,xcw];congr 1;funext b;simpa using this b
theorem Rel.of_pure {M:Mem}{E:Env}(E':Env){v:Value}{x:AV}(h:Rel M E v x)(hx:x.okIn no no no no=true):Rel M E' v x:=by
 have h1:=h.keep (kb:=no) (kr:=no) (km:=no) (ka:=no) hx;rw [Env.keep_none] at h1;exact h1.monoE ⟨fun _ _ h=>(by cases h),fun _ _ h=>(by cases h),fun _ _ h=>(by cases h),fun _ _ h=>(by cases h)⟩
theorem St.rebase {g:Gh}{M:Mem}{E:Env}{s:S}{N:Nat}{tmps:Array Value}{w:World}(hs:St g N M E s tmps w)(F:Nat->Prop)(hF:∀ b,F b->b<w.heap.size/\E.own b=none)(hL:∀ b,g.F b->F b):St ⟨w,F,M,Env.none⟩ N M E s tmps w:=
 { hs with foreign:=fun b h=>⟨(hF b h).1,rfl,(hF b h).2⟩,m0:=fun _ _ _ h=>h,mf:=fun _ _ _ h _=>h,os:=rfl,tape:=rfl,output:=rfl,grow:=xaf _,lay:=lay_re hs.lay (fun b h=>(hs.foreign b h).2.1) hL }
theorem St.noFr {g:Gh}{M:Mem}{E:Env}{s:S}{N:Nat}{tmps:Array Value}{w:World}(hs:St g N M E s tmps w):St g 0 M E { s with fr:=[] } #[] w:=
 { hs with size:=rfl,fr:=fun i y h=>by cases h }
end Go.Dm
namespace Go.Dm
open Go Go.RowKit
def RelL (M:Mem)(E:Env)(vs:List Value)(xs:List AV):Prop:=
 vs.length=xs.length/\∀ (j:Nat) (v:Value) (c:AV),vs[j]?=some v->xs[j]?=some c->Rel M E v c
def Bodied (P:Program)(f:FuncId):Prop:=∃ fn,P.funcs[f]?=some fn/\fn.body.isNone=false/\(fn.name == "runtime.NumGoroutine")=false
structure Env.lw (E E':Env):Prop where
 bx:∀ i b b',E.bx i=some b->E'.bx i=some b'->b'=b
 rw:∀ i q q',E.rw i=some q->E'.rw i=some q'->q.ver<=q'.ver/\(q.ver=q'.ver->q'.a=q.a/\q'.n=q.n/\q'.c=q.c/\q'.sz=q.sz)
 mp:∀ i r r',E.mp i=some r->E'.mp i=some r'->r'=r
 ar:∀ i bs bs',E.ar i=some bs->E'.ar i=some bs'->∃ l,bs'=bs++l
structure Pe (P:Program)(f:FuncId)(s0:S)(args:List AV)(r:AV)(s1:S):Prop where
 b:Bodied P f
 c:∀ (w:World) (M:Mem) (E:Env) (F:Nat->Prop) (vs:List Value),St ⟨w,F,M,Env.none⟩ 0 M E s0 #[] w->RelL M E vs args->
  Calls P f vs.toArray w fun e w'=>∃ M' E' v,e = .returned v/\E.lw E'/\St ⟨w,F,M,Env.none⟩ 0 M' E' s1 #[] w'/\Rel M' E' v r
abbrev Pc (P:Program)(f:FuncId)(args:List AV)(r:AV):Prop:=Pe P f S.none args r S.none
def S.over (s1 s:S):S:=⟨s.fr,s1.bx++s.bx,s1.rw++s.rw,s1.mp++s.mp,s1.ar++s.ar⟩
theorem zg8 {α:Type}{a b:List (Nat×α)}{i:Nat}:(∃ v,zan a i=some v/\zan (a++b) i=some v)\/(zan a i=none/\zan (a++b) i=zan b i):=by
 rw [zdn];cases h:zan a i with
 | some v=>exact .inl ⟨v,rfl,rfl⟩
 | none=>exact .inr ⟨rfl,rfl⟩
def namesOk {α:Type}(l0 l1 l:List (Nat×α)):Prop:=(∀ i,zam l0 i=true->zam l1 i=true)/\∀ i,zam l1 i=true->zam l0 i=true\/(zan l i=none/\i<nB)
theorem St.called {g:Gh}{N:Nat}{M M':Mem}{E E1:Env}{s s0 s1:S}{tmps:Array Value}{w w':World}(hs:St g N M E s tmps w)
  (hc:St ⟨w,fun b=>b<w.heap.size/\(E.keep (zam s0.bx) (zam s0.rw) (zam s0.mp) (zam s0.ar)).own b=none,M,Env.none⟩ 0 M' E1 s1 #[] w')
  (hle:(E.keep (zam s0.bx) (zam s0.rw) (zam s0.mp) (zam s0.ar)).lw E1)
  (hsub:(∀ i v,zan s0.bx i=some v->zan s.bx i=some v)/\(∀ i v,zan s0.rw i=some v->zan s.rw i=some v)/\(∀ i v,zan s0.mp i=some v->zan s.mp i=some v)/\∀ i v,zan s0.ar i=some v->zan s.ar i=some v)
  (nb:namesOk s0.bx s1.bx s.bx)(nr:namesOk s0.rw s1.rw s.rw)(nm:namesOk s0.mp s1.mp s.mp)(na:namesOk s0.ar s1.ar s.ar) :
  ∃ E2,E.up E2/\E1.le E2/\St g N M' E2 (s1.over s) tmps w':=by
 generalize hK:E.keep (zam s0.bx) (zam s0.rw) (zam s0.mp) (zam s0.ar)=K at hc hle
 let E2:Env:=⟨fun i=>match E1.bx i with | some b=>some b | none=>E.bx i,fun i=>match E1.rw i with | some q=>some q | none=>E.rw i,
  fun i=>match E1.mp i with | some b=>some b | none=>E.mp i,fun i=>match E1.ar i with | some b=>some b | none=>E.ar i,
  fun b=>match E1.own b with | some o=>some o | none=>match K.own b with | some _=>none | none=>E.own b⟩
 have keyS:∀ {α:Type} {l:List (Nat×α)} {i:Nat},¬ zan l i=none->zam l i=true:=fun h=>by
  obtain ⟨v,hv⟩:=xc4.1 h; exact zdj hv
 have kne:∀ {α:Type} {l:List (Nat×α)} {i:Nat},zam l i=true->¬ zan l i=none:=fun h e=>by rw [zk4 e] at h; cases h
 have hE1:E1.le E2:=by
  refine ⟨fun i b h=>by simp only [E2,h],fun i q h=>⟨q,by simp only [E2,h],xaf _,fun _=>⟨rfl,rfl,rfl,rfl⟩⟩,fun i r h=>by simp only [E2,h],fun i bs h=>⟨[],by simp only [E2,h,xbh]⟩⟩
 have hE:E.le E2:=by
  refine ⟨fun i b h=>?_,fun i q h=>?_,fun i r h=>?_,fun i bs h=>?_⟩
  ·cases h1:E1.bx i with
   | none=>simp only [E2,h1,h]
   | some b'=>
    have hk:zam s1.bx i=true:=keyS fun e=>by rw [hc.bxn i e] at h1; cases h1
    rcases nb.2 i hk with hk0 | ⟨hn,_⟩
    ·have:=hle.bx i b b' (by rw [<- hK]; simp [Env.keep,hk0,h]) h1;simp only [E2,h1,this]
    ·rw [hs.bxn i hn] at h; cases h
  ·cases h1:E1.rw i with
   | none=>exact ⟨q,by simp only [E2,h1,h],xaf _,fun _=>⟨rfl,rfl,rfl,rfl⟩⟩
   | some q'=>
    have hk:zam s1.rw i=true:=keyS fun e=>by rw [hc.rwn i e] at h1; cases h1
    rcases nr.2 i hk with hk0 | ⟨hn,_⟩
    ·obtain ⟨e2,e3⟩:=hle.rw i q q' (by rw [<- hK]; simp [Env.keep,hk0,h]) h1;exact ⟨q',by simp only [E2,h1],e2,e3⟩
    ·rw [hs.rwn i hn] at h; cases h
  ·cases h1:E1.mp i with
   | none=>simp only [E2,h1,h]
   | some b'=>
    have hk:zam s1.mp i=true:=keyS fun e=>by rw [hc.mpn i e] at h1; cases h1
    rcases nm.2 i hk with hk0 | ⟨hn,_⟩
    ·have:=hle.mp i r b' (by rw [<- hK]; simp [Env.keep,hk0,h]) h1;simp only [E2,h1,this]
    ·rw [hs.mpn i hn] at h; cases h
  ·cases h1:E1.ar i with
   | none=>exact ⟨[],by simp only [E2,h1,h,xbh]⟩
   | some b'=>
    have hk:zam s1.ar i=true:=keyS fun e=>by rw [hc.arn i e] at h1; cases h1
    rcases na.2 i hk with hk0 | ⟨hn,_⟩
    ·obtain ⟨l,e⟩:=hle.ar i bs b' (by rw [<- hK]; simp [Env.keep,hk0,h]) h1;exact ⟨l,by simp only [E2,h1,e]⟩
    ·rw [hs.arn i hn] at h; cases h
 have hown1:∀ {b:Nat} {o:Nat×Nat×Nat},E1.own b=some o->E2.own b=some o:=fun h=>by simp only [E2,h]
 have hKn:∀ b,E.own b=none->K.own b=none:=fun b h=>by
  cases hk:K.own b with
  | none=>rfl
  | some o=>rw [<- hK] at hk; rw [(keep_own' hk).1] at h; cases h
 have hrest:∀ {b:Nat} {o:Nat×Nat×Nat},E.own b=some o->K.own b=none->w'.heap[b]?=w.heap[b]?/\E1.own b=none/\E2.own b=some o:=fun {b o} h hk=>by
  have:=hc.foreign b ⟨hs.live b o h,hk⟩;exact ⟨this.2.1,this.2.2,by simp only [E2,this.2.2,hk,h]⟩
 have hlab:∀ {b:Nat} {k i p:Nat},E.own b=some (k,i,p)->¬ ((k=0/\zam s0.bx i=true)\/((k=1\/k=5)/\zam s0.rw i=true)\/(k=2/\zam s0.mp i=true)\/((k=3\/k=6)/\zam s0.ar i=true))->K.own b=none:=fun {b k i p} h hn=>by
  cases hk:K.own b with
  | none=>rfl
  | some o=>
   rw [<- hK] at hk;obtain ⟨h1,h2⟩:=keep_own' hk;rw [h] at h1; cases h1;exact absurd h2 hn
 have hsz:=hc.grow;have hP:∀ E0,Env.p0 E0 E->Env.p0 E0 E2:=fun E0 hp=>by
  refine ⟨fun i b hi h=>?_,fun i q hi h hv=>?_,fun i r hi h=>?_,fun i bs hi h=>?_⟩
  ·cases h1:E1.bx i with
   | none=>simp only [E2,h1] at h; exact hp.bx i b hi h
   | some b'=>
    simp only [E2,h1,Option.some.injEq] at h;subst h
    rcases nb.2 i (keyS fun e=>by rw [hc.bxn i e] at h1; cases h1) with hk0 | ⟨_,hn⟩
    ·cases h2:E.bx i with
     | none=>
      obtain ⟨v,hv⟩:=xc4.1 (kne hk0);obtain ⟨b0,hb0,_⟩:=hs.bx i v (hsub.1 i v hv);rw [h2] at hb0; cases hb0
     | some b0=>
      have:=hle.bx i b0 b' (by rw [<- hK]; simp [Env.keep,hk0,h2]) h1;subst this;exact hp.bx i b' hi h2
    ·omega
  ·cases h1:E1.rw i with
   | none=>simp only [E2,h1] at h; exact hp.rw i q hi h hv
   | some q'=>
    simp only [E2,h1,Option.some.injEq] at h;subst h
    rcases nr.2 i (keyS fun e=>by rw [hc.rwn i e] at h1; cases h1) with hk0 | ⟨_,hn⟩
    ·obtain ⟨v,hv0⟩:=xc4.1 (kne hk0);obtain ⟨q0,hq0,_⟩:=hs.rw i v (hsub.2.1 i v hv0);obtain ⟨e2,e3⟩:=hle.rw i q0 q' (by rw [<- hK]; simp [Env.keep,hk0,hq0]) h1;obtain ⟨f1,f2,f3,f4⟩:=e3 (by omega);have:q'=q0:=by
      cases q'; cases q0;simp only at f1 f2 f3 f4 e2 hv;simp only [RwE.mk.injEq];exact ⟨f1,f2,f3,f4,by omega⟩
     subst this;exact hp.rw i q' hi hq0 hv
    ·omega
  ·cases h1:E1.mp i with
   | none=>simp only [E2,h1] at h; exact hp.mp i r hi h
   | some b'=>
    simp only [E2,h1,Option.some.injEq] at h;subst h
    rcases nm.2 i (keyS fun e=>by rw [hc.mpn i e] at h1; cases h1) with hk0 | ⟨_,hn⟩
    ·obtain ⟨v,hv0⟩:=xc4.1 (kne hk0);obtain ⟨q0,hq0,_⟩:=hs.mp i v (hsub.2.2.1 i v hv0);have:=hle.mp i q0 b' (by rw [<- hK]; simp [Env.keep,hk0,hq0]) h1;subst this;exact hp.mp i b' hi hq0
    ·omega
  ·cases h1:E1.ar i with
   | none=>simp only [E2,h1] at h; exact hp.ar i bs hi h
   | some b'=>
    simp only [E2,h1,Option.some.injEq] at h;subst h
    rcases na.2 i (keyS fun e=>by rw [hc.arn i e] at h1; cases h1) with hk0 | ⟨_,hn⟩
    ·obtain ⟨v,hv0⟩:=xc4.1 (kne hk0);obtain ⟨q0,hq0,_⟩:=hs.ar i v (hsub.2.2.2 i v hv0);obtain ⟨l,e⟩:=hle.ar i q0 b' (by rw [<- hK]; simp [Env.keep,hk0,hq0]) h1;obtain ⟨bs0,l0,f1,f2⟩:=hp.ar i q0 hi hq0;exact ⟨bs0,l0++l,f1,by rw [e,f2,xaj]⟩
    ·omega
 refine ⟨E2,⟨hE,hP⟩,hE1,⟨hs.size,fun i av hi=>?_,fun b j v hv=>?_,fun i cs hi=>?_,fun i hi=>?_,fun i r hi=>?_,fun i hi=>?_,fun i es hi=>?_,fun i hi=>?_,fun i r hi=>?_,fun i hi=>?_,fun b o ho=>?_,
  fun b hb=>?_,fun b j v h=>hc.m0 b j v (hs.m0 b j v h),fun b j v hv hF=>?_,hc.os.trans hs.os,hc.tape.trans hs.tape,hc.output.trans hs.output,xct hs.grow hsz,hs.lay⟩⟩
 ·obtain ⟨h1,h2⟩:=hs.fr i av hi;exact ⟨h1,h2.mono hc.m0 hE⟩
 ·obtain ⟨h1,h2⟩:=hc.mem b j v hv;refine ⟨h1,fun o ho=>?_⟩;cases ho1:E1.own b with
  | some o1=>
   rw [hown1 ho1] at ho; cases ho;have hl:=h2 o ho1;obtain ⟨k,i,p⟩:=o;simp only [zcs,S.over] at hl ⊢
   rcases zg8 (a:=s1.rw) (b:=s.rw) (i:=i) with ⟨r,e1,e2⟩ | ⟨e1,e2⟩ <;> rcases zg8 (a:=s1.ar) (b:=s.ar) (i:=i) with ⟨q,f1,f2⟩ | ⟨f1,f2⟩ <;> simp only [e1,e2,f1,f2] at hl ⊢ <;>
    (repeat' split at hl) <;> first | omega | (simp only [*,xc1,xcw]; first | exact hl | omega) | skip
   all_goals simp_all
  | none=>
   simp only [E2,ho1] at ho;split at ho
   ·cases ho
   ·rename_i hk;have hlt:=hs.live b o ho;have hM:=hc.mf b j v hv ⟨hlt,hk⟩;have hl:=(hs.mem b j v hM).2 o ho;obtain ⟨k,i,p⟩:=o;have hnr:(k=1\/k=5)->zan s.rw i≠none->zan s1.rw i=none:=fun hkk hne=>by
     cases h1:zan s1.rw i with
     | none=>rfl
     | some r=>
      rcases nr.2 i (zdj h1) with h0 | h0
      ·have:=zlv (kb:=zam s0.bx) (kr:=zam s0.rw) (km:=zam s0.mp) (ka:=zam s0.ar) ho (.inr (.inl ⟨hkk,h0⟩));rw [hK,hk] at this; cases this
      ·exact absurd h0.1 hne
    have hna:(k=3\/k=6)->zan s.ar i≠none->zan s1.ar i=none:=fun hkk hne=>by
     cases h1:zan s1.ar i with
     | none=>rfl
     | some r=>
      rcases na.2 i (zdj h1) with h0 | h0
      ·have:=zlv (kb:=zam s0.bx) (kr:=zam s0.rw) (km:=zam s0.mp) (ka:=zam s0.ar) ho (.inr (.inr (.inr ⟨hkk,h0⟩)));rw [hK,hk] at this; cases this
      ·exact absurd h0.1 hne
    simp only [zcs] at hl;by_cases h1:k=1/\p=0
    ·rw [xad h1] at hl;have hne:zan s.rw i≠none:=fun e=>by rw [e] at hl; simp at hl
     simp only [zcs,S.over,xad h1,zdn,hnr (.inl h1.1) hne];exact hl
    ·rw [xab h1] at hl;by_cases h5:k=5
     ·rw [xad h5] at hl;have hne:zan s.rw i≠none:=fun e=>by rw [e] at hl; simp at hl
      simp only [zcs,S.over,xab h1,xad h5,zdn,hnr (.inr h5) hne];exact hl
     ·rw [xab h5] at hl;by_cases h6:k=6
      ·rw [xad h6] at hl;have hne:zan s.ar i≠none:=fun e=>by rw [e] at hl; simp at hl
       simp only [zcs,S.over,xab h1,xab h5,xad h6,zdn,hna (.inr h6) hne];exact hl
      ·rw [xab h6] at hl; omega
 ·simp only [S.over] at hi
  rcases zg8 (a:=s1.bx) (b:=s.bx) (i:=i) with ⟨v,e1,e2⟩ | ⟨e1,e2⟩
  ·rw [e2] at hi; cases hi;obtain ⟨b,h1,h2,t,vs,h3,h4,h5⟩:=hc.bx i cs e1;exact ⟨b,hE1.bx i b h1,hown1 h2,t,vs,h3,h4,fun j v c hv hcc=>(h5 j v c hv hcc).monoE hE1⟩
  ·rw [e2] at hi;obtain ⟨b,h1,h2,t,vs,h3,h4,h5⟩:=hs.bx i cs hi;obtain ⟨g1,g2,g3⟩:=hrest h2 (hlab h2 (by
    rintro (⟨_,h⟩ | ⟨h,_⟩ | ⟨h,_⟩ | ⟨h,_⟩)
    ·exact kne (nb.1 i h) e1
    ·omega
    ·omega
    ·omega))
   exact ⟨b,hE.bx i b h1,g3,t,vs,by rw [g1]; exact h3,h4,fun j v c hv hcc=>(h5 j v c hv hcc).mono hc.m0 hE⟩
 ·simp only [S.over] at hi
  rcases zg8 (a:=s1.bx) (b:=s.bx) (i:=i) with ⟨v,e1,e2⟩ | ⟨e1,e2⟩
  ·rw [e2] at hi; cases hi
  ·rw [e2] at hi;simp only [E2,hc.bxn i e1,hs.bxn i hi]
 ·simp only [S.over] at hi
  rcases zg8 (a:=s1.rw) (b:=s.rw) (i:=i) with ⟨v,e1,e2⟩ | ⟨e1,e2⟩
  ·rw [e2] at hi; cases hi;obtain ⟨q,h1,hok⟩:=hc.rw i r e1;exact ⟨q,by simp only [E2,h1],hok.mono (fun _ _ _ h=>h) hE1 (fun b h=>⟨hown1 h,rfl⟩) (fun b p h=>⟨hown1 h,rfl⟩)⟩
  ·rw [e2] at hi;obtain ⟨q,h1,hok⟩:=hs.rw i r hi;have hnk:zam s0.rw i=true->False:=fun h=>kne (nr.1 i h) e1;have key:∀ b p k,(k=1\/k=5)->E.own b=some (k,i,p)->E2.own b=some (k,i,p)/\w'.heap[b]?=w.heap[b]?:=fun b p k hk h=>by
    obtain ⟨g1,g2,g3⟩:=hrest h (hlab h (by
     rintro (⟨h,_⟩ | ⟨_,h⟩ | ⟨h,_⟩ | ⟨h,_⟩)
     ·omega
     ·exact hnk h
     ·omega
     ·omega))
    exact ⟨g3,g1⟩
   exact ⟨q,by simp only [E2,hc.rwn i e1,h1],hok.mono hc.m0 hE (fun b h=>key b 0 1 (.inl rfl) h) (fun b p h=>key b p 5 (.inr rfl) h)⟩
 ·simp only [S.over] at hi
  rcases zg8 (a:=s1.rw) (b:=s.rw) (i:=i) with ⟨v,e1,e2⟩ | ⟨e1,e2⟩
  ·rw [e2] at hi; cases hi
  ·rw [e2] at hi;simp only [E2,hc.rwn i e1,hs.rwn i hi]
 ·simp only [S.over] at hi
  rcases zg8 (a:=s1.mp) (b:=s.mp) (i:=i) with ⟨v,e1,e2⟩ | ⟨e1,e2⟩
  ·rw [e2] at hi; cases hi;obtain ⟨r,h1,h2,ents,clock,h3,h4,h5⟩:=hc.mp i es e1;exact ⟨r,hE1.mp i r h1,hown1 h2,ents,clock,h3,h4,fun j e p he hp=>⟨(h5 j e p he hp).1,(h5 j e p he hp).2.monoE (Env.arO_le hE1 _)⟩⟩
  ·rw [e2] at hi;obtain ⟨r,h1,h2,ents,clock,h3,h4,h5⟩:=hs.mp i es hi;obtain ⟨g1,g2,g3⟩:=hrest h2 (hlab h2 (by
    rintro (⟨h,_⟩ | ⟨h,_⟩ | ⟨_,h⟩ | ⟨h,_⟩)
    ·omega
    ·omega
    ·exact kne (nm.1 i h) e1
    ·omega))
   exact ⟨r,hE.mp i r h1,g3,ents,clock,by rw [g1]; exact h3,h4,fun j e p he hp=>⟨(h5 j e p he hp).1.mono hc.m0,(h5 j e p he hp).2.mono hc.m0 (Env.arO_le hE _)⟩⟩
 ·simp only [S.over] at hi
  rcases zg8 (a:=s1.mp) (b:=s.mp) (i:=i) with ⟨v,e1,e2⟩ | ⟨e1,e2⟩
  ·rw [e2] at hi; cases hi
  ·rw [e2] at hi;simp only [E2,hc.mpn i e1,hs.mpn i hi]
 ·simp only [S.over] at hi
  rcases zg8 (a:=s1.ar) (b:=s.ar) (i:=i) with ⟨v,e1,e2⟩ | ⟨e1,e2⟩
  ·rw [e2] at hi; cases hi;obtain ⟨bs,h1,hok⟩:=hc.ar i r e1;exact ⟨bs,by simp only [E2,h1],hok.mono (fun _ _ _ h=>h) hE1 (fun b p h=>⟨hown1 h,rfl⟩) (fun b p h=>⟨hown1 h,rfl⟩)⟩
  ·rw [e2] at hi;obtain ⟨bs,h1,hok⟩:=hs.ar i r hi;have hnk:zam s0.ar i=true->False:=fun h=>kne (na.1 i h) e1;have key:∀ b p k,(k=3\/k=6)->E.own b=some (k,i,p)->E2.own b=some (k,i,p)/\w'.heap[b]?=w.heap[b]?:=fun b p k hk h=>by
    obtain ⟨g1,g2,g3⟩:=hrest h (hlab h (by
     rintro (⟨h,_⟩ | ⟨h,_⟩ | ⟨h,_⟩ | ⟨_,h⟩)
     ·omega
     ·omega
     ·omega
     ·exact hnk h))
    exact ⟨g3,g1⟩
   exact ⟨bs,by simp only [E2,hc.arn i e1,h1],hok.mono hc.m0 hE (fun b p h=>key b p 3 (.inl rfl) h) (fun b p h=>key b p 6 (.inr rfl) h)⟩
 ·simp only [S.over] at hi
  rcases zg8 (a:=s1.ar) (b:=s.ar) (i:=i) with ⟨v,e1,e2⟩ | ⟨e1,e2⟩
  ·rw [e2] at hi; cases hi
  ·rw [e2] at hi;simp only [E2,hc.arn i e1,hs.arn i hi]
 ·cases ho1:E1.own b with
  | some o1=>exact hc.live b o1 ho1
  | none=>
   simp only [E2,ho1] at ho;split at ho
   ·cases ho
   ·exact xbi (hs.live b o ho) hsz
 ·obtain ⟨h1,h2,h3⟩:=hs.foreign b hb;have:=hc.foreign b ⟨h1,hKn b h3⟩;exact ⟨xbi h1 hsz,by rw [this.2.1]; exact h2,by simp only [E2,this.2.2,hKn b h3,h3]⟩
 ·obtain ⟨h1,h2,h3⟩:=hs.foreign b hF;exact hs.mf b j v (hc.mf b j v hv ⟨h1,hKn b h3⟩) hF
theorem St.borrowed {g:Gh}{N:Nat}{M M0 M':Mem}{E E1:Env}{s:S}{tmps:Array Value}{w w':World}(hs:St g N M E s tmps w)
  (hc:St ⟨w,fun b=>b<w.heap.size,M0,Env.none⟩ 0 M' E1 S.none #[] w'):St g N M E s tmps w':=by
 have hb:∀ b,b<w.heap.size->w'.heap[b]?=w.heap[b]?:=fun b h=>(hc.foreign b h).2.1;have hg:Grow w w' (fun _=>False):=⟨hc.os,hc.tape,hc.output,hc.grow,fun b h _=>hb b h⟩;exact hs.grow' (fun _=>False) (fun _ _ h=>h.elim) hg (Env.le_refl E) (fun _ _ _=>rfl) (fun b o h=>xbi (hs.live b o h) hc.grow) rfl (fun b j v h=>h.elim) (fun b o _ _=>xaf _)
  (fun i cs h=>.inl ⟨h,fun _ _ h=>h⟩) hs.bxn (fun i r h=>.inl ⟨h,rfl,fun _ _ _ h=>h⟩) hs.rwn (fun i es h=>.inl ⟨h,fun _ _ h=>h⟩) hs.mpn (fun i r h=>.inl ⟨h,rfl,fun _ _ _ h=>h⟩) hs.arn
end Go.Dm
namespace Go.Dm
open Go Go.RowKit
def sw1 (a b i:Nat):Nat:=match Nat.beq i a with
 | true=>b
 | false=>match Nat.beq i b with
  | true=>a
  | false=>i
def swL:List (Nat×Nat)->Nat->Nat
 | [],i=>i
 | (a,b)::l,i=>swL l (sw1 a b i)
def swR:List (Nat×Nat)->Nat->Nat
 | [],i=>i
 | (a,b)::l,i=>sw1 a b (swR l i)
theorem sw1_eq (a b i:Nat):sw1 a b i=if i=a then b else if i=b then a else i:=by
 unfold sw1;split
 ·rename_i h; rw [xad (zbc h)]
 ·rename_i h;rw [xab (beq_false h)];split
  ·rename_i h'; rw [xad (zbc h')]
  ·rename_i h'; rw [xab (beq_false h')]
theorem sw1_sw1 (a b i:Nat):sw1 a b (sw1 a b i)=i:=by
 simp only [sw1_eq];by_cases h1:i=a
 ·subst h1;simp only [xc1];by_cases h2:b=i
  ·subst h2; simp
  ·simp [h2]
 ·by_cases h2:i=b
  ·subst h2; simp [h1]
  ·simp [h1,h2]
theorem swR_L:∀ (l:List (Nat×Nat)) (i:Nat),swR l (swL l i)=i
 | [],i=>rfl
 | (a,b)::l,i=>by simp only [swL,swR,swR_L l]; exact sw1_sw1 a b i
theorem swL_R:∀ (l:List (Nat×Nat)) (i:Nat),swL l (swR l i)=i
 | [],i=>rfl
 | (a,b)::l,i=>by simp only [swL,swR,sw1_sw1]; exact swL_R l i
def dget:List (Nat×Nat)->Nat->Nat
 | [],_=>0
 | (j,v)::l,i=>match Nat.beq i j with
  | true=>v
  | false=>dget l i
structure Ren where
 b:List (Nat×Nat)
 r:List (Nat×Nat)
 m:List (Nat×Nat)
 d:List (Nat×Nat)
mutual
def AV.ren (σ:Ren):AV->AV
 | .ptr i o=>.ptr (swL σ.b i) o
 | .row i v=>.row (swL σ.r i) (v+dget σ.d i)
 | .rowv i v o n=>.rowv (swL σ.r i) (v+dget σ.d i) o n
 | .ep i v k o=>.ep (swL σ.r i) (v+dget σ.d i) k o
 | .mp i=>.mp (swL σ.m i)
 | .popt b x=>.popt b (AV.ren σ x)
 | .fn f cs=>.fn f (AV.renL σ cs)
 | .agg cs=>.agg (AV.renL σ cs)
 | .tup cs=>.tup (AV.renL σ cs)
 | .when c x=>.when c (AV.ren σ x)
 | x=>x
def AV.renL (σ:Ren):List AV->List AV
 | []=>[]
 | x::l=>AV.ren σ x::AV.renL σ l
end
theorem zhg (σ:Ren):∀ l,AV.renL σ l=l.map (AV.ren σ)
 | []=>rfl
 | x::l=>by simp only [AV.renL,zhg σ l,xa9]
def renF (σ:Ren):List (Nat×AV)->List (Nat×AV)
 | []=>[]
 | (i,x)::l=>(i,x.ren σ)::renF σ l
def renB (σ:Ren):List (Nat×List AV)->List (Nat×List AV)
 | []=>[]
 | (i,x)::l=>(swL σ.b i,AV.renL σ x)::renB σ l
def renR (σ:Ren):List (Nat×Rw)->List (Nat×Rw)
 | []=>[]
 | (i,⟨ty,sz,ver,k,cm,nl,pu,ns,xs⟩)::l=>(swL σ.r i,⟨ty,sz,ver+dget σ.d i,k,cm,nl,pu,ns,xs⟩)::renR σ l
def renM (σ:Ren):List (Nat×List (AV×AV))->List (Nat×List (AV×AV))
 | []=>[]
 | (i,x)::l=>(swL σ.m i,x)::renM σ l
def S.ren (σ:Ren)(s:S):S:=⟨renF σ s.fr,renB σ s.bx,renR σ s.rw,renM σ s.mp,s.ar⟩
theorem swL_inj {l:List (Nat×Nat)}{i j:Nat}(h:swL l i=swL l j):i=j:=by rw [<- swR_L l i,h,swR_L]
theorem renF_get (σ:Ren):∀ (l:List (Nat×AV)) (i:Nat),zan (renF σ l) i=(zan l i).map (AV.ren σ)
 | [],i=>rfl
 | (j,x)::l,i=>by
  simp only [renF,zai,renF_get σ l i];split <;> rfl
theorem renB_get (σ:Ren):∀ (l:List (Nat×List AV)) (i:Nat),zan (renB σ l) (swL σ.b i)=(zan l i).map (AV.renL σ)
 | [],i=>rfl
 | (j,x)::l,i=>by
  simp only [renB,zai,renB_get σ l i];by_cases h:i=j
  ·subst h; simp
  ·rw [xab (fun e=>h (swL_inj e)),xab h]
theorem zn3 (σ:Ren):∀ (l:List (Nat×Rw)) (i:Nat),zan (renR σ l) (swL σ.r i)=(zan l i).map fun r=>{ r with ver:=r.ver+dget σ.d i }
 | [],i=>rfl
 | (j,⟨ty,sz,ver,k,cm,nl,pu,ns,xs⟩)::l,i=>by
  simp only [renR,zai,zn3 σ l i];by_cases h:i=j
  ·subst h; simp
  ·rw [xab (fun e=>h (swL_inj e)),xab h]
theorem renM_get (σ:Ren):∀ (l:List (Nat×List (AV×AV))) (i:Nat),zan (renM σ l) (swL σ.m i)=zan l i
 | [],i=>rfl
 | (j,x)::l,i=>by
  simp only [renM,zai,renM_get σ l i];by_cases h:i=j
  ·subst h; simp
  ·rw [xab (fun e=>h (swL_inj e)),xab h]
def zlj (fb fr fm:Nat->Nat)(o:Nat×Nat×Nat):Nat×Nat×Nat:=
 if o.1=0 then (o.1,fb o.2.1,o.2.2) else if o.1=1\/o.1=5 then (o.1,fr o.2.1,o.2.2) else if o.1=2 then (o.1,fm o.2.1,o.2.2) else o
def Env.fwd (σ:Ren)(E:Env):Env where
 bx j:=E.bx (swR σ.b j)
 rw j:=(E.rw (swR σ.r j)).map fun q=>{ q with ver:=q.ver+dget σ.d (swR σ.r j) }
 mp j:=E.mp (swR σ.m j)
 ar:=E.ar
 own b:=(E.own b).map (zlj (swL σ.b) (swL σ.r) (swL σ.m))
def Env.back (σ:Ren)(E:Env):Env where
 bx i:=E.bx (swL σ.b i)
 rw i:=(E.rw (swL σ.r i)).map fun q=>{ q with ver:=q.ver - dget σ.d i }
 mp i:=E.mp (swL σ.m i)
 ar:=E.ar
 own b:=(E.own b).map (zlj (swR σ.b) (swR σ.r) (swR σ.m))
theorem fwd_rw {E:Env}{σ:Ren}{i:Nat}{q:RwE}(h:E.rw i=some q):(E.fwd σ).rw (swL σ.r i)=some { q with ver:=q.ver+dget σ.d i }:=by simp only [Env.fwd,swR_L,h,xbl]
theorem back_rw {E:Env}{σ:Ren}{i:Nat}{q:RwE}(h:E.rw (swL σ.r i)=some q):(E.back σ).rw i=some { q with ver:=q.ver - dget σ.d i }:=by simp only [Env.back,h,xbl]
section
variable {M:Mem}{E:Env}{σ:Ren}
theorem renL_get {cs:List AV}{j:Nat}{c:AV}(h:(AV.renL σ cs)[j]?=some c):∃ c0,cs[j]?=some c0/\c=c0.ren σ:=by
 rw [zhg,xbf,xay] at h;obtain ⟨c0,h0,e⟩:=h;exact ⟨c0,h0,e.symm⟩
theorem RelS.fwd {v:Value}{x:AV}(h:RelS M E v x):RelS M (E.fwd σ) v (x.ren σ):=by
 induction h with
 | pure h=>cases h <;> exact .pure (by constructor <;> assumption)
 | any h=>exact .any h
 | ptr i off b h=>exact .ptr _ off b (by simp [Env.fwd,swR_L,h])
 | row i vr n c a q hq hv h=>exact .row _ _ n c a _ (fwd_rw hq) (by show vr+_<=q.ver+_; omega) (fun e=>h (by have e:vr+dget σ.d i=q.ver+dget σ.d i:=e; omega))
 | rowv i vr off m n c a q hq hv h=>exact .rowv _ _ off m n c a _ (fwd_rw hq) (by show vr+_<=q.ver+_; omega) (fun e=>h (by have e:vr+dget σ.d i=q.ver+dget σ.d i:=e; omega))
 | ep i vr k off ad q hq hv h=>exact .ep _ _ k off ad _ (fwd_rw hq) (by show vr+_<=q.ver+_; omega) (fun e=>h (by have e:vr+dget σ.d i=q.ver+dget σ.d i:=e; omega))
 | aptr i k off bs b h hk=>exact .aptr i k off bs b h hk
 | mp i r h=>exact .mp _ r (by simp [Env.fwd,swR_L,h])
 | popt b x ht hf ih=>simp only [AV.ren]; exact .popt b _ ih hf
 | fn f vs cs hl h ih=>
  simp only [AV.ren];refine .fn f vs _ (by rw [zhg,xa5]; exact hl) fun j v c hv hc=>?_;obtain ⟨c0,h0,rfl⟩:=renL_get hc;exact ih j v c0 hv h0
theorem Rel.fwd {v:Value}{x:AV}(h:Rel M E v x):Rel M (E.fwd σ) v (x.ren σ):=by
 induction h with
 | cell h=>exact .cell h.fwd
 | agg vs cs hl h=>
  simp only [AV.ren];refine .agg vs _ (by rw [zhg,xa5]; exact hl) fun j v c hv hc=>?_;obtain ⟨c0,h0,rfl⟩:=renL_get hc;exact (h j v c0 hv h0).fwd
 | tup vs cs hl h ih=>
  simp only [AV.ren];refine .tup vs _ (by rw [zhg,xa5]; exact hl) fun j v c hv hc=>?_;obtain ⟨c0,h0,rfl⟩:=renL_get hc;exact ih j v c0 hv h0
 | any v=>simp only [AV.ren]; exact .any v
 | when v c x h hu ih=>simp only [AV.ren]; exact .when v c _ ih hu
theorem RelP.ren_inv {v:Value}{y x:AV}(h:RelP M v y)(e:y=x.ren σ):y=x:=by
 cases h <;> cases x <;> simp only [AV.ren] at e <;> first | exact e | (cases e; done) | (cases e; rfl)
theorem RelS.back {v:Value}{y:AV}(h:RelS M E v y):∀ x:AV,y=x.ren σ->RelS M (E.back σ) v x:=by
 induction h with
 | pure h=>intro x e; have:=h.ren_inv e; subst this; exact .pure h
 | any h=>
  intro x e;cases x <;> simp only [AV.ren] at e <;> cases e;exact .any h
 | ptr i off b h=>
  intro x e;cases x <;> simp only [AV.ren] at e <;> cases e;exact .ptr _ _ b h
 | row i vr n c a q hq hv h=>
  intro x e;cases x <;> simp only [AV.ren] at e <;> cases e;rename_i i0 v0;exact .row i0 v0 n c a _ (back_rw hq) (by show v0<=q.ver - _; omega) (fun e=>h (by have e:v0=q.ver - dget σ.d i0:=e; omega))
 | rowv i vr off m n c a q hq hv h=>
  intro x e;cases x <;> simp only [AV.ren] at e <;> cases e;rename_i i0 v0;exact .rowv i0 v0 _ _ n c a _ (back_rw hq) (by show v0<=q.ver - _; omega) (fun e=>h (by have e:v0=q.ver - dget σ.d i0:=e; omega))
 | ep i vr k off ad q hq hv h=>
  intro x e;cases x <;> simp only [AV.ren] at e <;> cases e;rename_i i0 v0;exact .ep i0 v0 _ _ ad _ (back_rw hq) (by show v0<=q.ver - _; omega) (fun e=>h (by have e:v0=q.ver - dget σ.d i0:=e; omega))
 | aptr i k off bs b h hk=>
  intro x e;cases x <;> simp only [AV.ren] at e <;> cases e;exact .aptr _ _ _ bs b h hk
 | mp i r h=>
  intro x e;cases x <;> simp only [AV.ren] at e <;> cases e;exact .mp _ r h
 | popt b x ht hf ih=>
  intro y e;cases y <;> simp only [AV.ren] at e <;> cases e;exact .popt _ _ (fun hb=>ih hb _ rfl) hf
 | fn f vs cs hl h ih=>
  intro y e;cases y <;> simp only [AV.ren] at e <;> cases e;refine .fn _ vs _ (by rw [hl,zhg,xa5]) fun j v c hv hc=>?_;exact ih j v (c.ren σ) hv (by rw [zhg,xbf,hc]; rfl) c rfl
theorem Rel.back {v:Value}{y:AV}(h:Rel M E v y):∀ x:AV,y=x.ren σ->Rel M (E.back σ) v x:=by
 induction h with
 | cell h=>intro x e; exact .cell (h.back x e)
 | agg vs cs hl h=>
  intro y e;cases y <;> simp only [AV.ren] at e <;> cases e;refine .agg vs _ (by rw [hl,zhg,xa5]) fun j v c hv hc=>?_;exact (h j v (c.ren σ) hv (by rw [zhg,xbf,hc]; rfl)).back c rfl
 | tup vs cs hl h ih=>
  intro y e;cases y <;> simp only [AV.ren] at e <;> cases e;refine .tup vs _ (by rw [hl,zhg,xa5]) fun j v c hv hc=>?_;exact ih j v (c.ren σ) hv (by rw [zhg,xbf,hc]; rfl) c rfl
 | any v=>
  intro y e;cases y <;> simp only [AV.ren] at e <;> cases e;exact .any v
 | when v c x h hu ih=>
  intro y e;cases y <;> simp only [AV.ren] at e <;> cases e;exact .when v _ _ (fun hc=>ih hc _ rfl) hu
end
theorem zin {E E':Env}(h:E'.ar=E.ar)(ns:List Nat):(E.arO ns).le (E'.arO ns):=by
 refine ⟨fun i b e=>(by cases e),fun i q e=>(by cases e),fun i r e=>(by cases e),fun i bs e=>⟨[],?_⟩⟩;simp only [Env.arO,h,xbh] at e ⊢;exact e
theorem relab_inv {fb fr fm gb gr gm:Nat->Nat}(hb:∀ i,gb (fb i)=i)(hr:∀ i,gr (fr i)=i)(hm:∀ i,gm (fm i)=i)(o:Nat×Nat×Nat):zlj gb gr gm (zlj fb fr fm o)=o:=by
 obtain ⟨k,i,p⟩:=o;unfold zlj;by_cases h0:k=0
 ·simp [h0,hb]
 ·by_cases h1:k=1\/k=5
  ·simp [h0,h1,hr]
  ·by_cases h2:k=2
   ·simp [h0,h1,h2,hm]
   ·simp [h0,h1,h2]
theorem sealN_ren (σ:Ren)(s:S)(o:Nat×Nat×Nat):zcs (s.ren σ) (zlj (swL σ.b) (swL σ.r) (swL σ.m) o)=zcs s o:=by
 obtain ⟨k,i,p⟩:=o;by_cases h1:k=1
 ·subst h1;simp only [zlj,zcs,S.ren];simp only [show ¬ ((1:Nat)=0) by omega,xcw,true_or,xc1,zn3];cases zan s.rw i <;> simp
 ·by_cases h5:k=5
  ·subst h5;simp only [zlj,zcs,S.ren];simp only [show ¬ ((5:Nat)=0) by omega,show ¬ ((5:Nat)=1) by omega,xcw,or_true,xc1,zn3,false_and];cases zan s.rw i <;> simp
  ·by_cases h0:k=0
   ·subst h0; simp [zlj,zcs]
   ·by_cases h2:k=2
    ·subst h2; simp [zlj,zcs]
    ·simp [zlj,zcs,S.ren,h0,h1,h2,h5]
section
variable {g:Gh}{N:Nat}{M:Mem}{E:Env}{s:S}{tmps:Array Value}{w:World}
def noH:List (Nat×Arn)->Bool
 | []=>true
 | (_,r)::l=>match memN 7 r.ns with
  | true=>false
  | false=>noH l
theorem noH_get:∀ {l:List (Nat×Arn)} {i:Nat} {r:Arn},noH l=true->zan l i=some r->memN 7 r.ns=false
 | [],_,_,_,e=>by cases e
 | (j,y)::l,i,r,hl,e=>by
  simp only [noH] at hl;split at hl
  ·cases hl
  ·rename_i h7;rw [zai] at e;by_cases c:i=j
   ·rw [xad c] at e; cases e; exact h7
   ·rw [xab c] at e; exact noH_get hl e
def mpR (σ:List (Nat×Nat)):List (Nat×List (AV×AV))->Bool
 | []=>true
 | (i,_)::l=>match spM i with
  | true=>match spM (swL σ i) with | true=>mpR σ l | false=>false
  | false=>match spM (swL σ i) with | true=>false | false=>mpR σ l
theorem mpR_get {σ:List (Nat×Nat)}:∀ {l:List (Nat×List (AV×AV))} {i:Nat} {es:List (AV×AV)},mpR σ l=true->zan l i=some es->mns (swL σ i)=mns i
 | [],_,_,_,e=>by cases e
 | (j,y)::l,i,es,hl,e=>by
  have key:mpR σ l=true/\spM (swL σ j)=spM j:=by
   simp only [mpR] at hl;cases h1:spM j <;> cases h2:spM (swL σ j) <;> simp only [h1,h2] at hl <;> first | (cases hl; done) | exact ⟨hl,rfl⟩
  rw [zai] at e;by_cases c:i=j
  ·subst c; unfold mns; rw [key.2]
  ·rw [xab c] at e; exact mpR_get key.1 e
theorem St.fwd (hs:St g N M E s tmps w)(σ:Ren)(h2:p2R s.rw=true)(h3:mpR σ.m s.mp=true)(h4:noH s.ar=true):St g N M (E.fwd σ) (s.ren σ) tmps w:=by
 have hb:∀ i',zan (s.ren σ).bx i'=(zan s.bx (swR σ.b i')).map (AV.renL σ):=fun i'=>by
  have:=renB_get σ s.bx (swR σ.b i'); rwa [swL_R] at this
 have hr:∀ i',zan (s.ren σ).rw i'=(zan s.rw (swR σ.r i')).map fun r=>{ r with ver:=r.ver+dget σ.d (swR σ.r i') }:=fun i'=>by
  have:=zn3 σ s.rw (swR σ.r i'); rwa [swL_R] at this
 have hm:∀ i',zan (s.ren σ).mp i'=zan s.mp (swR σ.m i'):=fun i'=>by
  have:=renM_get σ s.mp (swR σ.m i'); rwa [swL_R] at this
 refine hs.weak (fun i y hi=>?_) (fun i' cs' hi=>?_) (fun i hi=>?_) (fun i' r' hi=>?_) (fun i hi=>?_) (fun i' es' hi=>?_) (fun i hi=>?_) (fun i r hi=>⟨hi,rfl,fun b p h=>?_,fun b p h=>?_,zin (E:=E) (E':=E.fwd σ) rfl _,fun h7=>by rw [noH_get h4 hi] at h7; cases h7⟩) hs.arn (fun b o' ho=>?_)
 ·simp only [S.ren,renF_get,xay] at hi;obtain ⟨x,hx,rfl⟩:=hi;exact ⟨x,hx,fun v hv=>hv.fwd⟩
 ·rw [hb] at hi;obtain ⟨cs,hcs,rfl⟩:=xay.1 hi;refine ⟨_,cs,hcs,fun b h=>h,fun b h=>?_,by rw [zhg,xa5],fun j c c' v h1 h2 hv=>?_⟩
  ·simp [Env.fwd,h,zlj,swL_R]
  ·obtain ⟨c0,h0,rfl⟩:=renL_get h2;rw [h1] at h0; cases h0;exact hv.fwd
 ·rw [hb,xe2] at hi;exact hs.bxn _ hi
 ·rw [hr] at hi;obtain ⟨r,hr0,rfl⟩:=xay.1 hi;refine ⟨_,r,hr0,fun q hq=>?_,fun b h=>?_,fun b p h=>?_,rfl,rfl,.inl rfl,rfl,rfl,rfl,xaf _,fun h=>h,fun _=>Env.arP_of (p2R_get h2 hr0) (zin (E:=E) (E':=E.fwd σ) rfl _)⟩
  ·obtain ⟨q',hq',hok⟩:=hs.rw _ r hr0;rw [hq] at hq'; cases hq';simp only [Env.fwd,hq,xbl,hok.ver]
  ·simp [Env.fwd,h,zlj,swL_R]
  ·simp [Env.fwd,h,zlj,swL_R]
 ·rw [hr,xe2] at hi;simp [Env.fwd,hs.rwn _ hi]
 ·rw [hm] at hi;refine ⟨_,es',hi,fun b h=>h,fun b h=>?_,rfl,fun j c c' h1 h2=>?_⟩
  ·simp [Env.fwd,h,zlj,swL_R]
  ·rw [h1] at h2;cases h2;refine ⟨rfl,fun v hv=>?_⟩;have h4:=mpR_get h3 hi;rw [swL_R] at h4;rw [h4];exact hv.monoE (zin (E:=E) (E':=E.fwd σ) rfl _)
 ·rw [hm] at hi;exact hs.mpn _ hi
 ·simp [Env.fwd,h,zlj]
 ·simp [Env.fwd,h,zlj]
 ·simp only [Env.fwd,xay] at ho;obtain ⟨o,ho,rfl⟩:=ho;exact ⟨o,ho,fun j hj=>by rw [sealN_ren]; exact hj⟩
theorem St.back {σ:Ren}(hs:St g N M E (s.ren σ) tmps w)(h2:p2R s.rw=true)(h3:mpR σ.m s.mp=true)(h4:noH s.ar=true):St g N M (E.back σ) s tmps w:=by
 refine hs.weak (fun i y hi=>?_) (fun i cs hi=>?_) (fun i hi=>?_) (fun i r hi=>?_) (fun i hi=>?_) (fun i es hi=>?_) (fun i hi=>?_) (fun i r hi=>⟨hi,rfl,fun b p h=>?_,fun b p h=>?_,zin (E:=E) (E':=E.back σ) rfl _,fun h7=>by rw [noH_get h4 hi] at h7; cases h7⟩) hs.arn (fun b o' ho=>?_)
 ·exact ⟨y.ren σ,by simp only [S.ren,renF_get,hi,xbl],fun v hv=>hv.back y rfl⟩
 ·refine ⟨swL σ.b i,AV.renL σ cs,by simp only [S.ren,renB_get,hi,xbl],fun b h=>h,fun b h=>?_,by rw [zhg,xa5],fun j c c' v h1 h2 hv=>?_⟩
  ·simp [Env.back,h,zlj,swR_L]
  ·obtain ⟨c0,h0,rfl⟩:=renL_get h1;rw [h2] at h0; cases h0;exact hv.back _ rfl
 ·exact hs.bxn _ (by simp only [S.ren,renB_get,hi,xdy])
 ·refine ⟨swL σ.r i,{ r with ver:=r.ver+dget σ.d i },by simp only [S.ren,zn3,hi,xbl],fun q hq=>?_,fun b h=>?_,fun b p h=>?_,rfl,rfl,.inl rfl,rfl,rfl,rfl,xaf _,fun h=>h,fun _=>Env.arP_of (show r.pu<=2 from p2R_get h2 hi) (zin (E:=E) (E':=E.back σ) rfl _)⟩
  ·obtain ⟨q',hq',hok⟩:=hs.rw (swL σ.r i) { r with ver:=r.ver+dget σ.d i } (by simp only [S.ren,zn3,hi,xbl]);rw [hq] at hq'; cases hq';have:=hok.ver;simp only [Env.back,hq,xbl];congr 2;simp only at this;omega
  ·simp [Env.back,h,zlj,swR_L]
  ·simp [Env.back,h,zlj,swR_L]
 ·simp only [Env.back,hs.rwn (swL σ.r i) (by simp only [S.ren,zn3,hi,xdy]),xdy]
 ·refine ⟨swL σ.m i,es,by simp only [S.ren,renM_get,hi],fun b h=>h,fun b h=>?_,rfl,fun j c c' h1 h2=>?_⟩
  ·simp [Env.back,h,zlj,swR_L]
  ·rw [h2] at h1;cases h1;refine ⟨rfl,fun v hv=>?_⟩;rw [mpR_get h3 hi] at hv;exact hv.monoE (zin (E:=E) (E':=E.back σ) rfl _)
 ·exact hs.mpn _ (by simp only [S.ren,renM_get,hi])
 ·simp [Env.back,h,zlj]
 ·simp [Env.back,h,zlj]
 ·simp only [Env.back,xay] at ho;obtain ⟨o,ho,rfl⟩:=ho;refine ⟨o,ho,fun j hj=>?_⟩;rw [<- sealN_ren σ s,relab_inv (swL_R σ.b) (swL_R σ.r) (swL_R σ.m)];exact hj
end
theorem Pe.ren {P:Program}{f:FuncId}{s0 s1:S}{args:List AV}{r:AV}(h:Pe P f s0 args r s1)(σ:Ren)(p0:p2R s0.rw=true:=by kernel_rfl)(p1:p2R s1.rw=true:=by kernel_rfl)(m0:mpR σ.m s0.mp=true:=by kernel_rfl)(m1:mpR σ.m s1.mp=true:=by kernel_rfl)(a0:noH s0.ar=true:=by kernel_rfl)(a1:noH s1.ar=true:=by kernel_rfl):Pe P f (s0.ren σ) (AV.renL σ args) (r.ren σ) (s1.ren σ):=by
 refine ⟨h.b,fun w M E F vs hs hr=>?_⟩;have hr0:RelL M (E.back σ) vs args:=⟨by rw [hr.1,zhg,xa5],fun j v c hv hc=>(hr.2 j v (c.ren σ) hv (by rw [zhg,xbf,hc]; rfl)).back c rfl⟩;refine (h.c w M (E.back σ) F vs (hs.back p0 m0 a0) hr0).mono ?_;rintro e w' ⟨M',E1,v,rfl,hle,hst,hv⟩;refine ⟨M',E1.fwd σ,v,rfl,⟨fun j b b' hb hb'=>?_,fun j q q' hq hq'=>?_,fun j r r' hr hr'=>?_,fun j bs bs' hb hb'=>hle.ar j bs bs' hb hb'⟩,hst.fwd σ p1 m1 a1,hv.fwd⟩
 ·exact hle.bx (swR σ.b j) b b' (by simp only [Env.back,swL_R]; exact hb) hb'
 ·simp only [Env.fwd,xay] at hq';obtain ⟨q1,e1,rfl⟩:=hq';obtain ⟨e2,e3⟩:=hle.rw (swR σ.r j) { q with ver:=q.ver - dget σ.d (swR σ.r j) } q1 (by simp only [Env.back,swL_R,hq,xbl]) e1;refine ⟨?_,fun e=>?_⟩
  ·have e2:q.ver - dget σ.d (swR σ.r j)<=q1.ver:=e2;show q.ver<=q1.ver+dget σ.d (swR σ.r j);omega
  ·have e:q.ver=q1.ver+dget σ.d (swR σ.r j):=e;exact e3 (by show q.ver - dget σ.d (swR σ.r j)=q1.ver; omega)
 ·exact hle.mp (swR σ.m j) r r' (by simp only [Env.back,swL_R]; exact hr) hr'
end Go.Dm
namespace Go.Dm
open Go
inductive TK where
 | int (k:IntKind)
 | bool
 | str
 | ptr (e:TypeId)
 | slice (e:TypeId)
 | struct (flds:List (TypeId×Nat)) (eq:Bool)
 | func
 | map (k e:TypeId)
 | arr (e:TypeId) (n:Nat)
 | iface
 | other
structure TI where
 k:TK
 sz:Nat
 bytes:Nat
 zero:List AV
 cz:List Nat
abbrev zbn:=TypeId->Option TI
def AV.zv:AV->Value
 | .int k n=>.int k n
 | .bool b=>.bool b
 | .str s=>.string ⟨s.toArray⟩
 | .nils=>.slice none 0 0
 | .nilp=>.pointer none
 | .nilfn=>.nilFunc
 | .nilmp=>.map none
 | .ifc true=>.nilIface
 | _=>undef
def AV.isZ:AV->Bool
 | .int _ _ | .bool _ | .str _ | .nils | .nilp | .nilfn | .nilmp | .ifc true=>true
 | _=>false
def TK.agg:TK->Bool
 | .struct _ _=>true
 | .arr _ _=>true
 | _=>false
def TKOk (P:Program)(t:TypeId):TK->Prop
 | .int k=>P.underlying t=some (.int k)
 | .bool=>P.underlying t=some .bool
 | .str=>P.underlying t=some .string
 | .ptr e=>P.underlying t=some (.pointer e)
 | .slice e=>P.underlying t=some (.slice e)
 | .struct fl eq=>∃ fs,P.underlying t=some (.struct fs)/\fs.toList.map (fun f=>(f.type,f.offset))=fl/\
   (eq=true->P.stoodInHeld t=false/\P.eqGuardType P.depth t=false/\fs.toList.all (fun f=>decide (f.name≠"_"))=true)
 | .func=>∃ ps rs v,P.underlying t=some (.func ps rs v)
 | .map k e=>P.underlying t=some (.map k e)
 | .arr e n=>P.underlying t=some (.array n e)
 | .iface=>∃ ms,P.underlying t=some (.interface ms)
 | .other=>∃ d,P.underlying t=some d/\(match d with | .struct _=>false | .array _ _=>false | _=>true)=true
def _root_.Go.Value.isAgg':Value->Bool
 | .agg _=>true
 | _=>false
structure TyOk1 (P:Program)(t:TypeId)(i:TI):Prop where
 info:∃ inf z,P.info? t=some inf/\inf.size=i.sz/\inf.bytes=i.bytes/\inf.zero=some z/\z.cells.toList=i.zero.map AV.zv
 lit:i.zero.all AV.isZ=true
 len:i.zero.length=i.sz
 kind:TKOk P t i.k
 one:i.k.agg=false->i.sz=1
 ag:∀ inf z,P.info? t=some inf->inf.zero=some z->z.isAgg'=i.k.agg
def zgl (P:Program)(τ:zbn):Prop:=∀ t i,τ t=some i->TyOk1 P t i
def ofConst:Value->Option AV
 | .int k n=>some (.int k n)
 | .bool b=>some (.bool b)
 | .string s=>some (.str s.data.toList)
 | .slice none 0 0=>some .nils
 | .pointer none=>some .nilp
 | .nilFunc=>some .nilfn
 | .map none=>some .nilmp
 | .nilIface=>some (.ifc true)
 | _=>none
def val (s:S):Operand->Option AV
 | .tmp i=>zan s.fr i
 | .const v=>ofConst v
 | .func f=>some (.fn f [])
 | .global _=>none
def nrmC:List Nat->List AV->List AV
 | (n+1)::l,.nils::r=>.sl (n+1) []::nrmC l r
 | _::l,x::r=>x::nrmC l r
 | [],r=>r
 | _,[]=>[]
def norm (τ:zbn)(t:TypeId)(x:AV):AV:=
 match τ t with
 | some ti=>match x with
  | .agg cs=>.agg (nrmC ti.cz cs)
  | .nils=>match ti.cz with
   | [n+1]=>.sl (n+1) []
   | _=>.nils
  | x=>x
 | none=>x
def normL (τ:zbn):List TypeId->List AV->List AV
 | t::ts,x::l=>norm τ t x::normL τ ts l
 | _,l=>l
def zhy (s:S)(o:Operand):Option AV:=
 match val s o with
 | some (.when _ x)=>some x
 | x=>x
def findA (d:Nat):List (Nat×Bool)->Option Bool
 | []=>none
 | (e,c)::l=>match Nat.beq d e with
  | true=>some c
  | false=>findA d l
def matchA (A:List (Nat×Bool)):List (Nat×Bool)->Option (List (Bool×Bool))
 | []=>some []
 | (d,c)::l=>match findA d A with
  | some c'=>match matchA A l with
   | some r=>some ((c',c)::r)
   | none=>none
  | none=>none
def whenOf (A:List (Nat×Bool))(s:S)(o:Operand):Option (List (Bool×Bool)):=
 match val s o with
 | some (.when cs _)=>matchA A cs
 | _=>some []
def obs (A:List (Nat×Bool))(s:S):List Operand->Option (List (Bool×Bool))
 | []=>some []
 | x::l=>match whenOf A s x with
  | some e=>match obs A s l with
   | some r=>some (e++r)
   | none=>none
  | none=>none
def zfq (n:Int):UInt8:=UInt8.ofNat (n % 256).toNat
def nrm (k:IntKind)(n:Int):Int:=
 match k with
 | .u8=>((zfq n).toNat:Int)
 | k=>k.wrap n
def zeh (op:BinOp)(k:IntKind)(a b:Int):Int:=
 match op with
 | .and=>nrm k ((BitVec.ofInt k.bits a &&& BitVec.ofInt k.bits b).toNat:Int)
 | .or=>nrm k ((BitVec.ofInt k.bits a ||| BitVec.ofInt k.bits b).toNat:Int)
 | .xor=>nrm k ((BitVec.ofInt k.bits a ^^^ BitVec.ofInt k.bits b).toNat:Int)
 | .andNot=>nrm k ((BitVec.ofInt k.bits a &&& ~~~ BitVec.ofInt k.bits b).toNat:Int)
 | _=>0
abbrev Key:=Nat×Nat
structure Eff where
 x:Option AV
 bx:List (Nat×List AV)
 rw:List (Nat×Rw)
 mp:List (Nat×List (AV×AV))
 ar:List (Nat×Arn)
inductive An where
 | av (x:AV)
 | xs (l:List AV)
 | nat (n:Int)
 | u8 (b:UInt8)
 | str (s:List UInt8)
 | vw (n:Nat)
 | bo (b:Bool)
 | sealed
 | call (r:AV)
 | callB (r:AV)
 | callR (bs rs ms as:List Nat) (r:AV)
 | callE (bs rs ms as:List Nat) (r:AV) (s1:S)
 | raw (l:List Nat)
 | tr (l:List AV)
 | ubn (b:Bool)
 | ms (l:List (AV×AV))
 | rows
 | callQ (bs:List Nat) (zs:List AV) (r:AV)
 | spm (n:Nat)
structure Res where
 gs:List Prop
 eq:List (Bool×Bool)
 e:Eff
 rd:List Key
 an:List An
def Eff.app (e:Eff)(d:Option Nat)(s:S):S:=
 ⟨(match d,e.x with
  | some i,some x=>(i,x)::s.fr
  | some i,none=>(i,.any)::s.fr
  | none,_=>s.fr),e.bx++s.bx,e.rw++s.rw,e.mp++s.mp,e.ar++s.ar⟩
def retV (an:List An)(x:AV):Option Res:=some ⟨[],[],⟨some x,[],[],[],[]⟩,[],an⟩
def retG (an:List An)(gs:List Prop)(x:AV):Option Res:=some ⟨gs,[],⟨some x,[],[],[],[]⟩,[],an⟩
def retO (an:List An):Option AV->Option Res
 | some x=>retV an x
 | none=>none
def ze8 (s:S)(i v:Nat):Option Rw:=
 match zan s.rw i with
 | some r=>match Nat.beq v r.ver with
  | true=>some r
  | false=>none
 | none=>none
def unp:AV->AV
 | .popt true x=>x
 | x=>x
def AV.isP:AV->Bool
 | .int _ _ | .bool _ | .str _ | .nils | .sl _ _ | .rp _ | .nilp | .nilfn | .nilmp=>true
 | _=>false
def elemOk (pu:Nat)(ns:List Nat):AV->Bool
 | .aptr i _ _=>match pu with
  | 0=>false
  | _+1=>memN i ns
 | .row _ _=>Nat.ble 3 pu
 | x=>x.isP
def zfj (pu:Nat)(ns:List Nat):List AV->Bool
 | []=>true
 | x::l=>match elemOk pu ns x with
  | true=>zfj pu ns l
  | false=>false
def sealC (s:S):AV->Option (AV×List (Nat×Rw))
 | .row i v=>match ze8 s i v with
  | some r=>match r.pu with
   | 0=>some (.sl r.sz r.xs,[(i,{ r with k:=r.xs.length })])
   | _+1=>none
  | none=>none
 | x=>some (x,[])
def sealL (s:S):List AV->Option (List AV×List (Nat×Rw))
 | []=>some ([],[])
 | x::l=>match sealC s x with
  | some (y,e)=>match sealL s l with
   | some (m,f)=>some (y::m,f++e)
   | none=>none
  | none=>none
def sealA (s:S):AV->Option (AV×List (Nat×Rw))
 | .agg cs=>match sealL s cs with
  | some (ds,e)=>some (.agg ds,e)
  | none=>none
 | x=>sealC s x
def sealAL (s:S):List AV->Option (List AV×List (Nat×Rw))
 | []=>some ([],[])
 | x::l=>match sealA s x with
  | some (y,e)=>match sealAL s l with
   | some (m,f)=>some (y::m,f++e)
   | none=>none
  | none=>none
def sealR (τ:zbn)(t:TypeId)(an:List An)(s:S)(x:AV):Option (AV×List (Nat×Rw)):=match an with
 | .rows::_=>some (x,[])
 | _=>sealA s (norm τ t x)
def anR:List An->List An
 | .rows::an=>an
 | an=>an
def zi5:List (Nat×Rw)->List Key
 | []=>[]
 | (i,_)::l=>(2,i)::zi5 l
def evalInt (an:List An)(k:IntKind)(a b:Int):BinOp->Option Res
 | .add=>retV an (.int k (nrm k (a+b)))
 | .sub=>retV an (.int k (nrm k (a - b)))
 | .mul=>retV an (.int k (nrm k (a*b)))
 | .quo=>retG an [b≠0] (.int k (nrm k (a.tdiv b)))
 | .rem=>match k with
  | .u8=>retG an [b≠0,nrm .u8 (a.tmod b)=a.tmod b] (.int .u8 (nrm .u8 (a.tmod b)))
  | k=>retG an [b≠0] (.int k (a.tmod b))
 | .and=>retV an (.int k (zeh .and k a b))
 | .or=>retV an (.int k (zeh .or k a b))
 | .xor=>retV an (.int k (zeh .xor k a b))
 | .andNot=>retV an (.int k (zeh .andNot k a b))
 | .eql=>retV an (.bool (decide (a=b)))
 | .neq=>retV an (.bool (!decide (a=b)))
 | .lss=>retV an (.bool (decide (a<b)))
 | .leq=>retV an (.bool (decide (a<=b)))
 | .gtr=>retV an (.bool (decide (b<a)))
 | .geq=>retV an (.bool (decide (b<=a)))
 | _=>none
def evalShift (an:List An)(k:IntKind)(a b:Int):BinOp->Option Res
 | .shl=>retG an [0<=b] (.int k (nrm k (a*2 ^ (min b.toNat k.bits))))
 | .shr=>match k with
  | .u8=>retG an [0<=b,nrm .u8 (a.fdiv (2 ^ (min b.toNat 8)))=a.fdiv (2 ^ (min b.toNat 8))] (.int .u8 (nrm .u8 (a.fdiv (2 ^ (min b.toNat 8)))))
  | k=>retG an [0<=b] (.int k (a.fdiv (2 ^ (min b.toNat k.bits))))
 | _=>none
def isShift:BinOp->Bool
 | .shl | .shr=>true
 | _=>false
def evalStr (an:List An)(x y:List UInt8):BinOp->Option Res
 | .add=>retG an [x.length+y.length<=9223372036854775807] (.str (x++y))
 | .eql=>retV an (.bool (decide (x=y)))
 | .neq=>retV an (.bool (!decide (x=y)))
 | .lss=>retV an (.bool (Op.bytesLess x y))
 | .leq=>retV an (.bool (!Op.bytesLess y x))
 | .gtr=>retV an (.bool (Op.bytesLess y x))
 | .geq=>retV an (.bool (!Op.bytesLess x y))
 | _=>none
def isBoolT (τ:zbn)(t:TypeId):Bool:=
 match τ t with
 | some ⟨.bool,_,_,_,_⟩=>true
 | _=>false
def evalBool (τ:zbn)(an:List An)(t:TypeId)(x y:Bool):BinOp->Option Res
 | .eql=>match isBoolT τ t with
  | true=>retV an (.bool (x == y))
  | false=>none
 | .neq=>match isBoolT τ t with
  | true=>retV an (.bool (!(x == y)))
  | false=>none
 | _=>none
inductive Sh where
 | int (k:IntKind)
 | bool
 | str
def sameKind:IntKind->IntKind->Bool
 | .i64,.i64 | .i32,.i32 | .u8,.u8 | .u32,.u32 | .u64,.u64=>true
 | _,_=>false
def zgf:List Sh->List AV->Bool
 | [],[]=>true
 | .int k::r,.int k' _::l=>sameKind k k'&&zgf r l
 | .bool::r,.bool _::l=>zgf r l
 | .str::r,.str _::l=>zgf r l
 | _,_=>false
def shapes (f:TypeId->Option (List Sh)):Nat->List (TypeId×Nat)->Option (List Sh)
 | _,[]=>some []
 | o,(t,off)::l=>match Nat.beq off o with
  | true=>match f t with
   | some a=>match shapes f (o+a.length) l with
    | some b=>some (a++b)
    | none=>none
   | none=>none
  | false=>none
def zme (τ:zbn):Nat->TypeId->Option (List Sh)
 | 0,_=>none
 | n+1,t=>match τ t with
  | some ⟨.int k,_,_,_,_⟩=>some [.int k]
  | some ⟨.bool,_,_,_,_⟩=>some [.bool]
  | some ⟨.str,_,_,_,_⟩=>some [.str]
  | some ⟨.struct fl true,sz,_,_,_⟩=>match shapes (zme τ n) 0 fl with
   | some sh=>match Nat.beq sh.length sz with
    | true=>some sh
    | false=>none
   | none=>none
  | _=>none
def eqB:List AV->List AV->Option Bool
 | [],[]=>some true
 | .int _ a::l,.int _ b::r=>match eqB l r with
  | some e=>some (decide (a=b)&&e)
  | none=>none
 | .str a::l,.str b::r=>match eqB l r with
  | some e=>some (decide (a=b)&&e)
  | none=>none
 | .bool a::l,.bool b::r=>match eqB l r with
  | some e=>some ((a == b)&&e)
  | none=>none
 | _,_=>none
def evalAgg (τ:zbn)(an:List An)(t:TypeId)(cs ds:List AV)(op:BinOp):Option Res:=
 match τ t with
 | some ⟨.struct _ _,_,_,_,_⟩=>match zme τ 5 t with
  | some sh=>match zgf sh cs with
   | true=>match zgf sh ds with
    | true=>match eqB cs ds with
     | some e=>match op with
      | .eql=>retV an (.bool e)
      | .neq=>retV an (.bool (!e))
      | _=>none
     | none=>none
    | false=>none
   | false=>none
  | none=>none
 | _=>none
def evalBin (τ:zbn)(an:List An)(t:TypeId)(op:BinOp):AV->AV->Option Res
 | .int k a,.int k' b=>match isShift op with
  | true=>evalShift an k a b op
  | false=>match sameKind k k' with
   | true=>evalInt an k a b op
   | false=>none
 | .str x,.str y=>evalStr an x y op
 | .bool x,.bool y=>evalBool τ an t x y op
 | .agg cs,.agg ds=>evalAgg τ an t cs ds op
 | _,_=>none
def zgi:List AV->Nat->Nat->Option (List AV)
 | _,_,0=>some []
 | [],_,_+1=>none
 | x::l,0,n+1=>match zgi l 0 n with
  | some r=>some (x::r)
  | none=>none
 | _::l,o+1,n+1=>zgi l o (n+1)
def zjv:List AV->Nat->List AV->Option (List AV)
 | l,_,[]=>some l
 | [],_,_::_=>none
 | _::l,0,v::vs=>match zjv l 0 vs with
  | some r=>some (v::r)
  | none=>none
 | x::l,o+1,v::vs=>match zjv l o (v::vs) with
  | some r=>some (x::r)
  | none=>none
def nth {α:Type}:List α->Nat->Option α
 | [],_=>none
 | x::_,0=>some x
 | _::l,n+1=>nth l n
def ziu (i:TI)(cs:List AV)(off:Nat):Option AV:=
 match i.k.agg with
 | true=>match zgi cs off i.sz with
  | some r=>some (.agg r)
  | none=>none
 | false=>nth cs off
def fldOf (τ:zbn)(st:TypeId)(f:Nat):Option (TI×Nat):=
 match τ st with
 | some ⟨.struct fl _,_,_,_,_⟩=>
  match nth fl f with
  | some (t,off)=>match τ t with
   | some i=>match i.sz with
    | 0=>none
    | _+1=>some (i,off)
   | none=>none
  | none=>none
 | _=>none
def znr (τ:zbn)(an:List An)(st f:Nat):AV->Option Res
 | .ptr i o=>match fldOf τ st f with
  | some (_,off)=>retV an (.ptr i (o+off))
  | none=>none
 | .ep i v k o=>match fldOf τ st f with
  | some (_,off)=>retV an (.ep i v k (o+off))
  | none=>none
 | .aptr i k o=>match fldOf τ st f with
  | some (_,off)=>retV an (.aptr i k (o+off))
  | none=>none
 | .rp (.agg cs)=>match fldOf τ st f with
  | some (i,off)=>match ziu i cs off with
   | some x=>retV an (.rp x)
   | none=>none
  | none=>none
 | _=>none
def evalField (τ:zbn)(an:List An)(st f:Nat):AV->Option Res
 | .agg cs=>match fldOf τ st f with
  | some (i,off)=>retO an (ziu i cs off)
  | none=>none
 | _=>none
def fits (i:TI):AV->Bool
 | .agg cs=>match i.k.agg with
  | true=>Nat.beq cs.length i.sz
  | false=>false
 | .tup _=>false
 | .any=>false
 | .when _ _=>false
 | _=>!i.k.agg
def evalLoad (τ:zbn)(s:S)(an:List An)(t:TypeId):AV->Option Res
 | .ptr i o=>match τ t with
  | some ti=>match zan s.bx i with
   | some cs=>match ziu ti cs o with
    | some x=>some ⟨[],[],⟨some x,[],[],[],[]⟩,[(1,i)],an⟩
    | none=>none
   | none=>none
  | none=>none
 | .rp x=>match τ t with
  | some ti=>match fits ti x with
   | true=>retV an x
   | false=>none
  | none=>none
 | _=>none
def zat:List AV->Bool
 | []=>true
 | x::l=>match x.isCell with
  | true=>zat l
  | false=>false
def zm0 (τ:zbn)(s:S)(an:List An)(t:TypeId)(x:AV):AV->Option Res
 | .ptr i o=>match τ t with
  | some ti=>match zan s.bx i with
   | some cs=>match Nat.beq x.cells.length ti.sz with
    | true=>match zat x.cells with
     | true=>match zjv cs o x.cells with
      | some cs'=>some ⟨[],[],⟨none,[(i,cs')],[],[],[]⟩,[(1,i)],an⟩
      | none=>none
     | false=>none
    | false=>none
   | none=>none
  | none=>none
 | _=>none
def zno (d:Option Nat)(s:S)(an:List An)(cs:List AV):Option Res:=
 match d with
 | some i=>match zan s.bx i with
  | none=>match zat cs&&Nat.blt i nB with
   | true=>some ⟨[],[],⟨some (.ptr i 0),[(i,cs)],[],[],[]⟩,[(1,i)],an⟩
   | false=>none
  | some _=>none
 | none=>none
def evalExtract (an:List An)(i:Nat):AV->Option Res
 | .tup vs=>retO an (nth vs i)
 | _=>none
def pickB (A:List (Nat×Bool))(d:Nat)(p:Bool):AV->Option (List (Bool×Bool)×Bool)
 | .bool x=>some ([],x)
 | .when cs (.bool x)=>match matchA ((d,p)::A) cs with
  | some e=>some (e,x)
  | none=>none
 | _=>none
def isT:Operand->Bool
 | .const (.bool true)=>true
 | _=>false
def isF:Operand->Bool
 | .const (.bool false)=>true
 | _=>false
def pickV (a b:Operand)(p u v:Bool):Bool:=
 match isT a with
 | true=>p||v
 | false=>match isF b with
  | true=>p&&u
  | false=>bif p then u else v
def evalPick (A:List (Nat×Bool))(an:List An)(a b:Operand)(d:Nat)(p:Bool)(x y:AV):Option Res:=
 match pickB A d p x with
 | some (g,u)=>match pickB A d (!p) y with
  | some (h,v)=>some ⟨[],g++h,⟨some (.bool (pickV a b p u v)),[],[],[],[]⟩,[],an⟩
  | none=>none
 | none=>none
def evalNilCheck (an:List An):AV->Option Res
 | .ptr i o=>retV an (.ptr i o)
 | .rp x=>retV an (.rp x)
 | .ep i v k o=>retV an (.ep i v k o)
 | .aptr i k o=>retV an (.aptr i k o)
 | _=>none
def evalUn (an:List An)(x:AV):UnOp->Option Res
 | .not=>match x with
  | .bool b=>retV an (.bool (!b))
  | _=>none
 | .neg=>match x with
  | .int k n=>retV an (.int k (nrm k (0 - n)))
  | _=>none
 | .xor=>match x with
  | .int k n=>retV an (.int k (zeh .xor k (if k.signed then -1 else k.max) n))
  | _=>none
 | _=>none
def u8s (l:List UInt8):List AV:=l.map fun b=>.int .u8 (b.toNat:Int)
def isBytes (τ:zbn)(t:TypeId):Bool:=
 match τ t with
 | some ⟨.slice e,_,_,_,_⟩=>match τ e with
  | some ⟨.int .u8,_,_,_,_⟩=>true
  | _=>false
 | _=>false
def evalConv (τ:zbn)(an:List An)(src dst:TypeId):AV->Option Res
 | .int _ n=>match τ dst with
  | some ⟨.int k,_,_,_,_⟩=>retV an (.int k (nrm k n))
  | _=>none
 | .str x=>match τ dst with
  | some ⟨.str,_,_,_,_⟩=>retV an (.str x)
  | _=>none
 | .sl sz xs=>match τ dst with
  | some ⟨.str,_,_,_,_⟩=>match isBytes τ src with
   | true=>match Nat.beq sz 1 with
    | true=>match an with
     | .str l::an=>retG an [xs=u8s l] (.str l)
     | _=>none
    | false=>none
   | false=>none
  | _=>none
 | .nils=>match τ dst with
  | some ⟨.str,_,_,_,_⟩=>match isBytes τ src with
   | true=>retV an (.str [])
   | false=>none
  | _=>none
 | _=>none
def vals (s:S):List Operand->Option (List AV)
 | []=>some []
 | x::l=>match zhy s x,vals s l with
  | some v,some vs=>some (v::vs)
  | _,_=>none
def fill (τ:zbn)(s:S)(st:TypeId):List AV->List (Nat×Operand)->Option (List AV)
 | cs,[]=>some cs
 | cs,(f,x)::r=>
  match fldOf τ st f with
  | some (i,off)=>match zhy s x with
   | some v=>match Nat.beq v.cells.length i.sz with
    | true=>match zat v.cells with
     | true=>match zjv cs off v.cells with
      | some cs'=>fill τ s st cs' r
      | none=>none
     | false=>none
    | false=>none
   | none=>none
  | none=>none
def allTy (τ:zbn):List (TypeId×Nat)->Bool
 | []=>true
 | (t,_)::l=>match τ t with
  | some _=>allTy τ l
  | none=>false
def arrOf (τ:zbn)(t:TypeId):Option (TI×Nat):=
 match τ t with
 | some ⟨.arr e n,_,_,_,_⟩=>match τ e with
  | some i=>match i.sz with
   | 0=>none
   | _+1=>some (i,n)
  | none=>none
 | _=>none
def fillA (s:S)(sz:Nat):List AV->List (Nat×Operand)->Option (List AV)
 | cs,[]=>some cs
 | cs,(f,x)::r=>
  match zhy s x with
  | some v=>match Nat.beq v.cells.length sz with
   | true=>match zat v.cells with
    | true=>match zjv cs (f*sz) v.cells with
     | some cs'=>fillA s sz cs' r
     | none=>none
    | false=>none
   | false=>none
  | none=>none
def evalBuild (τ:zbn)(s:S)(an:List An)(t:TypeId)(parts:List (Nat×Operand)):Option Res:=
 match τ t with
 | some ⟨.struct fl _,_,_,z,_⟩=>
  match allTy τ fl with
  | true=>match fill τ s t z parts with
   | some cs=>retV an (.agg cs)
   | none=>none
  | false=>none
 | some ⟨.arr _ _,_,_,z,_⟩=>match arrOf τ t with
  | some (ie,_)=>match fillA s ie.sz z parts with
   | some cs=>retV an (.agg cs)
   | none=>none
  | none=>none
 | _=>none
def evalLen (s:S)(an:List An):TK->AV->Option Res
 | .slice _,.sl _ xs=>match an with
  | .nat n::an=>retG an [n=(xs.length:Int)] (.int .i64 n)
  | _=>none
 | .slice _,.nils=>retV an (.int .i64 0)
 | .str,.str x=>retV an (.int .i64 x.length)
 | .slice _,.row i v=>match ze8 s i v with
  | some r=>match an with
   | .nat n::an=>some ⟨[n=(r.xs.length:Int)],[],⟨some (.int .i64 n),[],[],[],[]⟩,[(2,i)],an⟩
   | _=>none
  | none=>none
 | .slice _,.rowv i v _ n=>match ze8 s i v with
  | some _=>some ⟨[],[],⟨some (.int .i64 n),[],[],[],[]⟩,[(2,i)],an⟩
  | none=>none
 | .map _ _,.mp i=>match zan s.mp i with
  | some es=>match an with
   | .nat n::an=>some ⟨[n=(es.length:Int)],[],⟨some (.int .i64 n),[],[],[],[]⟩,[(3,i)],an⟩
   | _=>none
  | none=>none
 | _,_=>none
def evalCap (an:List An):TK->AV->Option Res
 | .slice _,.nils=>retV an (.int .i64 0)
 | _,_=>none
def evalMinMax (mx:Bool)(an:List An):List AV->Option Res
 | [.int k a,.int k' b]=>match sameKind k k' with
  | true=>match k with
   | .u8=>none
   | _=>retV an (.int k (match mx with | true=>max a b | false=>min a b))
  | false=>none
 | _=>none
def evalFn (an:List An)(f:FuncId)(caps:Option (List AV)):Option Res:=
 match caps with
 | some vs=>match zat vs with
  | true=>retV an (.fn f vs)
  | false=>none
 | none=>none
def elemSz (τ:zbn)(t:TypeId):Option Nat:=
 match τ t with
 | some ⟨.slice e,_,_,_,_⟩=>match τ e with
  | some i=>some i.sz
  | none=>none
 | _=>none
def zgp (τ:zbn)(s:S)(an:List An)(t:TypeId):AV->AV->Option Res
 | .sl sz xs,.int _ n=>match elemSz τ t with
  | some z=>match Nat.beq sz z with
   | true=>match an with
    | .av u::an=>retG an [0<=n/\xs[n.toNat]?=some u] (.rp u)
    | _=>none
   | false=>none
  | none=>none
 | .row i v,.int _ n=>match elemSz τ t with
  | some z=>match ze8 s i v with
   | some r=>match Nat.beq r.sz z with
    | true=>some ⟨[0<=n/\n.toNat<r.xs.length],[],⟨some (.ep i v n.toNat 0),[],[],[],[]⟩,[(2,i)],an⟩
    | false=>none
   | none=>none
  | none=>none
 | .rowv i v off m,.int _ n=>match elemSz τ t with
  | some z=>match ze8 s i v with
   | some r=>match Nat.beq r.sz z with
    | true=>some ⟨[0<=n/\n.toNat<m],[],⟨some (.ep i v (off+n.toNat) 0),[],[],[],[]⟩,[(2,i)],an⟩
    | false=>none
   | none=>none
  | none=>none
 | .ptr i o,.int _ n=>match arrOf τ t with
  | some (ie,m)=>retG an [0<=n/\n<(m:Int)] (.ptr i (o+n.toNat*ie.sz))
  | none=>none
 | _,_=>none
def evalIndex (τ:zbn)(an:List An)(t:TypeId):AV->AV->Option Res
 | .str x,.int _ n=>match τ t with
  | some ⟨.str,_,_,_,_⟩=>match an with
   | .u8 b::an=>retG an [0<=n/\x[n.toNat]?=some b] (.int .u8 (b.toNat:Int))
   | _=>none
  | _=>none
 | .agg cs,.int _ n=>match arrOf τ t with
  | some (ie,m)=>match ziu ie cs (n.toNat*ie.sz) with
   | some x=>retG an [0<=n/\n<(m:Int)] x
   | none=>none
  | none=>none
 | _,_=>none
def zg6 (s:S):Option Operand->Option (Option Int)
 | none=>some none
 | some o=>match zhy s o with
  | some (.int .i64 n)=>some (some n)
  | _=>none
def evalSlice (τ:zbn)(an:List An)(t:TypeId)(lo hi:Option Int):AV->Option Res
 | .sl sz xs=>match elemSz τ t with
  | some z=>match Nat.beq sz z with
   | true=>match an with
    | .xs ys::an=>match lo,hi with
     | none,none=>retG an [ys=xs] (.sl sz ys)
     | some a,none=>retG an [0<=a/\a.toNat<=xs.length/\ys=xs.drop a.toNat] (.sl sz ys)
     | none,some b=>retG an [0<=b/\b.toNat<=xs.length/\ys=xs.take b.toNat] (.sl sz ys)
     | some a,some b=>retG an [0<=a/\a<=b/\b.toNat<=xs.length/\ys=(xs.take b.toNat).drop a.toNat] (.sl sz ys)
    | _=>none
   | false=>none
  | none=>none
 | .str x=>match τ t with
  | some ⟨.str,_,_,_,_⟩=>match lo,hi with
   | none,none=>retV an (.str x)
   | some a,none=>retG an [0<=a/\a.toNat<=x.length] (.str (x.drop a.toNat))
   | none,some b=>retG an [0<=b/\b.toNat<=x.length] (.str (x.take b.toNat))
   | some a,some b=>retG an [0<=a/\a<=b/\b.toNat<=x.length] (.str ((x.take b.toNat).drop a.toNat))
  | _=>none
 | .nils=>match elemSz τ t with
  | some _=>match lo,hi with
   | none,none=>retV an .nils
   | some a,none=>retG an [a=0] .nils
   | none,some b=>retG an [b=0] .nils
   | some a,some b=>retG an [a=0/\b=0] .nils
  | none=>none
 | _=>none
def ziw (τ:zbn)(s:S)(an:List An)(t:TypeId)(i v k o:Nat):Option Res:=
 match τ t with
 | some ti=>match ze8 s i v with
  | some r=>match an with
   | .av u::an=>match ziu ti u.cells o with
    | some x=>match zat x.cells with
     | true=>match fits ti x with
      | true=>some ⟨[r.xs[k]?=some u],[],⟨some x,[],[],[],[]⟩,[(2,i)],an⟩
      | false=>none
     | false=>none
    | none=>none
   | _=>none
  | none=>none
 | none=>none
def putCells (ag:Bool)(u:AV)(o:Nat)(cs:List AV):Option AV:=
 match zjv u.cells o cs with
 | some ds=>match ag with
  | true=>some (.agg ds)
  | false=>match ds with
   | [d]=>match d.isCell with
    | true=>some d
    | false=>none
   | _=>none
 | none=>none
def zhm (τ:zbn)(s:S)(an:List An)(t:TypeId)(x:AV)(i v k o:Nat):Option Res:=
 match τ t with
 | some ti=>match ze8 s i v with
  | some r=>match sealR τ t an s x with
   | some (y,e)=>match zam e i with
    | false=>match Nat.beq y.cells.length ti.sz with
     | true=>match zfj r.pu r.ns y.cells with
      | true=>match anR an with
       | .av u :: .xs zs::an=>match zgi u.cells o ti.sz with
        | some old=>match zat old with
         | true=>match putCells (match τ r.ty with | some te=>te.k.agg | none=>false) u o y.cells with
          | some u'=>some ⟨[r.xs[k]?=some u,zs=r.xs.set k u',r.k<=k],[],⟨none,[],(i,{ r with xs:=zs })::e,[],[]⟩,(2,i)::zi5 e,an⟩
          | none=>none
         | false=>none
        | none=>none
       | _=>none
      | false=>none
     | false=>none
    | true=>none
   | none=>none
  | none=>none
 | none=>none
def zmy (τ:zbn)(d:Option Nat)(s:S)(t:TypeId)(A n:Nat)(l:List Nat)(zs:List AV)(an:List An)(x:AV):Option Res:=none
def zkq (τ:zbn)(s:S)(an:List An)(t:TypeId)(A k o:Nat):Option Res:=none
def zi0 (τ:zbn)(s:S)(an:List An)(t:TypeId)(x:AV)(A k o:Nat):Option Res:=none
def zgc (τ:zbn)(s:S)(an:List An)(t:TypeId)(lo hi:Option Int)(i v:Nat):Option Res:=
 match elemSz τ t with
 | some z=>match ze8 s i v with
  | some r=>match Nat.beq r.sz z with
   | true=>match an with
    | .vw n::an=>match lo,hi with
     | none,none=>some ⟨[n=r.xs.length],[],⟨some (.rowv i v 0 n),[],[],[],[]⟩,[(2,i)],an⟩
     | some a,none=>some ⟨[0<=a/\a.toNat+n=r.xs.length],[],⟨some (.rowv i v a.toNat n),[],[],[],[]⟩,[(2,i)],an⟩
     | none,some b=>some ⟨[0<=b/\n=b.toNat/\(b.toNat<=r.xs.length\/b.toNat<=r.cm)],[],⟨some (.rowv i v 0 n),[],[],[],[]⟩,[(2,i)],an⟩
     | some a,some b=>some ⟨[0<=a/\0<=b/\a.toNat+n=b.toNat/\(b.toNat<=r.xs.length\/b.toNat<=r.cm)],[],⟨some (.rowv i v a.toNat n),[],[],[],[]⟩,[(2,i)],an⟩
    | .xs ys::an=>match r.pu with
     | 0=>match evalSlice τ [.xs ys] t lo hi (.sl r.sz r.xs) with
      | some q=>some ⟨q.gs,q.eq,⟨q.e.x,[],[(i,{ r with k:=r.xs.length })],[],[]⟩,[(2,i)],an⟩
      | none=>none
     | _+1=>none
    | .tr ys::an=>match lo,hi with
     | none,some b=>match Nat.ble r.pu 1 with
      | true=>some ⟨[0<=b/\b.toNat<=r.xs.length/\r.k<=b.toNat/\ys=r.xs.take b.toNat],[],⟨some (.row i (v+1)),[],[(i,{ r with ver:=r.ver+1,cm:=r.xs.length,nl:=false,xs:=ys })],[],[]⟩,[(2,i)],an⟩
      | false=>none
     | _,_=>none
    | _=>none
   | false=>none
  | none=>none
 | none=>none
def zkr (τ:zbn)(s:S)(an:List An)(t:TypeId)(lo hi:Option Int)(i v off m:Nat):Option Res:=none
def zkx (s:S)(an:List An)(a b m:Int):AV->Option Res:=fun _=>none
def srcOf (s:S)(sz:Nat)(u8:Bool):AV->Option (List AV×List Prop×List Key)
 | .sl z ys=>match Nat.beq z sz with
  | true=>some (ys,[],[])
  | false=>none
 | .nils=>some ([],[],[])
 | .str l=>match u8 with
  | true=>some (u8s l,[],[])
  | false=>none
 | .row j v=>match ze8 s j v with
  | some r=>match r.pu with
   | 0=>match Nat.beq r.sz sz with
    | true=>some (r.xs,[],[(2,j)])
    | false=>none
   | _+1=>none
  | none=>none
 | .rowv j v off n=>match ze8 s j v with
  | some r=>match r.pu with
   | 0=>match Nat.beq r.sz sz with
    | true=>some ((r.xs.drop off).take n,[off+n<=r.xs.length],[(2,j)])
    | false=>none
   | _+1=>none
  | none=>none
 | _=>none
def srcA (s:S)(sz:Nat)(ns:List Nat):AV->Option (List AV×List Prop×List Key)
 | .row j v=>match ze8 s j v with
  | some r=>match r.pu with
   | 1=>match allN (fun i=>memN i ns) r.ns with
    | true=>match Nat.beq r.sz sz with
     | true=>some (r.xs,[],[(2,j)])
     | false=>none
    | false=>none
   | _=>none
  | none=>none
 | .rowv j v off n=>match ze8 s j v with
  | some r=>match r.pu with
   | 1=>match allN (fun i=>memN i ns) r.ns with
    | true=>match Nat.beq r.sz sz with
     | true=>some ((r.xs.drop off).take n,[off+n<=r.xs.length],[(2,j)])
     | false=>none
    | false=>none
   | _=>none
  | none=>none
 | _=>none
def zgo:List AV->List AV
 | []=>[]
 | x::l=>x.cells++zgo l
def srcX (s:S)(sz:Nat):AV->Option (List AV×List Prop×List Key)
 | .row j v=>match ze8 s j v with
  | some r=>match r.pu with
   | 0=>none
   | _+1=>match zfj 3 [] (zgo r.xs) with
    | true=>match Nat.beq r.sz sz with
     | true=>some (r.xs,[],[(2,j)])
     | false=>none
    | false=>none
  | none=>none
 | _=>none
def srcAny (s:S)(sz:Nat)(u8:Bool)(pu:Nat)(ns:List Nat)(x:AV):Option (List AV×List Prop×List Key):=
 match srcOf s sz u8 x with
 | some r=>some r
 | none=>match pu with
  | 0=>none
  | _+1=>match Nat.ble 3 pu with
   | true=>srcX s sz x
   | false=>srcA s sz ns x
def isU8 (τ:zbn)(e:TypeId):Bool:=
 match τ e with
 | some ⟨.int .u8,_,_,_,_⟩=>true
 | _=>false
def isStrT (τ:zbn)(t:TypeId):Bool:=
 match τ t with
 | some ⟨.str,_,_,_,_⟩=>true
 | _=>false
def isSlT (τ:zbn)(t:TypeId):Bool:=
 match τ t with
 | some ⟨.slice _,_,_,_,_⟩=>true
 | _=>false
def appendTo (s:S)(an:List An)(bytes:Nat)(i:Nat)(r:Rw)(full:Bool)(n0:Nat)(u8:Bool)(x2:AV)(rd:List Key):Option Res:=
 match srcAny s r.sz u8 r.pu r.ns x2 with
 | some (ys,gs,ks)=>match an with
  | .xs zs::an=>match Nat.ble 1 bytes with
   | true=>match Nat.ble 1 r.sz with
    | true=>some ⟨[zs=(bif full then r.xs else r.xs.take n0)++ys,zs.length*bytes<=140737488351232]++((bif full then [] else [n0<=r.xs.length/\r.k<=n0])++gs),[],
      ⟨some (.row i (r.ver+1)),[],[(i,{ r with ver:=r.ver+1,cm:=bif full then r.cm else r.xs.length,nl:=bif full then r.nl else false,xs:=zs })],[],[]⟩,(2,i)::(ks++rd),an⟩
    | false=>none
   | false=>none
  | _=>none
 | none=>none
def zk0 (τ:zbn)(s:S)(an:List An)(d:Option Nat)(t t2:TypeId)(x1 x2:AV):Option Res:=
 match τ t with
 | some ⟨.slice e,_,_,_,_⟩=>match τ e with
  | some ie=>
   match isStrT τ t2||isSlT τ t2 with
   | true=>match x1 with
    | .row i v=>match ze8 s i v with
     | some r=>match Nat.beq r.ty e with
      | true=>match Nat.beq r.sz ie.sz with
       | true=>appendTo s an ie.bytes i r true 0 (isU8 τ e) x2 []
       | false=>none
      | false=>none
     | none=>none
    | .rowv i v 0 n=>match ze8 s i v with
     | some r=>match Nat.beq r.ty e with
      | true=>match Nat.beq r.sz ie.sz with
       | true=>match Nat.ble r.pu 1 with
        | true=>appendTo s an ie.bytes i r false n (isU8 τ e) x2 []
        | false=>none
       | false=>none
      | false=>none
     | none=>none
    | .nils=>match d with
     | some i=>match zan s.rw i with
      | none=>match Nat.blt i nB with
       | true=>appendTo s an ie.bytes i ⟨e,ie.sz,0,0,0,true,0,[],[]⟩ true 0 (isU8 τ e) x2 [(2,i)]
       | false=>none
      | some _=>none
     | none=>none
    | _=>none
   | false=>none
  | none=>none
 | _=>none
def zj6:Nat->List (Nat×Operand)->Option (List Operand)
 | _,[]=>some []
 | k,(i,x)::l=>match Nat.beq i k with
  | true=>match zj6 (k+1) l with
   | some r=>some (x::r)
   | none=>none
  | false=>none
def sizesOk (sz:Nat):List AV->Bool
 | []=>true
 | x::l=>match Nat.beq x.cells.length sz with
  | true=>sizesOk sz l
  | false=>false
def normE (τ:zbn)(e:TypeId):List AV->List AV
 | []=>[]
 | x::l=>norm τ e x::normE τ e l
def arNames:List AV->List Nat
 | []=>[]
 | .aptr i _ _::l=>i::arNames l
 | _::l=>arNames l
def sealB (τ:zbn)(e:TypeId)(an:List An)(s:S)(vs:List AV):Option (List AV×List (Nat×Rw)):=match an with
 | .rows::_=>some (vs,[])
 | _=>sealAL s (normE τ e vs)
def shapeOk (ag:Bool):List AV->Bool
 | []=>true
 | .agg _::l=>match ag with
  | true=>shapeOk ag l
  | false=>false
 | _::l=>match ag with
  | true=>false
  | false=>shapeOk ag l
def zf1 (τ:zbn)(s:S)(an:List An)(d:Option Nat)(t:TypeId)(len:Nat)(parts:List (Nat×Operand)):Option Res:=
 match τ t with
 | some ⟨.slice e,_,_,_,_⟩=>match τ e with
  | some ie=>match zj6 0 parts with
   | some ops=>match Nat.beq ops.length len with
    | true=>match Nat.ble (len*ie.sz) 16777216&&Nat.ble len 16777216 with
     | true=>match vals s ops with
      | some vs=>match sealB τ e an s vs with
       | some (ws,ef)=>match sizesOk ie.sz ws with
        | true=>match shapeOk ie.k.agg ws with
         | true=>match an with
          | .sealed::an=>match zfj 0 [] (zgo ws) with
           | true=>some ⟨[],[],⟨some (.sl ie.sz ws),[],ef,[],[]⟩,zi5 ef,an⟩
           | false=>none
          | .rows::an=>match d with
           | some i=>match zan s.rw i with
            | none=>match zam ef i||Nat.ble nB i with
             | true=>none
             | false=>match zfj 3 [] (zgo ws) with
              | true=>some ⟨[],[],⟨some (.row i 0),[],(i,⟨e,ie.sz,0,0,0,match ws with | []=>false | _::_=>true,3,[],ws⟩)::ef,[],[]⟩,(2,i)::zi5 ef,an⟩
              | false=>none
            | some _=>none
           | none=>none
          | an=>match d with
           | some i=>match zan s.rw i with
            | none=>match zam ef i||Nat.ble nB i with
              | true=>none
              | false=>match zfj 0 [] (zgo ws) with
             | true=>some ⟨[],[],⟨some (.row i 0),[],(i,⟨e,ie.sz,0,0,0,match ws with | []=>false | _::_=>true,0,[],ws⟩)::ef,[],[]⟩,(2,i)::zi5 ef,an⟩
             | false=>match zfj 1 (arNames (zgo ws)) (zgo ws) with
              | true=>some ⟨[],[],⟨some (.row i 0),[],(i,⟨e,ie.sz,0,0,0,match ws with | []=>false | _::_=>true,1,arNames (zgo ws),ws⟩)::ef,[],[]⟩,(2,i)::zi5 ef,an⟩
              | false=>none
            | some _=>none
           | none=>none
         | false=>none
        | false=>none
       | none=>none
      | none=>none
     | false=>none
    | false=>none
   | none=>none
  | none=>none
 | _=>none
def zeroEl (τ:zbn)(e:TypeId)(ie:TI):Option AV:=
 match ie.k.agg with
 | true=>some (norm τ e (.agg ie.zero))
 | false=>match ie.zero with
  | [z]=>some (norm τ e z)
  | _=>none
def zgv (τ:zbn)(s:S)(an:List An)(d:Option Nat)(t:TypeId)(n c:Int):Option Res:=
 match τ t with
 | some ⟨.slice e,_,_,_,_⟩=>match τ e with
  | some ie=>match zeroEl τ e ie with
   | some z=>match d with
    | some i=>match zan s.rw i with
     | none=>match an with
      | .xs zs::an=>match Nat.ble 1 ie.bytes&&zfj 0 [] z.cells&&Nat.blt i nB with
       | true=>some ⟨[0<=n/\n<=c/\c.toNat*ie.bytes<=140737488351232,zs=List.replicate n.toNat z],[],⟨some (.row i 0),[],[(i,⟨e,ie.sz,0,0,0,false,0,[],zs⟩)],[],[]⟩,[(2,i)],an⟩
       | false=>none
      | _=>none
     | some _=>none
    | none=>none
   | none=>none
  | none=>none
 | _=>none
def isI64T (τ:zbn)(t:TypeId):Bool:=
 match τ t with
 | some ⟨.int .i64,_,_,_,_⟩=>true
 | _=>false
def evalAppZ (τ:zbn)(s:S)(an:List An)(d:Option Nat)(t:TypeId)(x1 x2:AV):Option Res:=
 match x1 with
 | .nils=>match x2 with
  | .int .i64 n=>match τ t with
   | some ⟨.slice e,_,_,_,_⟩=>match τ e with
    | some ie=>match zeroEl τ e ie with
     | some z=>match d with
      | some i=>match zan s.rw i with
       | none=>match an with
        | .xs zs::an=>match Nat.ble 1 ie.bytes&&Nat.ble 1 ie.sz&&zfj 0 [] z.cells&&Nat.blt i nB with
         | true=>some ⟨[0<=n/\n.toNat*ie.bytes<=140737488351232,zs=List.replicate n.toNat z],[],⟨some (.row i 0),[],[(i,⟨e,ie.sz,0,0,0,true,0,[],zs⟩)],[],[]⟩,[(2,i)],an⟩
         | false=>none
        | _=>none
       | some _=>none
      | none=>none
     | none=>none
    | none=>none
   | _=>none
  | _=>none
 | _=>none
def evalApp2 (τ:zbn)(s:S)(an:List An)(d:Option Nat)(t t2:TypeId)(x1 x2:AV):Option Res:=
 match isI64T τ t2 with
 | true=>evalAppZ τ s an d t x1 x2
 | false=>zk0 τ s an d t t2 x1 x2
def evalBytesOf (τ:zbn)(an:List An)(dst:TypeId)(l:List UInt8):Option Res:=
 match τ dst with
 | some ⟨.slice e,_,_,_,_⟩=>match τ e with
  | some ⟨.int .u8,sz,_,_,_⟩=>retG an [l.length<=140737488351232] (.sl sz (u8s l))
  | _=>none
 | _=>none
def zkt (τ:zbn)(s:S)(an:List An)(src dst:TypeId)(i v:Nat):Option Res:=none
def zld (τ:zbn)(s:S)(an:List An)(t:TypeId)(i v off n:Nat):Option Res:=
 match τ t with
 | some ⟨.slice e,_,_,_,_⟩=>match τ e with
  | some ie=>match zeroEl τ e ie with
   | some z=>match ze8 s i v with
    | some r=>match Nat.beq r.ty e with
     | true=>match Nat.beq r.sz ie.sz with
      | true=>match Nat.ble r.pu 1 with
       | true=>match zfj 0 [] z.cells with
         | false=>none
         | true=>match an with
        | .xs zs::an=>some ⟨[zs=r.xs.take off++List.replicate (min n (r.xs.length - off)) z++r.xs.drop (off+n),r.k<=off],[],⟨some (.tup []),[],[(i,{ r with xs:=zs })],[],[]⟩,[(2,i)],an⟩
        | _=>none
       | false=>none
      | false=>none
     | false=>none
    | none=>none
   | none=>none
  | none=>none
 | _=>none
def nilB:AV->Option Bool
 | .nilp=>some true
 | .ptr _ _=>some false
 | .rp _=>some false
 | .ep _ _ _ _=>some false
 | .aptr _ _ _=>some false
 | .popt b (.ptr _ _)=>some (!b)
 | .popt b (.rp _)=>some (!b)
 | .popt b (.ep _ _ _ _)=>some (!b)
 | .popt b (.aptr _ _ _)=>some (!b)
 | _=>none
def isPtrT (τ:zbn)(t:TypeId):Bool:=
 match τ t with
 | some ⟨.ptr _,_,_,_,_⟩=>true
 | _=>false
def isNilp:AV->Bool
 | .nilp=>true
 | _=>false
def isIfT (τ:zbn)(t:TypeId):Bool:=
 match τ t with
 | some ⟨.iface,_,_,_,_⟩=>true
 | _=>false
def isNilC:Operand->Bool
 | .const .nilIface=>true
 | _=>false
def evalIf (τ:zbn)(an:List An)(t:TypeId)(v:AV)(y:Operand)(op:BinOp):Option Res:=
 match isIfT τ t&&isNilC y with
 | true=>match v with
  | .ifc b=>match op with
   | .eql=>retV an (.bool b)
   | .neq=>retV an (.bool (!b))
   | _=>none
  | _=>none
 | false=>none
def evalNil (τ:zbn)(an:List An)(t:TypeId)(v u:AV)(y:Operand)(op:BinOp):Option Res:=
 match isPtrT τ t with
 | true=>match isNilp u with
  | true=>match nilB v with
   | some b=>match op with
    | .eql=>retV an (.bool b)
    | .neq=>retV an (.bool (!b))
    | _=>none
   | none=>none
  | false=>none
 | false=>evalIf τ an t v y op
def evalAptr (τ:zbn)(s:S)(an:List An)(t:TypeId)(A k o B j p:Nat)(op:BinOp):Option Res:=none
def zk1 (τ:zbn)(s:S)(an:List An)(t:TypeId)(i v:Nat)(u:AV)(op:BinOp):Option Res:=none
def zix (τ:zbn)(s:S)(an:List An)(d:Option Nat)(t:TypeId):Option Res:=none
def zks (τ:zbn)(s:S)(an:List An)(t:TypeId)(ok:Bool)(x key:AV):Option Res:=none
def zgw (τ:zbn)(s:S)(an:List An)(d:Option Nat)(t:TypeId)(x key v:AV):Option Res:=none
def evalNilSl (τ:zbn)(an:List An)(t:TypeId)(xs:List AV)(u:AV)(op:BinOp):Option Res:=
 match isSlT τ t with
 | true=>match u with
  | .nils=>match an with
   | .bo b::an=>match op with
    | .eql=>retG an [xs=[]->b=true] (.ub b true)
    | .neq=>retG an [xs=[]->b=true] (.ub true b)
    | _=>none
   | _=>none
  | _=>none
 | false=>none
def evalNilN (τ:zbn)(an:List An)(t:TypeId)(u:AV)(op:BinOp):Option Res:=none
def evalBuiltin (τ:zbn)(s:S)(an:List An)(d:Option Nat)(args:List Operand)(tys:List TypeId):Builtin->Option Res
 | .append=>match args,tys with
  | [x,y],[t,u]=>match zhy s x with
   | some v=>match zhy s y with
    | some w=>evalApp2 τ s an d t u v w
    | none=>none
   | none=>none
  | _,_=>none
 | .clear=>match args,tys with
  | [x],[t]=>match zhy s x with
   | some (.rowv i v off n)=>zld τ s an t i v off n
   | _=>none
  | _,_=>none
 | .len=>match args,tys with
  | [x],[t]=>match τ t with
   | some ti=>match zhy s x with
    | some v=>evalLen s an ti.k v
    | none=>none
   | none=>none
  | _,_=>none
 | .cap=>match args,tys with
  | [x],[t]=>match τ t with
   | some ti=>match zhy s x with
    | some v=>evalCap an ti.k v
    | none=>none
   | none=>none
  | _,_=>none
 | .min=>match vals s args with
  | some vs=>evalMinMax false an vs
  | none=>none
 | .max=>match vals s args with
  | some vs=>evalMinMax true an vs
  | none=>none
 | _=>none
def zh0 (τ:zbn)(A:List (Nat×Bool))(d:Option Nat)(s:S)(an:List An):Op->Option Res
 | .move x=>retO an (zhy s x)
 | .assign x=>retO an (zhy s x)
 | .pick (.tmp d) a b=>match zhy s (.tmp d) with
  | some (.bool p)=>match val s a with
   | some x=>match val s b with
    | some y=>evalPick A an a b d p x y
    | none=>none
   | none=>none
  | _=>none
 | .alloc t=>match τ t with
  | some ti=>zno d s an ti.zero
  | none=>none
 | .box t x=>match zhy s x with
  | some v=>match an with
   | .raw (A::l) :: .vw n :: .xs zs::an=>zmy τ d s t A n l zs an v
   | an=>zno d s an v.cells
  | none=>none
 | .build t parts=>evalBuild τ s an t parts.toList
 | .load t a=>match zhy s a with
  | some v=>match unp v with
   | .ep i vr k o=>ziw τ s an t i vr k o
   | .aptr A k o=>zkq τ s an t A k o
   | u=>evalLoad τ s an t u
  | none=>none
 | .store t a x=>match d with
  | none=>match zhy s x with
   | some v=>match zhy s a with
    | some u=>match unp u with
     | .ep i vr k o=>zhm τ s an t v i vr k o
     | .aptr A k o=>zi0 τ s an t v A k o
     | u=>zm0 τ s an t v u
    | none=>none
   | none=>none
  | some _=>none
 | .nilCheck x=>match zhy s x with
  | some v=>evalNilCheck an (unp v)
  | none=>none
 | .binOp op t x y _=>match zhy s x with
  | some v=>match zhy s y with
   | some u=>match v with
    | .row i vr=>zk1 τ s an t i vr u op
    | .sl _ xs=>evalNilSl τ an t xs u op
    | .nils=>evalNilN τ an t u op
    | .aptr A k o=>match u with
     | .aptr B j p=>evalAptr τ s an t A k o B j p op
     | u=>evalNil τ an t (.aptr A k o) u y op
    | v=>match evalNil τ an t v u y op with
     | some r=>some r
     | none=>evalBin τ an t op v u
   | none=>none
  | none=>none
 | .unOp op _ x=>match zhy s x with
  | some v=>evalUn an v op
  | none=>none
 | .convert src dst x=>match τ src with
  | some _=>match zhy s x with
   | some (.row i vr)=>zkt τ s an src dst i vr
   | some (.str l)=>match isStrT τ dst with
    | true=>evalConv τ an src dst (.str l)
    | false=>match isStrT τ src with
     | true=>evalBytesOf τ an dst l
     | false=>none
   | some v=>evalConv τ an src dst v
   | none=>none
  | none=>none
 | .fieldAddr t x f=>match zhy s x with
  | some v=>znr τ an t f (unp v)
  | none=>none
 | .field t x f=>match zhy s x with
  | some v=>evalField τ an t f v
  | none=>none
 | .extract x i=>match zhy s x with
  | some v=>evalExtract an i v
  | none=>none
 | .makeFunc (.func f) first caps=>match first.toList with
  | []=>evalFn an f (vals s caps.toList)
  | _::_=>none
 | .indexAddr t x i=>match zhy s x with
  | some v=>match zhy s i with
   | some u=>zgp τ s an t v u
   | none=>none
  | none=>none
 | .index t x i=>match zhy s x with
  | some v=>match zhy s i with
   | some u=>evalIndex τ an t v u
   | none=>none
  | none=>none
 | .slice t x lo hi none=>match zhy s x with
  | some v=>match zg6 s lo with
   | some l=>match zg6 s hi with
    | some h=>match v with
     | .row i vr=>zgc τ s an t l h i vr
     | .rowv i vr off m=>zkr τ s an t l h i vr off m
     | v=>evalSlice τ an t l h v
    | none=>none
   | none=>none
  | none=>none
 | .slice t x (some lo) (some hi) (some mx)=>match zhy s x with
  | some v=>match zg6 s (some lo) with
   | some (some a)=>match zg6 s (some hi) with
    | some (some b)=>match zg6 s (some mx) with
     | some (some m)=>match elemSz τ t with
      | some _=>zkx s an a b m v
      | none=>none
     | _=>none
    | _=>none
   | _=>none
  | none=>none
 | .buildSlice t len parts=>zf1 τ s an d t len parts.toList
 | .makeSlice t n c=>match zhy s n with
  | some (.int .i64 a)=>match zhy s c with
   | some (.int .i64 b)=>zgv τ s an d t a b
   | _=>none
  | _=>none
 | .makeMap t none=>zix τ s an d t
 | .lookup t x k ok=>match zhy s x with
  | some v=>match zhy s k with
   | some u=>zks τ s an t ok v u
   | none=>none
  | none=>none
 | .mapUpdate t m k x=>match zhy s m with
  | some v=>match zhy s k with
   | some u=>match zhy s x with
    | some y=>zgw τ s an d t v u y
    | none=>none
   | none=>none
  | none=>none
 | .call c=>match c.callee with
  | .builtin b=>evalBuiltin τ s an d c.args.toList c.argTypes.toList b
  | _=>none
 | _=>none
end Go.Dm
