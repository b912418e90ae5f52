/- The machine over the model's code, part EmD. -/
import Derived.Test.YtgcndnddgajekaaGreatDoorEmC
import Derived.ProofKit
import Derived.OpenShut
import Derived.ShutString
import Derived.ChangeOld
import Derived.Deep.Slices
import Derived.Carry
import Derived.JoinedOf
import Derived.Handed
set_option linter.unnecessarySimpa false
set_option linter.constructorNameAsVariable false
set_option linter.unusedSectionVars false
set_option linter.unusedSimpArgs false
set_option linter.unusedVariables false
namespace Go.Dm
open Go Go.RowKit
variable {C:Cx}{k:List It}{s t:S}{τ:zbn}
def lt {α β:Type}(e:α)(f:α->β):β:=f e
theorem zei {α β:Type}{e:α}{f:α->β}{y:β}(h:lt e f=y){x:α}(hx:x=e):f x=y:=by subst hx; exact h
theorem lt_split {α β:Type}{e:α}{f:α->β}{y:β}(h:lt e f=y):∃ x,e=x/\f x=y:=⟨e,rfl,h⟩
theorem u8s_ok (l:List UInt8):(l.map fun b=>AV.int .u8 (b.toNat:Int))=u8s l:=rfl
open Classical in
noncomputable def zao {β:Type}(p:Prop)(k:Option β):Option β:=if p then k else none
theorem zjq {β:Type}{p:Prop}{k:Option β}{y:β}(h:zao p k=some y):p/\k=some y:=by
 unfold zao at h;split at h
 ·exact ⟨‹_›,h⟩
 ·cases h
theorem zaa {β:Type}{p:Prop}(h:p:=by omega)(k:Option β):zao p k=k:=xad h
def ob {α β:Type}(e:Option α)(f:α->Option β):Option β:=match e with
 | some x=>f x
 | none=>none
theorem ob_elim {α β:Type}{e:Option α}{f:α->Option β}{y:β}(h:ob e f=some y):∃ x,e=some x/\f x=some y:=by
 unfold ob at h;split at h
 ·exact ⟨_,rfl,h⟩
 ·cases h
theorem zac {α β:Type}(x:α)(f:α->Option β):ob (some x) f=f x:=rfl
theorem ite_t {β:Type}{b:Bool}{x y z:β}(h:(if b=true then x else y)=z)(hb:b=true):x=z:=by rw [xad hb] at h; exact h
theorem ite_f {β:Type}{b:Bool}{x y z:β}(h:(if b=true then x else y)=z)(hb:b=false):y=z:=by rw [xab (by rw [hb]; simp)] at h; exact h
theorem zjl {β:Type}{x y:β}(h:some x=some y):x=y:=Option.some.inj h
def zad {α:Type}[Inhabited α](l:List α)(n:Int):α:=l.getD n.toNat default
theorem ze5 {α:Type}[Inhabited α]{l:List α}{n:Int}(enc:α->AV)(h:0<=n/\n<(l.length:Int)):0<=n/\(l.map enc)[n.toNat]?=some (enc (zad l n)):=by
 refine ⟨h.1,?_⟩;have hlt:n.toNat<l.length:=by omega
 simp [zad,List.getD,hlt]
theorem idxS_ok {l:List UInt8}{n:Int}(h:0<=n/\n<(l.length:Int)):0<=n/\l[n.toNat]?=some (zad l n):=by
 refine ⟨h.1,?_⟩;have hlt:n.toNat<l.length:=by omega
 simp [zad,List.getD,hlt]
theorem zfb {α:Type}(enc:α->AV)(l:List α):(l.length:Int)=((l.map enc).length:Int):=by simp
def zdq {α:Type}(l:List α)(n:Int):List α:=l.take n.toNat
def zdt {α:Type}(l:List α)(n:Int):List α:=l.drop n.toNat
theorem sl10_ok {α:Type}{l:List α}{a:Int}(enc:α->AV)(h:0<=a/\a<=(l.length:Int)):0<=a/\a.toNat<=(l.map enc).length/\(zdt l a).map enc=(l.map enc).drop a.toNat:=
 ⟨h.1,by simp; omega,by simp [zdt,List.map_drop]⟩
theorem sl01_ok {α:Type}{l:List α}{b:Int}(enc:α->AV)(h:0<=b/\b<=(l.length:Int)):0<=b/\b.toNat<=(l.map enc).length/\(zdq l b).map enc=(l.map enc).take b.toNat:=
 ⟨h.1,by simp; omega,by simp [zdq,xex]⟩
theorem sl11_ok {α:Type}{l:List α}{a b:Int}(enc:α->AV)(h:0<=a/\a<=b/\b<=(l.length:Int)):0<=a/\a<=b/\b.toNat<=(l.map enc).length/\(zdt (zdq l b) a).map enc=((l.map enc).take b.toNat).drop a.toNat:=
 ⟨h.1,h.2.1,by simp; omega,by simp [zdq,zdt,xex,List.map_drop]⟩
theorem cat_ok {x y:List UInt8}(h:(x.length:Int)+y.length<=9223372036854775807):x.length+y.length<=9223372036854775807:=by omega
def zey {σ ρ:Type}(e:Option ρ):Option (σ⊕ρ):=match e with
 | some x=>some (.inr x)
 | none=>none
theorem zak {σ ρ:Type}{e:Option ρ}{y':σ⊕ρ}{y:ρ}(h:zey e=some y')(hd:∀ r',y' = .inr r'->r'=y):e=some y:=by
 unfold zey at h;split at h
 ·cases h; rw [hd _ rfl]
 ·cases h
theorem zde {σ ρ:Type}{a:ρ}{y':σ⊕ρ}{y:ρ}(h:some (Sum.inr a:σ⊕ρ)=some y')(hd:∀ r',y' = .inr r'->r'=y):some a=some y:=by
 cases h; rw [hd _ rfl]
def w64 (x:Int):Int:=IntKind.i64.wrap x
theorem Wk_meetP {x:It}{σ:Type}(st:σ->S)(p:σ->Prop)(h1:Wk C (x :: .cut (fun s'=>∃ v,p v/\s'=st v)::k) s)(h2:∀ v,p v->Wk C k (st v)):Wk C (x::k) s:=
 Wk_join _ h1 fun s' ⟨v,hp,e⟩=>by subst e; exact h2 v hp
theorem Wk_metP {σ:Type}{st:σ->S}{p:σ->Prop}(v:σ)(fs bs rs ms aa:List Nat)(nv:NV)(hp:p v)(h:trimS fs bs rs ms aa nv s=some (st v)):Wk C (.cut (fun s'=>∃ v,p v/\s'=st v)::k) s:=
 Wk_cut (fun a w hx=>trimS_H h hx) ⟨v,hp,rfl⟩
inductive HL:List Prop->Prop
 | nil:HL []
 | cons {p:Prop} {l:List Prop} (h:p) (t:HL l):HL (p::l)
theorem HL.all:∀ {l:List Prop},HL l->AllP l
 | _,.nil=>trivial
 | _,.cons h t=>⟨h,t.all⟩
theorem W_R (hτ:zgl C.P τ){id:Nat}{ops:List Oper}(an:List An)(fs bs rs ms aa:List Nat)(nv:NV)(t:S){gs:List Prop}(hg:HL gs)(h:outL (runT τ C.P C.N false ops an fs bs rs ms aa nv s)=some (gs,t,outR (runT τ C.P C.N false ops an fs bs rs ms aa nv s)))(hk:Wk C k t):Wk C (.code (.region id ops.toArray false)::k) s:=
 Wk_run hτ h hg.all hk
theorem W_D (hτ:zgl C.P τ)(hm:C.P.follows .mixedOrders=true){id:Nat}{ops:List Oper}(an:List An)(fs bs rs ms aa:List Nat)(nv:NV)(t:S){gs:List Prop}(hg:HL gs)(h:outL (runT τ C.P C.N true ops an fs bs rs ms aa nv s)=some (gs,t,outR (runT τ C.P C.N true ops an fs bs rs ms aa nv s)))(hk:Wk C k t):Wk C (.code (.region id ops.toArray true)::k) s:=
 Wk_runD hτ hm h hg.all hk
def CoeS (x y:AV):Prop:=∀ (M:Mem) (E:Env) (v:Value),RelS M E v x->RelS M E v y
def Coe (x y:AV):Prop:=∀ (M:Mem) (E:Env) (v:Value),Rel M E v x->Rel M E v y
inductive CoeL:List AV->List AV->Prop
 | nil:CoeL [] []
 | cons {x y:AV} {l m:List AV} (h:CoeS x y) (t:CoeL l m):CoeL (x::l) (y::m)
theorem CoeS.refl (x:AV):CoeS x x:=fun _ _ _ h=>h
theorem CoeS.any (x:AV):CoeS x .any:=fun _ _ _ h=>.any h.one.1
theorem CoeS.popF (x:AV):CoeS .nilp (.popt false x):=fun M E v h=>.popt false x (fun h=>by cases h) fun _=>by
 cases h with
 | pure h=>cases h; rfl
theorem CoeS.popT (x:AV):CoeS x (.popt true x):=fun M E v h=>.popt true x (fun _=>h) fun h=>by cases h
theorem CoeS.unp {b:Bool}{x:AV}(hb:b=true):CoeS (.popt b x) x:=fun M E v h=>by
 cases h with
 | pure h=>cases h
 | popt b x ht hf=>exact ht hb
theorem CoeS.nils (sz:Nat):CoeS .nils (.sl sz []):=fun M E v h=>by
 cases h with
 | pure h=>
  cases h;exact .pure (.sl none 0 0 sz [] (fun _=>undef) rfl (xaf _) (xbm _) (fun x hx=>by cases hx) (fun h=>absurd rfl h) (fun j u hu=>by simp [zc0] at hu))
theorem CoeL.len {l m:List AV}(h:CoeL l m):l.length=m.length:=by
 induction h with
 | nil=>rfl
 | cons _ _ ih=>simp [ih]
theorem CoeL.get {l m:List AV}(h:CoeL l m):∀ {j:Nat} {y:AV},m[j]?=some y->∃ x,l[j]?=some x/\CoeS x y:=by
 induction h with
 | nil=>intro j y hy; simp at hy
 | @cons x y l m h t ih=>
  intro j z hz;cases j with
  | zero=>simp at hz; subst hz; exact ⟨x,rfl,h⟩
  | succ j=>simp only [xbe] at hz ⊢; exact ih hz
theorem Coe.refl (x:AV):Coe x x:=fun _ _ _ h=>h
theorem Coe.any (x:AV):Coe x .any:=fun _ _ v _=>.any v
theorem Coe.cell {x y:AV}(hx:x.isCell=true)(h:CoeS x y):Coe x y:=fun M E v hv=>.cell (h M E v (hv.of_cell hx))
theorem Coe.agg {l m:List AV}(h:CoeL l m):Coe (.agg l) (.agg m):=fun M E v hv=>by
 obtain ⟨vs,rfl,h1,h2⟩:=hv.agg_inv;refine .agg vs m (h1.trans h.len) fun j v c hv hc=>?_;obtain ⟨x,hx,hc⟩:=h.get hc;exact hc _ _ _ (h2 j v x hv hx)
theorem Wk_coe (i:Nat){x:AV}(y:AV)(hx:zan s.fr i=some x)(hc:Coe x y)(hk:Wk C k { s with fr:=(i,y)::s.fr }):Wk C k s:=by
 intro a w ⟨hd,M,E,hs,hp⟩;refine hk a w ⟨hd,M,E,{ hs with fr:=fun j z hj=>?_ },hp⟩;have hj:zan ((i,y)::s.fr) j=some z:=hj;rw [zai] at hj;split at hj
 ·rename_i e;cases hj;obtain ⟨h1,h2⟩:=hs.fr i x hx;rw [e];exact ⟨h1,hc _ _ _ h2⟩
 ·exact hs.fr j z hj
theorem Wk_coeB (i:Nat){cs:List AV}(ds:List AV)(hx:zan s.bx i=some cs)(hc:CoeL cs ds)(hk:Wk C k { s with bx:=(i,ds)::s.bx }):Wk C k s:=by
 intro a w ⟨hd,M,E,hs,hp⟩;refine hk a w ⟨hd,M,E,{ hs with bx:=fun j z hj=>?_,bxn:=fun j hj=>?_ },hp⟩
 ·have hj:zan ((i,ds)::s.bx) j=some z:=hj;rw [zai] at hj;split at hj
  ·rename_i e;cases hj;subst e;obtain ⟨b,h1,h2,t,vs,h3,h4,h5⟩:=hs.bx j cs hx;refine ⟨b,h1,h2,t,vs,h3,h4.trans hc.len,fun m v c hv hcc=>?_⟩;obtain ⟨x,hx',hr⟩:=hc.get hcc;exact hr _ _ _ (h5 m v x hv hx')
  ·exact hs.bx j z hj
 ·have hj:zan ((i,ds)::s.bx) j=none:=hj;rw [zai] at hj;split at hj
  ·cases hj
  ·exact hs.bxn j hj
def lowL:List (Nat×Nat)->Bool
 | []=>true
 | (a,b)::l=>match Nat.blt a nB&&Nat.blt b nB with
  | true=>lowL l
  | false=>false
def lowD:List (Nat×Nat)->Bool
 | []=>true
 | (a,_)::l=>match Nat.blt a nB with
  | true=>lowD l
  | false=>false
def Ren.low (σ:Ren):Bool:=lowL σ.b&&(lowL σ.r&&(lowL σ.m&&lowD σ.d))
theorem lowL_swR:∀ {l:List (Nat×Nat)},lowL l=true->∀ i,nB<=i->swR l i=i
 | [],_,i,_=>rfl
 | (a,b)::l,h,i,hi=>by
  simp only [lowL] at h;split at h
  ·rename_i hc;rw [xaw] at hc;have h1:a<nB:=xap hc.1;have h2:b<nB:=xap hc.2;simp only [swR]
   first
    | (rw [sw1_eq,xab (by omega),xab (by omega)]; exact lowL_swR h i hi)
    | (rw [lowL_swR h i hi,sw1_eq,xab (by omega),xab (by omega)])
  ·cases h
theorem lowD_get:∀ {l:List (Nat×Nat)},lowD l=true->∀ i,nB<=i->dget l i=0
 | [],_,i,_=>rfl
 | (a,b)::l,h,i,hi=>by
  simp only [lowD] at h;split at h
  ·rename_i hc;have h1:a<nB:=xap hc;simp only [dget];split
   ·rename_i e; have:=zbc e; omega
   ·exact lowD_get h i hi
  ·cases h
theorem Env.fwd_p0 {E0 E:Env}{σ:Ren}(h:σ.low=true)(hp:Env.p0 E0 E):Env.p0 E0 (E.fwd σ):=by
 unfold Ren.low at h;simp only [xaw] at h;obtain ⟨h1,h2,h3,h4⟩:=h;refine ⟨fun i b hi e=>?_,fun i q hi e hv=>?_,fun i r hi e=>?_,hp.ar⟩
 ·simp only [Env.fwd,lowL_swR h1 i hi] at e; exact hp.bx i b hi e
 ·simp only [Env.fwd,lowL_swR h2 i hi,lowD_get h4 i hi] at e;obtain ⟨q',hq',rfl⟩:=xay.1 e;exact hp.rw i q' hi hq' hv
 ·simp only [Env.fwd,lowL_swR h3 i hi] at e; exact hp.mp i r hi e
theorem Wk_ren (σ:Ren)(t:S)(h:σ.low=true)(e:s.ren σ=t)(hk:Wk C k t)(h2:p2R s.rw=true:=by kernel_rfl)(h3:mpR σ.m s.mp=true:=by kernel_rfl)(h4:noH s.ar=true:=by kernel_rfl):Wk C k s:=by
 intro a w ⟨hd,M,E,hs,hp⟩;subst e;exact hk a w ⟨hd,M,_,hs.fwd σ h2 h3 h4,Env.fwd_p0 h hp⟩
theorem Wk_nilrowP (pu:Nat)(i j:Nat)(e:TypeId)(sz:Nat)(hx:zan s.fr i=some .nils)(hj:zan s.rw j=none)(hB:Nat.blt j nB=true)(hk:Wk C k { s with fr:=(i,.row j 0)::s.fr,rw:=(j,⟨e,sz,0,0,0,true,pu,[],[]⟩)::s.rw }):Wk C k s:=by
 intro a w ⟨hd,M,E,hs,hp⟩;obtain ⟨E',hup,hq,hs'⟩:=hs.row0 hj (xap hB) none e sz true pu [] (fun _=>rfl);refine hk a w ⟨hd,M,E',{ hs' with fr:=fun m z hm=>?_ },hup.p _ hp⟩;have hm:zan ((i,.row j 0)::s.fr) m=some z:=hm;rw [zai] at hm;split at hm
 ·rename_i e;cases hm;obtain ⟨h1,h2⟩:=hs.fr i _ hx;rw [e,h2.nils_inv];exact ⟨h1,.cell (.row j 0 0 0 none _ hq (xaf _) fun _=>⟨rfl,rfl,rfl⟩)⟩
 ·exact hs'.fr m z hm
theorem zas (i j:Nat)(e:TypeId)(sz:Nat)(hx:zan s.fr i=some .nils)(hj:zan s.rw j=none)(hB:Nat.blt j nB=true)(hk:Wk C k { s with fr:=(i,.row j 0)::s.fr,rw:=(j,⟨e,sz,0,0,0,true,0,[],[]⟩)::s.rw }):Wk C k s:=Wk_nilrowP 0 i j e sz hx hj hB hk
theorem Wk_nilrowBP (pu:Nat)(i o j:Nat)(e:TypeId)(sz:Nat){cs ds:List AV}(hx:zan s.bx i=some cs)(ho:cs[o]?=some .nils)(hds:ds=cs.set o (.row j 0))(hj:zan s.rw j=none)(hB:Nat.blt j nB=true)(hk:Wk C k { s with bx:=(i,ds)::s.bx,rw:=(j,⟨e,sz,0,0,0,true,pu,[],[]⟩)::s.rw }):Wk C k s:=by
 intro a w ⟨hd,M,E,hs,hp⟩;subst hds;obtain ⟨E',hup,hq,hs'⟩:=hs.row0 hj (xap hB) none e sz true pu [] (fun _=>rfl);refine hk a w ⟨hd,M,E',{ hs' with bx:=fun m z hm=>?_,bxn:=fun m hm=>?_ },hup.p _ hp⟩
 ·have hm:zan ((i,cs.set o (.row j 0))::s.bx) m=some z:=hm;rw [zai] at hm;split at hm
  ·rename_i e;cases hm;subst e;obtain ⟨b,h1,h2,t,vs,h3,h4,h5⟩:=hs'.bx m cs hx;refine ⟨b,h1,h2,t,vs,h3,by simpa using h4,fun n v c hv hc=>?_⟩;rw [xcr] at hc;split at hc
   ·rename_i e;subst e;split at hc
    ·cases hc;have:=h5 o v _ hv ho;cases this with
     | pure h=>
      cases h;exact .row j 0 0 0 none _ hq (xaf _) fun _=>⟨rfl,rfl,rfl⟩
    ·cases hc
   ·exact h5 n v c hv hc
  ·exact hs'.bx m z hm
 ·have hm:zan ((i,cs.set o (.row j 0))::s.bx) m=none:=hm;rw [zai] at hm;split at hm
  ·cases hm
  ·exact hs'.bxn m hm
theorem zb0 (i o j:Nat)(e:TypeId)(sz:Nat){cs ds:List AV}(hx:zan s.bx i=some cs)(ho:cs[o]?=some .nils)(hds:ds=cs.set o (.row j 0))(hj:zan s.rw j=none)(hB:Nat.blt j nB=true)(hk:Wk C k { s with bx:=(i,ds)::s.bx,rw:=(j,⟨e,sz,0,0,0,true,0,[],[]⟩)::s.rw }):Wk C k s:=Wk_nilrowBP 0 i o j e sz hx ho hds hj hB hk
def fin (τ:zbn)(s:S)(res:List ResultVar)(ts:List TypeId)(R bs rs ms aa:List Nat)(nv:NV):Option S:=
 match resAll τ s res with
 | some vs=>match zj0 R s (normL τ ts vs) with
  | some ([v],e)=>trimS [0] bs rs ms aa nv ⟨[(0,v)],s.bx,e++s.rw,s.mp,s.ar⟩
  | some (ys,e)=>trimS [0] bs rs ms aa nv ⟨[(0,.tup ys)],s.bx,e++s.rw,s.mp,s.ar⟩
  | none=>none
 | none=>none
def Ends (τ:zbn)(res:List ResultVar)(ts:List TypeId)(r:AV)(s1 s:S):Prop:=∃ R bs rs ms aa nv,fin τ s res ts R bs rs ms aa nv=some ⟨[(0,r)],s1.bx,s1.rw,s1.mp,s1.ar⟩
def oneOf:List Value->Value
 | [v]=>v
 | vs=>.tuple vs.toArray
theorem results_run {P:Program}{fn:Func}{tmps:Array Value}{w:World}{vs:List Value}(h1:(fn.results.toList.mapM (resSem tmps)).run P w = .ok vs w) :
  (results fn tmps).run P w = .ok (oneOf vs) w:=by
 have hrun:(results fn tmps).run P w = .ok (if h:vs.toArray.size=1 then vs.toArray[0] else .tuple vs.toArray) w:=by
  unfold results;have:(fn.results.mapM (resSem tmps)).run P w = .ok vs.toArray w:=by
   rw [xdq];simp only [Sem.run_map,h1,xae]
  simp only [xao,xat];change ((Sem.run P (Array.mapM (resSem tmps) fn.results) w).andThen _)=_;rw [this];rfl
 rw [hrun];have e:∀ vs:List Value,(if h:vs.toArray.size=1 then vs.toArray[0] else .tuple vs.toArray)=oneOf vs:=fun vs=>by
  match vs with
  | []=>rfl
  | [v]=>rfl
  | v::u::l=>rfl
 rw [e]
theorem fin_run (hτ:zgl C.P τ){M:Mem}{E:Env}{a:Act}{w:World}(hs:St C.g C.N M E s a.tmps w){fn:Func}{ts:List TypeId}{R bs rs ms aa:List Nat}{nv:NV}{t:S}(h:fin τ s fn.results.toList ts R bs rs ms aa nv=some t) :
  ∃ v M' E',(results fn a.tmps).run C.P w = .ok v w/\St C.g 1 M' E' t #[v] w/\∀ E0,Env.p0 E0 E->Env.p0 E0 E':=by
 unfold fin at h;split at h
 ·rename_i vs' hvs;obtain ⟨vs,h1,h2⟩:=zm5 hτ hs hvs;have h3:=normL_rel (τ:=τ) (ts:=ts) h2;have hrun:=results_run h1;have put:∀ {s2:S} {M2:Mem} {v:Value} {x:AV},St C.g C.N M2 E s2 a.tmps w->Rel M2 E v x->St C.g 1 M2 E ⟨[(0,x)],s2.bx,s2.rw,s2.mp,s2.ar⟩ #[v] w:=by
   intro s2 M2 v x hs2 hr;refine { hs2.noFr with size:=rfl,fr:=fun i y hi=>?_ };have hi:zan [(0,x)] i=some y:=hi;rw [zai] at hi;split at hi
   ·rename_i e; cases hi; subst e; exact ⟨Nat.one_pos,hr⟩
   ·cases hi
  split at h
  ·rename_i v e hse;obtain ⟨M1,hM1,hs1,hr1,hl1⟩:=sealALx_ok (likeRows.refl hs) hse hs h3
   match vs,hr1,hrun with
   | [u],hr1,hrun=>
    obtain ⟨E',h4,h5⟩:=trimS_St h (put hs1 (hr1.2 0 u v rfl rfl));exact ⟨_,M1,E',hrun,h4,h5⟩
   | [],hr1,_=>exact absurd hr1.1 (by simp)
   | _::_::_,hr1,_=>exact absurd hr1.1 (by simp)
  ·rename_i ys e hne hse;obtain ⟨M1,hM1,hs1,hr1,hl1⟩:=sealALx_ok (likeRows.refl hs) hse hs h3;have hm:oneOf vs = .tuple vs.toArray:=by
    clear hrun h1 h2 h3 h
    match vs,hr1 with
    | [],_=>rfl
    | [u],hr1=>
     match ys,hr1,hne with
     | [y],hr1,hne=>exact (hne y rfl).elim
     | [],hr1,_=>exact absurd hr1.1 (by simp)
     | _::_::_,hr1,_=>exact absurd hr1.1 (by simp)
    | u::u'::l,_=>rfl
   rw [hm] at hrun;obtain ⟨E',h4,h5⟩:=trimS_St h (put hs1 (.tup vs ys hr1.1 hr1.2));exact ⟨_,M1,E',hrun,h4,h5⟩
  ·cases h
 ·cases h
def hiL {α:Type}:List (Nat×α)->Bool
 | []=>true
 | (i,_)::l=>match Nat.ble nB i with
  | true=>hiL l
  | false=>false
def ver0:List (Nat×Rw)->Bool
 | []=>true
 | (_,r)::l=>match Nat.beq r.ver 0 with
  | true=>ver0 l
  | false=>false
def hiS (s:S):Bool:=hiL s.bx&&(hiL s.rw&&(hiL s.mp&&(hiL s.ar&&ver0 s.rw)))
theorem hiL_get {α:Type}:∀ {l:List (Nat×α)},hiL l=true->∀ {i:Nat} {v:α},zan l i=some v->nB<=i
 | (j,x)::l,h,i,v,hi=>by
  simp only [hiL] at h;split at h
  ·rename_i hj;rw [zai] at hi;split at hi
   ·rename_i e; rw [e]; exact xap hj
   ·exact hiL_get h hi
  ·cases h
theorem ver0_get:∀ {l:List (Nat×Rw)},ver0 l=true->∀ {i:Nat} {r:Rw},zan l i=some r->r.ver=0
 | (j,x)::l,h,i,v,hi=>by
  simp only [ver0] at h;split at h
  ·rename_i hj;rw [zai] at hi;split at hi
   ·cases hi; exact zbc hj
   ·exact ver0_get h hi
  ·cases h
theorem Pe_of {P:Program}{f:FuncId}{fn:Func}{c:Code}{N:Nat}{res:List ResultVar}{ts:List TypeId}(hτ:zgl P τ)(hb:Bodied P f)(hfn:P.funcs[f]?=some fn)(hbody:fn.body=some c)(hN:fn.ntmps=N)(hres:fn.results.toList=res)
  {s0 s1:S}{args:List AV}{r:AV}(hlen:Nat.ble args.length N=true)(h0:hiS s0=true)(hf1:s1.fr=[])
  (h:∀ (Q:Exit->Act->World->Prop) (g:Gh),(∀ s,Ends τ res ts r s1 s->Fin ⟨P,Q,g,N⟩ s)->Wk ⟨P,Q,g,N⟩ [.code c] ⟨zok 0 args,s0.bx,s0.rw,s0.mp,s0.ar⟩):Pe P f s0 args r s1:=by
 refine ⟨hb,fun w M E F vs hs hrel=>calls_of_wp hfn hbody ?_⟩;have hlen:=xap hlen;unfold hiS at h0;simp only [xaw] at h0;obtain ⟨i1,i2,i3,i4,i5⟩:=h0
 let Q:=bodyPost P fn (fun e w'=>∃ M' E' v,e = .returned v/\E.lw E'/\St ⟨w,F,M,Env.none⟩ 0 M' E' s1 #[] w'/\Rel M' E' v r)
 have hfin:∀ s,Ends τ res ts r s1 s->Fin ⟨P,Q,⟨w,F,M,E⟩,N⟩ s:=by
  intro s ⟨R,bs,rs,ms,aa,nv,hx⟩ a w' ⟨hdf,M1,E1,hst,hp0⟩;rw [<- hres] at hx;obtain ⟨v,M',E',hv,hst',hp⟩:=fin_run (C:=⟨P,Q,⟨w,F,M,E⟩,N⟩) hτ hst hx;have hp1:=hp _ hp0;have:∃ M' E' v',Ending.returned v = .returned v'/\E.lw E'/\St ⟨w,F,M,Env.none⟩ 0 M' E' s1 #[] w'/\Rel M' E' v' r:=by
   refine ⟨M',E',v,rfl,⟨fun i b b' e e'=>?_,fun i q q' e e'=>?_,fun i b b' e e'=>?_,fun i b b' e e'=>?_⟩,{ hst' with size:=rfl,fr:=fun i y h=>?_ },?_⟩
   ·have hi:nB<=i:=by
     cases hh:zan s0.bx i with
     | none=>rw [hs.bxn i hh] at e; cases e
     | some x=>exact hiL_get i1 hh
    have:=hp1.bx i b' hi e';rw [e] at this; cases this; rfl
   ·have hi:nB<=i/\q.ver=0:=by
     cases hh:zan s0.rw i with
     | none=>rw [hs.rwn i hh] at e; cases e
     | some x=>
      obtain ⟨q2,e2,ok⟩:=hs.rw i x hh;rw [e] at e2; cases e2;exact ⟨hiL_get i2 hh,by rw [ok.ver]; exact ver0_get i5 hh⟩
    refine ⟨by omega,fun ev=>?_⟩;have:=hp1.rw i q' hi.1 e' (by omega);rw [e] at this; cases this;exact ⟨rfl,rfl,rfl,rfl⟩
   ·have hi:nB<=i:=by
     cases hh:zan s0.mp i with
     | none=>rw [hs.mpn i hh] at e; cases e
     | some x=>exact hiL_get i3 hh
    have:=hp1.mp i b' hi e';rw [e] at this; cases this; rfl
   ·have hi:nB<=i:=by
     cases hh:zan s0.ar i with
     | none=>rw [hs.arn i hh] at e; cases e
     | some x=>exact hiL_get i4 hh
    obtain ⟨bs0,l,e2,e3⟩:=hp1.ar i b' hi e';rw [e] at e2; cases e2;exact ⟨l,e3⟩
   ·rw [hf1] at h; cases h
   ·exact (hst'.fr 0 r (by rw [zai,xad rfl])).2
  exact ⟨⟨hdf,v,hv,this⟩,⟨hdf,v,hv,this⟩⟩
 have hw:=h Q ⟨w,F,M,E⟩ hfin;have:=hw { tmps:=vs.toArray++Array.replicate (fn.ntmps - vs.toArray.size) undef,defers:=[] } w ⟨rfl,M,E,?_,?_⟩
 ·have e:mean ⟨P,Q,⟨w,F,M,E⟩,N⟩ [.code c] .normal=c.wp P (mean ⟨P,Q,⟨w,F,M,E⟩,N⟩ []):=rfl;rw [e] at this;exact this
 ·have hl:=hrel.1;refine { hs with size:=by simp; omega,fr:=fun i av hi=>?_ };simp only [get_argSlots,xbm,xc1,Nat.sub_zero] at hi;have hlt:=(xac.1 hi).1;refine ⟨xbi hlt hlen,?_⟩;have hv:i<vs.length:=by omega
  refine hrel.2 i _ av ?_ hi;rw [xag hv,xan,xc5 (by simpa using hv)];simp [hv]
 ·exact ⟨fun i b _ h=>h,fun i q _ h _=>h,fun i r _ h=>h,fun i bs _ h=>⟨bs,[],h,by simp⟩⟩
end Go.Dm
namespace Go.Dm
open Go Go.RowKit Go.ChangeShapes Go.WideShapes Go.Deep
def memOf (W:World):Mem:=fun b j=>W.cell? ⟨b,j,none⟩
def Rd (P:Program)(t:TypeId){α:Type}(enc:α->AV)(ok:α->Prop):Prop:=
 ∀ (H:Type) (en:TypeId×Value->H) (W:World) (base:Nat) (spare:Nat->Bool) (held:Bool) (fuel:Nat) (cs:List Value) (y:DataW H×List MemPlace),
  DataW.trod en P W base spare held fuel t cs=some y->∃ x:α,ok x/\AllR (RelP (memOf W)) cs (enc x).cells
theorem allR_one {R:Value->AV->Prop}{v:Value}{x:AV}(h:R v x):AllR R [v] [x]:=by
 refine ⟨rfl,fun j u c hu hc=>?_⟩;cases j with
 | zero=>simp at hu hc; subst hu; subst hc; exact h
 | succ j=>simp at hu
theorem rd_int {P:Program}{t:TypeId}{k:IntKind}(ht:P.underlying t=some (.int k)):Rd P t (fun n=>.int k n) (fun n=>(Lit.int k n).wf=true):=by
 intro H en W base spare held fuel cs y h;obtain ⟨n,rfl,_,hw⟩:=DataW.trod_int ht h;exact ⟨n,hw,allR_one (.int k n)⟩
theorem rd_i64 {P:Program}{t:TypeId}(ht:P.underlying t=some (.int .i64)):Rd P t (fun n=>.int .i64 n) (fun n=>-9223372036854775808<=n/\n<=9223372036854775807):=by
 intro H en W base spare held fuel cs y h;obtain ⟨n,h1,h2⟩:=rd_int ht H en W base spare held fuel cs y h;refine ⟨n,?_,h2⟩;simpa [Lit.wf,IntKind.min,IntKind.max,IntKind.signed,IntKind.bits] using h1
theorem rd_u8 {P:Program}{t:TypeId}(ht:P.underlying t=some (.int .u8)):Rd P t (fun b:UInt8=>.int .u8 b.toNat) (fun _=>True):=by
 intro H en W base spare held fuel cs y h;obtain ⟨n,h1,h2⟩:=rd_int ht H en W base spare held fuel cs y h;have hb:0<=n/\n<=255:=by simpa [Lit.wf,IntKind.min,IntKind.max,IntKind.signed,IntKind.bits] using h1
 refine ⟨UInt8.ofNat n.toNat,trivial,?_⟩;have:((UInt8.ofNat n.toNat).toNat:Int)=n:=by
  rw [xbw];omega
 simp only [this];exact h2
theorem cell_spot {W:World}{a:Addr}{v:Value}(h:W.cell? a=some v):a.spot=none:=by
 unfold World.cell? at h;split at h
 ·cases hs:a.spot with
  | none=>rfl
  | some s=>simp [hs] at h
 ·cases h
theorem choose_list {α:Type}(n:Nat)(p:Nat->α->Prop)(h:∀ i,i<n->∃ x,p i x):∃ l:List α,l.length=n/\∀ i x,l[i]?=some x->p i x:=by
 induction n with
 | zero=>exact ⟨[],rfl,fun i x h=>by simp at h⟩
 | succ n ih=>
  obtain ⟨l,hl,hp⟩:=ih fun i hi=>h i (by omega);obtain ⟨x,hx⟩:=h n (by omega);refine ⟨l++[x],by simp [hl],fun i y hy=>?_⟩;rw [xb7] at hy;split at hy
  ·exact hp i y hy
  ·rename_i hge;have:i=n:=by
    have:=(xac.1 hy).1;simp at this; omega
   subst this;simp [hl] at hy;subst hy; exact hx
theorem Rd.map {P:Program}{t:TypeId}{α β:Type}{enc:β->AV}{ok:β->Prop}(h:Rd P t enc ok)(f:β->α)(enc':α->AV)(ok':α->Prop)(henc:∀ b,enc' (f b)=enc b)(hok:∀ b,ok b->ok' (f b)):Rd P t enc' ok':=by
 intro H en W base spare held fuel cs y ht;obtain ⟨b,hb,hr⟩:=h H en W base spare held fuel cs y ht;exact ⟨f b,hok b hb,by rw [henc]; exact hr⟩
theorem Rd.cell {P:Program}{t:TypeId}{α:Type}{enc:α->AV}{ok:α->Prop}(h:Rd P t enc ok){H:Type}{en:TypeId×Value->H}{W:World}{base:Nat}{spare:Nat->Bool}{held:Bool}{v:Value}{d:DataW H}{p:List MemPlace}
  (ht:DataW.Trod en P W base spare held t v d p)(hv:∀ cs,v≠.agg cs)(hc:∀ x,(enc x).cells=[enc x]):∃ x,ok x/\Rel (memOf W) Env.none v (enc x):=by
 obtain ⟨fuel,hf⟩:=ht;obtain ⟨x,hx,hr⟩:=h H en W base spare held fuel _ _ hf;refine ⟨x,hx,?_⟩;rw [hc] at hr;have:v.cells=#[v]:=by cases v <;> first | rfl | exact absurd rfl (hv _)
 rw [this] at hr;exact .cell (.pure (hr.2 0 v (enc x) rfl rfl))
theorem Rd.agg {P:Program}{t:TypeId}{α:Type}{enc:α->AV}{ok:α->Prop}(h:Rd P t enc ok){H:Type}{en:TypeId×Value->H}{W:World}{base:Nat}{spare:Nat->Bool}{held:Bool}{vs:Array Value}{d:DataW H}{p:List MemPlace}
  (ht:DataW.Trod en P W base spare held t (.agg vs) d p)(hc:∀ x,∃ cs,enc x = .agg cs):∃ x,ok x/\Rel (memOf W) Env.none (.agg vs) (enc x):=by
 obtain ⟨fuel,hf⟩:=ht;obtain ⟨x,hx,hr⟩:=h H en W base spare held fuel _ _ hf;refine ⟨x,hx,?_⟩;obtain ⟨cs,hcs⟩:=hc x;rw [hcs] at hr ⊢;have:(Value.agg vs) = .agg vs.toList.toArray:=by simp
 rw [this];exact .agg _ _ hr.1 fun j v c hv hc=>.pure (hr.2 j v c hv hc)
theorem St.start {w:World}{M:Mem}(F:Nat->Prop)(hF:∀ b,F b->b<w.heap.size)(hM:∀ b j v,M b j=some v->w.cell? ⟨b,j,none⟩=some v)(hL:Lay w F):St ⟨w,F,M,Env.none⟩ 0 M Env.none S.none #[] w where
 size:=rfl
 fr:=fun i av h=>by cases h
 mem:=fun b j v h=>⟨hM b j v h,fun o ho=>by cases ho⟩
 bx:=fun i cs h=>by cases h
 bxn:=fun i _=>rfl
 rw:=fun i cs h=>by cases h
 rwn:=fun i _=>rfl
 mp:=fun i cs h=>by cases h
 mpn:=fun i _=>rfl
 ar:=fun i cs h=>by cases h
 arn:=fun i _=>rfl
 live:=fun b o h=>by cases h
 foreign:=fun b h=>⟨hF b h,rfl,rfl⟩
 m0:=fun _ _ _ h=>h
 mf:=fun _ _ _ h _=>h
 os:=rfl
 tape:=rfl
 output:=rfl
 grow:=xaf _
 lay:=hL
theorem law_calls {P:Program}{f:FuncId}{args:List AV}{vs:List Value}{W:World}(h:Pc P f args (.bool true))(hr:RelL (memOf W) Env.none vs args)(hL:Lay W (fun b=>b<W.heap.size)) :
  Calls P f vs.toArray W fun e w'=>e = .returned (.bool true)/\Below W.heap.size W w':=by
 refine (h.c W (memOf W) Env.none (fun b=>b<W.heap.size) vs (St.start _ (fun b h=>h) (fun b j v hv=>hv) hL) hr).mono ?_;rintro e w' ⟨M',E',v,rfl,_,hst,hx⟩;rw [hx.bool_inv];exact ⟨rfl,hst.os,hst.tape,hst.output,hst.grow,fun k hk=>(hst.foreign k hk).2.1⟩
theorem relL_nil {M:Mem}{E:Env}:RelL M E [] []:=⟨rfl,fun j v c hv _=>by simp at hv⟩
theorem relL_cons {M:Mem}{E:Env}{v:Value}{x:AV}{vs:List Value}{xs:List AV}(h:Rel M E v x)(hr:RelL M E vs xs):RelL M E (v::vs) (x::xs):=by
 refine ⟨by simp [hr.1],fun j u c hu hc=>?_⟩;cases j with
 | zero=>simp at hu hc; subst hu; subst hc; exact h
 | succ j=>simp only [xbe] at hu hc; exact hr.2 j u c hu hc
def ArgOk (P:Program)(t:TypeId){α:Type}(enc:α->AV)(ok:α->Prop):Prop:=
 ∀ (H:Type) (en:TypeId×Value->H) (W:World) (base:Nat) (v:Value) (d:DataW H) (p:List MemPlace),
  Value.okWide P W .any base t v->DataW.Trod en P W 0 (fun _=>true) true t v d p->∃ x,ok x/\Rel (memOf W) Env.none v (enc x)
theorem Rd.argC {P:Program}{t:TypeId}{α:Type}{enc:α->AV}{ok:α->Prop}(h:Rd P t enc ok)
  (ht:(match P.underlying t with | some (.int _) | some .bool | some .string | some (.slice _)=>true | _=>false)=true)(hc:∀ x,(enc x).cells=[enc x]):ArgOk P t enc ok:=by
 intro H en W base v d p hv hd;refine h.cell hd (fun cs e=>?_) hc;subst e;unfold Value.okWide at hv;split at ht
 all_goals first | (cases ht; done) | (rename_i hu; simp [hu,Cell.okWide,Cell.ok] at hv)
theorem Rd.argS {P:Program}{t:TypeId}{α:Type}{enc:α->AV}{ok:α->Prop}(h:Rd P t enc ok)
  (ht:(match P.underlying t with | some (.struct _)=>true | _=>false)=true)(hc:∀ x,∃ cs,enc x = .agg cs):ArgOk P t enc ok:=by
 intro H en W base v d p hv hd;unfold Value.okWide at hv;split at ht
 ·rename_i hu;rw [hu] at hv;obtain ⟨cs,rfl,_⟩:=hv;exact h.agg hd hc
 ·cases ht
theorem Below.trodAll {H:Type}{enc:TypeId×Value->H}{P:Program}(hl:laidOutB P=true){W W':World}(hb:Below W.heap.size W W') :
  ∀ {ts:List TypeId} {vs:List Value} {ds:List (DataW H)} {ps:List MemPlace},ts.all (fun t=>P.readableRec t&&decide (t<P.types.size))=true->
   DataW.TrodAll enc P W 0 (fun _=>true) true ts vs ds ps->(∀ x∈ps,x.block<W.heap.size)->DataW.TrodAll enc P W' 0 (fun b=>decide (b<W.heap.size)) true ts vs ds ps
 | [],vs,ds,ps,_,h,_=>by
  obtain ⟨rfl,rfl,rfl⟩:=trodAll_nil h;exact trodAll_mk0
 | t::ts,vs,ds,ps,ht,h,hlt=>by
  obtain ⟨v,vs',d,ds',p1,p2,rfl,rfl,rfl,h1,h2⟩:=trodAll_cons h;simp only [List.all_cons,xaw,xav] at ht;exact ⟨p1,p2,Below.trod hl ht.1.1 ht.1.2 h1 hb (fun x hx=>hlt x (by simp [hx])),Below.trodAll hl hb ht.2 h2 (fun x hx=>hlt x (by simp [hx])),rfl⟩
theorem law_post {H:Type}{enc:TypeId×Value->H}{P:Program}{fn:Func}{s:ChangeSpec}{apart handsOn:Bool}{W W':World}{args:Array Value}{ds gs:List (DataW H)}{before:List MemPlace}{tb:TypeId}
  (hl:laidOutB P=true)(hr:fn.params.toList.all (fun t=>P.readableRec t&&decide (t<P.types.size))=true)
  (hres:fn.resultTypes=#[tb])(hb:P.underlying tb=some .bool)(hvars:s.vars=[])(hs:s.fn H (ds++gs)={ results:=[.lit (.bool true)],args:=ds })
  (hW:DataW.Whole enc P fn.params.toList s.vars apart W args.toList ds gs before)(hbl:Below W.heap.size W W') :
  s.post enc P fn apart true handsOn false W args (.bool true) W':=by
 have hlt:=hW.lt;have hW':=hW;obtain ⟨p,q,hA,hV,rfl,hz,hn⟩:=hW;rw [hvars] at hV;obtain ⟨rfl,rfl⟩:=trodVars_none hV;refine ⟨ds,[],p++[],[],p,[],hW',?_,?_,?_,hbl.frame _,fun h=>by cases h⟩
 ·rw [hs,hres];exact ⟨[],[],shut_bool hb true,trodAll_mk0,rfl⟩
 ·rw [hs];exact Below.trodAll hl hbl hr hA (fun x hx=>hlt x (by simp [hx]))
 ·rw [hs,hvars];exact rfl
end Go.Dm
namespace Go.Dm
open Go Go.RowKit
section
variable {α:Type}
theorem app_ok (f:α->AV)(a b:List α):(a++b).map f=a.map f++b.map f:=xbx
theorem app0_ok (f:α->AV)(b:List α):b.map f=[]++b.map f:=rfl
theorem appl_ok {n:Nat}(f:α->AV){l:List α}(h:(l.length:Int)*n<=140737488351232):(l.map f).length*n<=140737488351232:=by
 rw [xa5];have:((l.length*n:Nat):Int)=(l.length:Int)*n:=xc3 _ _;omega
theorem rep_ok (f:α->AV)(n:Int)(x:α):(List.replicate n.toNat x).map f=List.replicate n.toNat (f x):=List.map_replicate
theorem zj2 (f:α->AV){l:List α}{n:Int}(h:0<=n/\n<(l.length:Int)):0<=n/\n.toNat<(l.map f).length:=⟨h.1,by rw [xa5]; omega⟩
theorem ziv [Inhabited α](f:α->AV){l:List α}{n:Int}(h:0<=n/\n<(l.length:Int)):(l.map f)[n.toNat]?=some (f (zad l n)):=(ze5 f h).2
def zmc (l:List α)(n:Int)(x:α):List α:=l.set n.toNat x
theorem set_ok (f:α->AV)(l:List α)(n:Int)(x:α):(zmc l n x).map f=(l.map f).set n.toNat (f x):=by simp [zmc,List.map_set]
theorem mk_ok {b:Nat}{n c:Int}(h:0<=n/\n<=c/\c*b<=140737488351232):0<=n/\n<=c/\c.toNat*b<=140737488351232:=by
 refine ⟨h.1,h.2.1,?_⟩;have hc:(c.toNat:Int)=c:=Int.toNat_of_nonneg (by omega);have:((c.toNat*b:Nat):Int)<=140737488351232:=by
  rw [xc3,hc]; exact h.2.2
 omega
theorem bof_ok {l:List UInt8}(h:(l.length:Int)<=140737488351232):l.length<=140737488351232:=by omega
theorem vw01_ok (f:α->AV){l:List α}{b:Int}{cm:Nat}(h:0<=b/\b<=(l.length:Int)):0<=b/\b.toNat=b.toNat/\(b.toNat<=(l.map f).length\/b.toNat<=cm):=⟨h.1,rfl,.inl (by rw [xa5]; omega)⟩
theorem vw10_ok (f:α->AV){l:List α}{a:Int}(h:0<=a/\a<=(l.length:Int)):0<=a/\a.toNat+(l.length - a.toNat)=(l.map f).length:=⟨h.1,by rw [xa5]; omega⟩
theorem nil_ok (f:α->AV)(l:List α):(decide (l.length=0)=true↔l.map f=[]):=by
 cases l <;> simp
end
theorem tk_ok {α:Type}(f:α->AV){l:List α}{n:Nat}(h:n<=l.length):n<=(l.map f).length/\0<=n:=⟨by rw [xa5]; exact h,xbm _⟩
def lclear {α:Type}(l:List α)(off n:Nat)(z:α):List α:=l.take off++List.replicate (min n (l.length - off)) z++l.drop (off+n)
theorem clr_ok {α:Type}(f:α->AV)(l:List α)(off n:Nat)(z:α):(lclear l off n z).map f=(l.map f).take off++List.replicate (min n ((l.map f).length - off)) (f z)++(l.map f).drop (off+n):=by
 simp [lclear,xex,List.map_drop]
section
variable {κ ν:Type}[DecidableEq κ]
end
theorem Wk_ub {C:Cx}{k:List It}{s:S}(i:Nat){p q:Bool}(hx:zan s.fr i=some (.ub p q))(h:∀ b:Bool,(b=true->p=true)->(b=false->q=true)->Wk C k { s with fr:=(i,.bool b)::s.fr }):Wk C k s:=by
 intro a w ⟨hd,M,E,hs,hp⟩;obtain ⟨h1,h2⟩:=hs.fr i _ hx;have:∃ b,a.tmps.getD i undef = .bool b/\(b=true->p=true)/\(b=false->q=true):=by
  have h3:=h2.of_cell rfl;generalize a.tmps.getD i undef=v at h3;cases h3 with
  | pure h=>cases h with | ub b _ _ h1 h2=>exact ⟨b,rfl,h1,h2⟩
 obtain ⟨b,e,hb1,hb2⟩:=this;refine h b hb1 hb2 a w ⟨hd,M,E,{ hs with fr:=fun j z hj=>?_ },hp⟩;have hj:zan ((i,.bool b)::s.fr) j=some z:=hj;rw [zai] at hj;split at hj
 ·rename_i e';cases hj;rw [e',e];exact ⟨h1,.cell (.pure (.bool b))⟩
 ·exact hs.fr j z hj
noncomputable def ubO {β:Type}(p:Bool)(e1 e2:Option β):Option β:=zao (p=true->e1=e2) (if p=true then e1 else e2)
theorem ubO_elim {β:Type}{p:Bool}{e1 e2:Option β}{y:β}(h:ubO p e1 e2=some y):(p=true->e1=some y)/\e2=some y:=by
 obtain ⟨h1,h2⟩:=zjq h;cases hp:p with
 | true=>rw [hp] at h2; have h2:e1=some y:=h2; exact ⟨fun _=>h2,by rw [<- h1 hp]; exact h2⟩
 | false=>rw [hp] at h2; exact ⟨fun h=>(by cases h),h2⟩
theorem ubn_ok {α:Type}(f:α->AV)(l:List α):l.map f=[]->decide (l.length=0)=true:=fun h=>(nil_ok f l).2 h
theorem shr8_ok (x:UInt8)(m:Nat):nrm .u8 ((x.toNat:Int).fdiv (2 ^ m))=(x.toNat:Int).fdiv (2 ^ m):=by
 have h1:(x.toNat:Int)<256:=by have:=x.toNat_lt; omega
 have hp:(1:Int)<=2 ^ m:=by exact_mod_cast Nat.one_le_two_pow
 have e:(x.toNat:Int).fdiv (2 ^ m)=(x.toNat:Int) / (2 ^ m):=xeh _ (by omega);rw [e];have h2:0<=(x.toNat:Int) / (2 ^ m):=Int.ediv_nonneg (by omega) (by omega);have h3:(x.toNat:Int) / (2 ^ m)<=x.toNat:=Int.ediv_le_self _ (by omega);generalize (x.toNat:Int) / (2 ^ m)=n at h2 h3;simp only [nrm,zfq,xbw];omega
def fuelO {α β:Type}(S:(α->Option β)->α->Option β):Nat->α->Option β
 | 0,_=>none
 | k+1,x=>S (fuelO S k) x
open Classical in
noncomputable def recO {α β:Type}(S:(α->Option β)->α->Option β)(x:α):Option β:=if h:∃ k r,fuelO S k x=some r then some (Classical.choose (xdm h)) else none
theorem recO_elim {α β:Type}{S:(α->Option β)->α->Option β}{x:α}{r:β}(h:recO S x=some r):∃ k,fuelO S k x=some r:=by
 unfold recO at h;split at h
 ·rename_i hh;cases h;exact ⟨_,xdm (xdm hh)⟩
 ·cases h
theorem recO_intro {α β:Type}{S:(α->Option β)->α->Option β}{x:α}{k:Nat}{r:β}(h:fuelO S k x=some r):∃ r',recO S x=some r':=by
 unfold recO;exact ⟨_,dif_pos ⟨k,r,h⟩⟩
theorem Wk_sealX {C:Cx}{k:List It}{s:S}(R:List Nat)(i:Nat){x y:AV}{e:List (Nat×Rw)}(hx:zan s.fr i=some x)(h:sealAx R s x=some (y,e))(hk:Wk C k { s with fr:=(i,y)::s.fr,rw:=e++s.rw }):Wk C k s:=by
 intro a w ⟨hd,M,E,hs,hp⟩;obtain ⟨M',hM,hs',hr,_⟩:=sealAx_ok (likeRows.refl hs) h hs (hs.fr i x hx).2;refine hk a w ⟨hd,M',E,{ hs' with fr:=fun j z hj=>?_ },hp⟩;have hj:zan ((i,y)::s.fr) j=some z:=hj;rw [zai] at hj;split at hj
 ·rename_i e;cases hj;rw [e];exact ⟨(hs.fr i x hx).1,hr⟩
 ·exact hs'.fr j z hj
theorem Wk_sealBX {C:Cx}{k:List It}{s:S}(R:List Nat)(i:Nat){cs ds:List AV}{e:List (Nat×Rw)}(hx:zan s.bx i=some cs)(h:sealLx R s cs=some (ds,e))(hk:Wk C k { s with bx:=(i,ds)::s.bx,rw:=e++s.rw }):Wk C k s:=by
 intro a w ⟨hd,M,E,hs,hp⟩;obtain ⟨b,h1,h2,t,vs,h3,h4,h5⟩:=hs.bx i cs hx;obtain ⟨M',hM,hs',hr,_⟩:=sealLx_ok (vs:=vs.toList) (likeRows.refl hs) h hs ⟨by simpa using h4,fun j v c hv hc=>h5 j v c (by simpa using hv) hc⟩;refine hk a w ⟨hd,M',E,{ hs' with bx:=fun j z hj=>?_,bxn:=fun j hj=>?_ },hp⟩
 ·have hj:zan ((i,ds)::s.bx) j=some z:=hj;rw [zai] at hj;split at hj
  ·rename_i e;cases hj;subst e;exact ⟨b,h1,h2,t,vs,h3,by simpa using hr.1,fun m v c hv hc=>hr.2 m v c (by simpa using hv) hc⟩
  ·exact hs'.bx j z hj
 ·have hj:zan ((i,ds)::s.bx) j=none:=hj;rw [zai] at hj;split at hj
  ·cases hj
  ·exact hs'.bxn j hj
theorem Wk_trunc {C:Cx}{k:List It}{s:S}(i j v n:Nat){r:Rw}(hx:zan s.fr i=some (.rowv j v 0 n))(hr:zan s.rw j=some r)(hv:v=r.ver)(hp:Nat.ble r.pu 1=true)(hn:n<=r.xs.length)(hk0:r.k<=n)
  (hk:Wk C k { s with fr:=(i,.row j (r.ver+1))::s.fr,rw:=(j,{ r with ver:=r.ver+1,cm:=r.xs.length,nl:=false,xs:=r.xs.take n })::s.rw }):Wk C k s:=by
 intro a w ⟨hd,M,E,hs,hp0⟩;obtain ⟨h1,h2⟩:=hs.fr i _ hx;obtain ⟨q,hq,hok⟩:=hs.rw j r hr;have hqn:=hok.n;have hnc:=hok.nc;have hval:a.tmps.getD i undef = .slice q.a n q.c:=by
  have h3:=h2.of_cell rfl;generalize a.tmps.getD i undef=v' at h3;cases h3 with
  | pure h=>cases h
  | rowv _ _ _ _ n' c a' q' hq' hver hh=>
   rw [hq] at hq'; cases hq';obtain ⟨e1,e2,_,e4,_⟩:=hh (by rw [hv]; exact hok.ver.symm);have e5:c=q.c:=by omega
   rw [e1,e2 rfl,e5]
 have hlt:(r.xs.take n).length=n:=by rw [xar,xca hn]
 obtain ⟨E',hup,hE',hst⟩:=hs.rowPut (w':=w) hr hq (r':={ r with ver:=r.ver+1,cm:=r.xs.length,nl:=false,xs:=r.xs.take n }) (n':=n) (.inr (xc6 _)) (Grow.refl w _) rfl hlt.symm (by omega)
  (fun y hy=>hok.es y (xb6 hy)) (by show r.k<=(r.xs.take n).length; rw [hlt]; exact hk0) (by show r.xs.length<=q.c; omega) (fun h=>by cases h) (xaf _)
  (fun p=>by
   have e:zcs s (5,j,p)=ownK (zc0 r.xs)[p]?:=by simp [zcs,hr]
   rw [e,hok.own1 (xap hp)]; exact xbm _) (fun b j v _ hv=>(hs.mem b j v hv).1) (fun blk vs g1 g2 g3 g4 g5=>⟨vs,g3,rfl,fun m u hu=>by
   have hu:(zc0 (r.xs.take n))[m]?=some u:=hu;rw [zjj n hok.es,xau] at hu;split at hu
   ·exact g5 m u hu
   ·cases hu⟩)
 refine hk a w ⟨hd,M,E',{ hst with fr:=fun m z hm=>?_ },hup.p _ hp0⟩;have hm:zan ((i,.row j (r.ver+1))::s.fr) m=some z:=hm;rw [zai] at hm;split at hm
 ·rename_i e;cases hm;rw [e,hval];exact ⟨h1,.cell (.row j _ n q.c q.a _ hE' (xaf _) fun _=>⟨rfl,rfl,rfl⟩)⟩
 ·exact hst.fr m z hm
theorem za9 {C:Cx}{k:List It}{s:S}(σ:Ren)(h:σ.low=true)(hk:Wk C k (s.ren σ))(h2:p2R s.rw=true:=by kernel_rfl)(h3:mpR σ.m s.mp=true:=by kernel_rfl)(h4:noH s.ar=true:=by kernel_rfl):Wk C k s:=Wk_ren σ _ h rfl hk h2 h3 h4
theorem Wk_truncL {C:Cx}{k:List It}{s:S}(i j v n:Nat)(ys:List AV){r:Rw}(hx:zan s.fr i=some (.rowv j v 0 n))(hr:zan s.rw j=some r)(hv:v=r.ver)(hp:Nat.ble r.pu 1=true)(hn:n<=r.xs.length)(hk0:r.k<=n)(hy:r.xs.take n=ys)
  (hk:Wk C k { s with fr:=(i,.row j (r.ver+1))::s.fr,rw:=(j,{ r with ver:=r.ver+1,cm:=r.xs.length,nl:=false,xs:=ys })::s.rw }):Wk C k s:=by
 subst hy;exact Wk_trunc i j v n hx hr hv hp hn hk0 hk
end Go.Dm
namespace Go.Dm
open Go
theorem zaf {x:Int}(h1:-9223372036854775808<=x:=by omega)(h2:x<=9223372036854775807:=by omega):w64 x=x:=by
 unfold w64 IntKind.wrap;simp only [IntKind.signed,IntKind.bits];simp;split <;> omega
def wp {α:Type}(e:Option α)(Q:α->Prop):Prop:=∃ v,e=some v/\Q v
theorem wp_some {α:Type}{v:α}{Q:α->Prop}:wp (some v) Q↔Q v:=⟨fun ⟨_,h,q⟩=>by cases h; exact q,fun h=>⟨_,rfl,h⟩⟩
theorem wp_asrt {β:Type}{p:Prop}{k:Option β}{Q:β->Prop}:wp (zao p k) Q↔p/\wp k Q:=by
 constructor
 ·intro ⟨v,h,q⟩;obtain ⟨hp,hk⟩:=zjq h;exact ⟨hp,v,hk,q⟩
 ·intro ⟨hp,hk⟩;rw [zaa hp]; exact hk
theorem wp_ubO {β:Type}{p:Bool}{e1 e2:Option β}{Q:β->Prop}:wp (ubO p e1 e2) Q↔(p=true->e1=e2)/\wp e2 Q:=by
 unfold ubO;rw [wp_asrt];constructor
 ·intro ⟨h,hk⟩;refine ⟨h,?_⟩;cases p with
  | true=>rw [<- h rfl]; exact hk
  | false=>exact hk
 ·intro ⟨h,hk⟩;refine ⟨h,?_⟩;cases p with
  | true=>rw [xad rfl,h rfl]; exact hk
  | false=>exact hk
theorem wp_is {α:Type}{e:Option α}{v:α}:wp e (fun r=>r=v)↔e=some v:=⟨fun ⟨_,h,q⟩=>by rw [h,q],fun h=>⟨v,h,rfl⟩⟩
theorem wp_mono {α:Type}{e:Option α}{Q R:α->Prop}(h:wp e Q)(m:∀ v,Q v->R v):wp e R:=by
 obtain ⟨v,e,q⟩:=h;exact ⟨v,e,m v q⟩
def Turn {σ ρ:Type}(I:σ->Prop)(Q:ρ->Prop):σ⊕ρ->Prop
 | .inl y=>I y
 | .inr r=>Q r
theorem zae {σ ρ:Type}{step:σ->Option (σ⊕ρ)}{x:σ}{r:ρ}(h:step x=some (.inr r)):zb7 step x=some r:=by rw [zn4,h]
theorem zaj {σ ρ:Type}{step:σ->Option (σ⊕ρ)}{x y:σ}(h:step x=some (.inl y)):zb7 step x=zb7 step y:=by rw [zn4,h]
theorem recO_is {α β:Type}{S:(α->Option β)->α->Option β}{x:α}{r:β}(h:∀ k s,fuelO S k x=some s->s=r){k:Nat}(hk:fuelO S k x=some r):recO S x=some r:=by
 obtain ⟨s,hs⟩:=recO_intro hk;obtain ⟨k',hk'⟩:=recO_elim hs;rw [hs,h k' s hk']
theorem recO_spec {α β:Type}{S:(α->Option β)->α->Option β}(I:α->Prop)(m:α->Nat)(g:α->β)
  (h:∀ x f,I x->(∀ y r,I y->m y<m x->f y=some r->r=g y)->∀ r,S f x=some r->r=g x)
  (h':∀ x f,I x->(∀ y,I y->m y<m x->f y=some (g y))->S f x=some (g x)){x:α}(hx:I x):recO S x=some (g x):=by
 have a:∀ k x,I x->∀ r,fuelO S k x=some r->r=g x:=by
  intro k
  induction k with
  | zero=>intro x hx r h; cases h
  | succ k ih=>intro x hx r hr; exact h x _ hx (fun y r hy _ e=>ih y hy r e) r hr
 have b:∀ k x,I x->m x<k->fuelO S k x=some (g x):=by
  intro k
  induction k with
  | zero=>intro x hx hk; omega
  | succ k ih=>intro x hx hk; exact h' x _ hx (fun y hy hl=>ih y hy (by omega))
 exact recO_is (fun k s=>a k x hx s) (b (m x+1) x hx (xc6 _))
theorem or_t {p q:Prop}{_:Decidable p}{_:Decidable q}(h:p\/q):(decide p||decide q)=true:=by simpa using h
theorem or_f {p q:Prop}{_:Decidable p}{_:Decidable q}(h:¬(p\/q)):¬ (decide p||decide q)=true:=by simpa using h
theorem an_t {p q:Prop}{_:Decidable p}{_:Decidable q}(h:p/\q):(decide p&&decide q)=true:=by simpa using h
theorem an_f {p q:Prop}{_:Decidable p}{_:Decidable q}(h:¬(p/\q)):¬ (decide p&&decide q)=true:=by simpa using h
theorem d_t {p:Prop}{_:Decidable p}(h:p:=by omega):decide p=true:=xb2 h
theorem d_f {p:Prop}{_:Decidable p}(h:¬p:=by omega):¬ decide p=true:=by simpa using h
theorem ifT {p:Prop}{_:Decidable p}{α:Type}{a b:α}(h:p:=by omega):(if decide p=true then a else b)=a:=xad (d_t h)
theorem ifF {p:Prop}{_:Decidable p}{α:Type}{a b:α}(h:¬p:=by omega):(if decide p=true then a else b)=b:=xab (d_f h)
theorem n_t {p:Prop}{_:Decidable p}(h:¬ p):(!decide p)=true:=by simpa using h
theorem n_f {p:Prop}{_:Decidable p}(h:p):¬ (!decide p)=true:=by simpa using h
section
variable {α:Type}
theorem zdk [Inhabited α](l:List α)(n:Nat)(h:n<l.length):zad l (n:Int)=l[n]:=by simp [zad,List.getD,h]
theorem lget_some [Inhabited α](l:List α)(n:Nat)(h:n<l.length):l[n]?=some (zad l (n:Int)):=by simp [zad,List.getD,h]
theorem lget_int [Inhabited α](l:List α)(n:Int)(h:0<=n/\n<(l.length:Int)):l[n.toNat]?=some (zad l n):=by
 have:n.toNat<l.length:=by omega
 simp [zad,List.getD,this]
theorem zif [Inhabited α](l:List α)(n:Int)(h:0<=n/\n<(l.length:Int)):zad l n∈l:=xbk (lget_int l n h)
theorem zdd [Inhabited α](l:List α)(n:Nat)(h:n<l.length):l.drop n=zad l (n:Int)::l.drop (n+1):=by
 rw [xcs h];simp [zad,List.getD,h]
theorem lget_take [Inhabited α](l:List α)(n:Nat)(h:n<l.length):l.take (n+1)=l.take n++[zad l (n:Int)]:=by
 rw [List.take_add_one,lget_some l n h]; rfl
theorem lget_app_r [Inhabited α](a b:List α)(n:Int)(h:(a.length:Int)<=n):zad (a++b) n=zad b (n - a.length):=by
 have h1:a.length<=n.toNat:=by omega
 have h2:n.toNat - a.length=(n - a.length).toNat:=by omega
 unfold zad List.getD;rw [xas h1,h2]
theorem zj8 (l:List α)(n:Int)(x:α):(zmc l n x).length=l.length:=by simp [zmc]
theorem zdu (l:List α)(n:Nat):zdq l (n:Int)=l.take n:=by simp [zdq]
theorem zb8 (l:List α)(n:Nat):zdt l (n:Int)=l.drop n:=by simp [zdt]
theorem lget_ltake [Inhabited α](l:List α)(n m:Int)(h:0<=m/\m<n):zad (zdq l n) m=zad l m:=by
 have:m.toNat<n.toNat:=by omega
 simp [zad,zdq,List.getD,xau,this]
theorem lget_ldrop [Inhabited α](l:List α)(n m:Int)(h:0<=n/\0<=m):zad (zdt l n) m=zad l (n+m):=by
 have:n.toNat+m.toNat=(n+m).toNat:=by omega
 simp [zad,zdt,List.getD,this]
end
end Go.Dm
namespace Go.Dm
open Go
theorem loop_from {σ ρ:Type}{step:σ->Option (σ⊕ρ)}(n:Nat)(st:Nat->σ)(h:∀ k,k<n->step (st k)=some (.inl (st (k+1)))){r:ρ}(he:step (st n)=some (.inr r))(k:Nat)(hk:k<=n):zb7 step (st k)=some r:=by
 have:∀ m k,n - k=m->k<=n->zb7 step (st k)=some r:=by
  intro m
  induction m with
  | zero=>
   intro k e hk;have:k=n:=by omega
   subst this;exact zae he
  | succ m ih=>
   intro k e hk;exact (zaj (h k (by omega))).trans (ih (k+1) (by omega) (by omega))
 exact this (n - k) k rfl hk
theorem loop_run {σ ρ:Type}{step:σ->Option (σ⊕ρ)}(n:Nat)(st:Nat->σ)(h:∀ k,k<n->step (st k)=some (.inl (st (k+1)))){r:ρ}(he:step (st n)=some (.inr r)):zb7 step (st 0)=some r:=
 loop_from n st h he 0 (xbm _)
theorem loop_first' {σ ρ:Type}{step:σ->Option (σ⊕ρ)}(n:Nat)(st:Nat->σ)(bad:Nat->Prop)(rb:Nat->ρ){r:ρ}
  (h:∀ k,k<n->¬ bad k->step (st k)=some (.inl (st (k+1))))(hb:∀ k,k<n->bad k->step (st k)=some (.inr (rb k)))(he:step (st n)=some (.inr r))(k:Nat)(hk:k<=n) :
  (∃ j,k<=j/\j<n/\bad j/\(∀ i,k<=i->i<j->¬ bad i)/\zb7 step (st k)=some (rb j))\/((∀ j,k<=j->j<n->¬ bad j)/\zb7 step (st k)=some r):=by
 have:∀ m k,n - k=m->k<=n->(∃ j,k<=j/\j<n/\bad j/\(∀ i,k<=i->i<j->¬ bad i)/\zb7 step (st k)=some (rb j))\/((∀ j,k<=j->j<n->¬ bad j)/\zb7 step (st k)=some r):=by
  intro m
  induction m with
  | zero=>
   intro k e hk;have:k=n:=by omega
   subst this;exact .inr ⟨fun j h1 h2=>by omega,zae he⟩
  | succ m ih=>
   intro k e hk;by_cases c:bad k
   ·exact .inl ⟨k,xaf _,by omega,c,fun i h1 h2=>by omega,zae (hb k (by omega) c)⟩
   ·have e1:=zaj (h k (by omega) c)
    rcases ih (k+1) (by omega) (by omega) with ⟨j,h1,h2,h3,h4,h5⟩ | ⟨h1,h2⟩
    ·refine .inl ⟨j,by omega,h2,h3,fun i g1 g2=>?_,e1.trans h5⟩;by_cases hi:i=k
     ·rw [hi]; exact c
     ·exact h4 i (by omega) g2
    ·refine .inr ⟨fun j g1 g2=>?_,e1.trans h2⟩;by_cases hj:j=k
     ·rw [hj]; exact c
     ·exact h1 j (by omega) g2
 exact this (n - k) k rfl hk
theorem loop_first {σ ρ:Type}{step:σ->Option (σ⊕ρ)}(n:Nat)(st:Nat->σ)(bad:Nat->Prop)(rb:Nat->ρ){r:ρ}
  (h:∀ k,k<n->¬ bad k->step (st k)=some (.inl (st (k+1))))(hb:∀ k,k<n->bad k->step (st k)=some (.inr (rb k)))(he:step (st n)=some (.inr r)) :
  (∃ j,j<n/\bad j/\(∀ i,i<j->¬ bad i)/\zb7 step (st 0)=some (rb j))\/((∀ j,j<n->¬ bad j)/\zb7 step (st 0)=some r):=by
 rcases loop_first' n st bad rb h hb he 0 (xbm _) with ⟨j,_,h2,h3,h4,h5⟩ | ⟨h1,h2⟩
 ·exact .inl ⟨j,h2,h3,fun i hi=>h4 i (xbm _) hi,h5⟩
 ·exact .inr ⟨fun j hj=>h1 j (xbm _) hj,h2⟩
section
variable {α:Type}[Inhabited α]
theorem mem_lget {l:List α}{x:α}:x∈l↔∃ k:Nat,k<l.length/\zad l (k:Int)=x:=by
 rw [xdc];constructor
 ·rintro ⟨k,h,e⟩; exact ⟨k,h,by rw [zdk l k h,e]⟩
 ·rintro ⟨k,h,e⟩; exact ⟨k,h,by rw [<- zdk l k h,e]⟩
end
end Go.Dm
namespace Go.Dm
open Go
abbrev AV.i (x:Int):AV:=.int .i64 x
abbrev Rw.o (ty:TypeId)(sz ver:Nat)(xs:List AV):Rw:=⟨ty,sz,ver,0,0,false,0,[],xs⟩
abbrev Rw.z (ty:TypeId)(sz ver:Nat)(xs:List AV):Rw:=⟨ty,sz,ver,0,0,true,0,[],xs⟩
def pick {α:Type}(d:α)(new old:List (Nat×α)):List Nat->List (Nat×α)
 | []=>[]
 | i::is=>(i,match zan new i with
  | some v=>v
  | none=>match zan old i with
   | some v=>v
   | none=>d)::pick d new old is
def S.up (s:S)(fs bs rs ms:List Nat)(fr:List (Nat×AV))(bx:List (Nat×List AV))(rw:List (Nat×Rw))(mp:List (Nat×List (AV×AV))):S:=
 ⟨pick .nils fr s.fr fs,pick [] bx s.bx bs,pick ⟨0,0,0,0,0,false,0,[],[]⟩ rw s.rw rs,pick [] mp s.mp ms,[]⟩
def S.uf (s:S)(fs bs rs:List Nat)(fr:List (Nat×AV)):S:=s.up fs bs rs [] fr [] [] []
end Go.Dm
namespace Go.Dm
open Go
variable {C:Cx}{k:List It}{s t:S}
def flt:Nat->List It->List It
 | 0,k=>k
 | n+1,k=>match k with
  | .code (.seq a b)::k=>flt n (.code a :: .code b::k)
  | .code .skip::k=>flt n k
  | .blk _::k=>flt n k
  | k=>k
theorem zgx:∀ (n:Nat) (k:List It),Wk C (flt n k) s->Wk C k s
 | 0,k,h=>h
 | n+1,k,h=>by
  unfold flt at h;split at h
  ·exact Wk_seq (zgx n _ h)
  ·exact Wk_skip (zgx n _ h)
  ·exact Wk_blk (zgx n _ h)
  ·exact h
def ks {α:Type}:List (Nat×α)->List Nat
 | []=>[]
 | p::l=>p.1::ks l
def S.upT (s:S)(fs bs rs ms:List Nat)(d:List (Nat×AV)×List (Nat×List AV)×List (Nat×Rw)×List (Nat×List (AV×AV))):S:=s.up fs bs rs ms d.1 d.2.1 d.2.2.1 d.2.2.2
theorem Nif {c:Nat}{x y:Code}{b:Bool}{β:Type}{e1 e2 r:β}(hF:(if b=true then e1 else e2)=r)(ht:b=true->e1=r->Wk C (flt 99 (.code x::k)) s)(hf:b=false->e2=r->Wk C (flt 99 (.code y::k)) s)(hc:zan s.fr c=some (.bool b):=by kernel_rfl):Wk C (.code (.cond (.tmp c) x y)::k) s:=
 Wk_split hc (fun hb=>zgx 99 _ (ht hb (ite_t hF hb))) (fun hb=>zgx 99 _ (hf hb (ite_f hF hb)))
theorem Nsplit {c:Nat}{x y:Code}{b:Bool}(hc:zan s.fr c=some (.bool b))(ht:b=true->Wk C (flt 99 (.code x::k)) s)(hf:b=false->Wk C (flt 99 (.code y::k)) s):Wk C (.code (.cond (.tmp c) x y)::k) s:=
 Wk_split hc (fun hb=>zgx 99 _ (ht hb)) (fun hb=>zgx 99 _ (hf hb))
theorem Ntrue {c:Nat}{x y:Code}(hc:zan s.fr c=some (.bool true))(h:Wk C (flt 99 (.code x::k)) s):Wk C (.code (.cond (.tmp c) x y)::k) s:=Wk_true hc (zgx 99 _ h)
theorem Nfalse {c:Nat}{x y:Code}(hc:zan s.fr c=some (.bool false))(h:Wk C (flt 99 (.code y::k)) s):Wk C (.code (.cond (.tmp c) x y)::k) s:=Wk_false hc (zgx 99 _ h)
theorem zdb {id:Nat}{c:Code}(h:Wk C (flt 99 (.code c :: .blk id::k)) s):Wk C (.code (.block id c)::k) s:=Wk_block (zgx 99 _ h)
theorem zcp {id:Nat}{k':List It}(hp:popTo id k=some k')(h:Wk C (flt 99 k') s):Wk C (.code (.exit id)::k) s:=Wk_exit hp (zgx 99 _ h)
theorem Nmeet {x:It}(t:S)(h1:Wk C (x :: .cut (fun s'=>s'=t)::k) s)(h2:Wk C (flt 99 k) t):Wk C (x::k) s:=Wk_meet t h1 (zgx 99 _ h2)
theorem NmeetP {x:It}{σ:Type}(st:σ->S)(p:σ->Prop)(h1:Wk C (x :: .cut (fun s'=>∃ v,p v/\s'=st v)::k) s)(h2:∀ v,p v->Wk C (flt 99 k) (st v)):Wk C (x::k) s:=
 Wk_meetP st p h1 fun v hv=>zgx 99 _ (h2 v hv)
theorem Niter {body:Code}{σ ρ:Type}{step:σ->Option (σ⊕ρ)}{r:ρ}{x0:σ}(st:σ->S)(nv:NV)(h:zb7 step x0=some r)(hs:trimS (ks (st x0).fr) (ks (st x0).bx) (ks (st x0).rw) (ks (st x0).mp) (ks (st x0).ar) nv s=some (st x0))
  (hr:∀ n x y,step x=some y->(∀ x',y = .inl x'->Wk C (.rnd n body::k) (st x'))->(∀ r',y = .inr r'->r'=r)->Wk C (flt 99 (.code body :: .rnd n body::k)) (st x)) :
  Wk C (.code (.loop body)::k) s:=
 zd9 hs (Wk_iter st x0 h fun n x y h1 h2 h3=>zgx 99 _ (hr n x y h1 h2 h3))
theorem hc {p:Prop}{l:List Prop}(h:p)(t:HL l):HL (p::l):=.cons h t
theorem zhi {β:Type}{p q:Prop}{k:Option β}{y:β}(h:zao p (zao q k)=some y):p/\q/\k=some y:=by
 obtain ⟨h1,h⟩:=zjq h;obtain ⟨h2,h⟩:=zjq h;exact ⟨h1,h2,h⟩
theorem zj1 {β:Type}{p q p' q':Prop}{k:Option β}{y:β}(h:zao p (zao q (zao p' (zao q' k)))=some y):p/\q/\p'/\q'/\k=some y:=by
 obtain ⟨h1,h2,h⟩:=zhi h;obtain ⟨h3,h4,h⟩:=zhi h;exact ⟨h1,h2,h3,h4,h⟩
end Go.Dm
namespace Go.Dm
open Go
variable {C:Cx}{k:List It}{s t:S}{τ:zbn}
end Go.Dm
namespace Go.Dm
open Go
theorem Wk_rpBx {C:Cx}{k:List It}{s:S}(d i:Nat)(fs bs rs ms:List Nat){cs:List AV}{f:List (Nat×AV)}{b:List (Nat×List AV)}{r:List (Nat×Rw)}{m:List (Nat×List (AV×AV))}
  (hx:zan s.fr d=some (.ptr i 0))(hb:zan s.bx i=some cs)(hp:zfj 0 [] cs=true)(h1:selF fs s.fr=some f)(h2:selF bs s.bx=some b)(h3:selF rs s.rw=some r)(h4:selF ms s.mp=some m)
  (hc:zmg ⟨f,b,r,m,[]⟩=true)(hn:zam b i=false)(hk:Wk C k ⟨(d,.rp (.agg cs))::f,b,r,m,[]⟩):Wk C k s:=by
 intro a w ⟨hdf,M,E,hs,hp0⟩;have ht:=hs.sub (t:=⟨f,b,r,m,[]⟩) (fun i v=>zf2 h1) (fun i v=>zf2 h2) (fun i v=>zf2 h3) (fun i v=>zf2 h4) (fun i v h=>by cases h) hc;obtain ⟨hdN,hrel⟩:=hs.fr d _ hx;obtain ⟨blk,q1,q2,ty,vs,q3,q4,q5⟩:=hs.bx i cs hb;have hM0:∀ j v,M blk j=some v->False:=fun j v hv=>by
  have:=(hs.mem blk j v hv).2 _ q2;simp [zcs] at this
 have hle:∀ b j v,M b j=some v->(fun b j=>if b=blk then vs[j]? else M b j) b j=some v:=fun b j v hv=>by
  by_cases e:b=blk
  ·subst e; exact absurd hv (fun h=>hM0 _ _ h)
  ·show (if b=blk then vs[j]? else M b j)=some v;rw [xab e]; exact hv
 have hF:¬ C.g.F blk:=fun h=>by
  have:=(hs.foreign blk h).2.2;rw [q2] at this; cases this
 have hcell:∀ (j:Nat) (v:Value),vs[j]?=some v->w.cell? ⟨blk,j,none⟩=some v:=fun j v hv=>by
  rw [xcz w blk j vs ty (0,0) q3]; exact hv
 have hst:=ht.moreM (M':=fun b j=>if b=blk then vs[j]? else M b j) (s':=⟨f,b,r,m,[]⟩) hle (fun b' j v hv=>by
   by_cases e:b'=blk
   ·subst e;have hv:vs[j]?=some v:=by simpa using hv
    refine ⟨hcell j v hv,fun o ho=>?_⟩;exfalso;simp only [Env.keep,q2,hn] at ho;simp at ho
   ·have hv:M b' j=some v:=by simpa [e] using hv
    exact ht.mem b' j v hv) (fun b' j v hv hf=>by
   by_cases e:b'=blk
   ·subst e; exact absurd hf hF
   ·have hv:M b' j=some v:=by simpa [e] using hv
    exact ht.mf b' j v hv hf) rfl rfl rfl rfl (fun i r' h=>⟨r',h,r'.k,rfl,by obtain ⟨q,_,hok⟩:=ht.rw i r' h; exact hok.k⟩) (fun i h=>h)
 refine hk a w ⟨hdf,_,_,{ hst with fr:=fun j z hj=>?_ },Env.keep_p0 hp0 _ _ _ _⟩;have hj:zan ((d,AV.rp (.agg cs))::f) j=some z:=hj;rw [zai] at hj;split at hj
 ·rename_i e;cases hj;refine ⟨by rw [e]; exact hdN,?_⟩;obtain ⟨bb,e1,e2⟩:=hrel.ptr_inv;rw [q1] at e1; cases e1;rw [e,e2];refine .cell (.pure (.rp blk 0 (.agg cs) (fun j=>vs.getD j undef) (fun j hj=>?_) fun j u hu=>?_))
  ·have hj:j<cs.length:=hj;have hjv:j<vs.size:=by omega
   simp [hjv,Array.getD]
  ·have hu:cs[j]?=some u:=hu;have hj:=(xac.1 hu).1;have hjv:j<vs.size:=by omega
   have hv:vs[j]?=some vs[j]:=by simp [hjv]
   have:=q5 j _ u hv hu;have hel:=zhr hp hu;have e0:vs.getD j undef=vs[j]:=by simp [hjv,Array.getD]
   rw [e0];have he:eR M E 0 [] vs[j] u:=zm3 hel this;exact RelP.mono hle he
 ·exact hst.fr j z hj
theorem Nagain {C:Cx}{k:List It}{s:S}{n:Nat}{body:Code}(h:Wk C (flt 99 (.code body :: .rnd n body::k)) s):Wk C (.rnd (n+1) body::k) s:=Wk_again (zgx 99 _ h)
end Go.Dm
namespace Go.Dm
open Go
variable {C:Cx}{k:List It}{s t:S}{τ:zbn}
def runU (τ:zbn)(P:Program)(N:Nat)(drw:Bool)(ops:List Oper)(an:List An)(s:S):Option (List Prop×List (Bool×Bool)×S):=
 match dstB N ops with
 | true=>match runK τ P ops ops s an with
  | some (gs,es,s1,ks)=>match (match drw with | true=>indepB ops 0 ks&&backB 0 ops | false=>true) with
   | true=>some (gs,es,s1)
   | false=>none
  | none=>none
 | false=>none
def nxt:Option (List Prop×List (Bool×Bool)×S)->S
 | some (_,_,t)=>t
 | none=>S.none
def outG:Option (List Prop×List (Bool×Bool)×S)->Option (List Prop×List Bool)
 | some (gs,es,_)=>some (gs,fsts es)
 | none=>none
theorem L_R (hτ:zgl C.P τ){id:Nat}{ops:List Oper}(an:List An){gs:List Prop}(hg:HL gs)(h:outG (runU τ C.P C.N false ops an s)=some (gs,outR (runU τ C.P C.N false ops an s)))(hk:Wk C k (nxt (runU τ C.P C.N false ops an s))):Wk C (.code (.region id ops.toArray false)::k) s:=by
 cases hr:runU τ C.P C.N false ops an s with
 | none=>rw [hr] at h; cases h
 | some p=>
  obtain ⟨gs',es,t'⟩:=p;rw [hr] at h hk;simp only [outG,outR,Option.some.injEq,Prod.mk.injEq] at h;obtain ⟨rfl,he⟩:=h;unfold runU at hr;split at hr
  ·rename_i hd;split at hr
   ·rename_i gs1 es1 s1 ks hrk;split at hr
    ·cases hr;exact fun a w hx=>wp_region_lit (runK_text hτ hd hrk hg.all (AllE_of he) hk a w hx)
    ·cases hr
   ·cases hr
  ·cases hr
theorem L_D (hτ:zgl C.P τ)(hm:C.P.follows .mixedOrders=true){id:Nat}{ops:List Oper}(an:List An){gs:List Prop}(hg:HL gs)(h:outG (runU τ C.P C.N true ops an s)=some (gs,outR (runU τ C.P C.N true ops an s)))(hk:Wk C k (nxt (runU τ C.P C.N true ops an s))):Wk C (.code (.region id ops.toArray true)::k) s:=by
 cases hr:runU τ C.P C.N true ops an s with
 | none=>rw [hr] at h; cases h
 | some p=>
  obtain ⟨gs',es,t'⟩:=p;rw [hr] at h hk;simp only [outG,outR,Option.some.injEq,Prod.mk.injEq] at h;obtain ⟨rfl,he⟩:=h;unfold runU at hr;split at hr
  ·rename_i hd;split at hr
   ·rename_i gs1 es1 s1 ks hrk;split at hr
    ·rename_i hib;cases hr;simp only [xaw] at hib;obtain ⟨res,h1,h2,h3⟩:=runK_draw hτ (n:=0) rfl hd hrk hg.all (AllE_of he);exact draw_region hm h1 h2 (by rw [h3]; exact hib.1) hib.2 hk
    ·cases hr
   ·cases hr
  ·cases hr
theorem zmf (nv:NV)(h:trimS (ks t.fr) (ks t.bx) (ks t.rw) (ks t.mp) (ks t.ar) nv s=some t:=by kernel_rfl):Wk C (.cut (fun s'=>s'=t)::k) s:=Wk_met h
theorem zfr {σ:Type}{st:σ->S}{p:σ->Prop}(v:σ)(nv:NV)(hp:p v)(h:trimS (ks (st v).fr) (ks (st v).bx) (ks (st v).rw) (ks (st v).mp) (ks (st v).ar) nv s=some (st v):=by kernel_rfl):Wk C (.cut (fun s'=>∃ v,p v/\s'=st v)::k) s:=Wk_metP v _ _ _ _ _ nv hp h
theorem zg1 {σ ρ:Type}{x':σ}{y:σ⊕ρ}{st:σ->S}(nv:NV)(hF:some (Sum.inl x':σ⊕ρ)=some y)(ih:∀ x',y = .inl x'->Wk C k (st x'))(h:trimS (ks (st x').fr) (ks (st x').bx) (ks (st x').rw) (ks (st x').mp) (ks (st x').ar) nv s=some (st x'):=by kernel_rfl):Wk C k s:=
 zd9 h (ih x' (zjl hF).symm)
theorem Wz {res:List ResultVar}{ts:List TypeId}{r:AV}{s1:S}(nv:NV)(hfin:∀ s,Ends τ res ts r s1 s->Fin C s)(h:fin τ s res ts (ks s1.rw) (ks s1.bx) (ks s1.rw) [] [] nv=some ⟨[(0,r)],s1.bx,s1.rw,s1.mp,s1.ar⟩:=by kernel_rfl):Wk C (.code .ret::k) s:=
 Wk_ret (hfin _ ⟨_,_,_,[],[],nv,h⟩)
theorem appN {α:Type}(f:α->AV){a b v:List α}(h:a++b=v):v.map f=a.map f++b.map f:=by subst h; exact app_ok f a b
theorem setN {α:Type}(f:α->AV){l v:List α}{n:Int}{x:α}(h:zmc l n x=v):v.map f=(l.map f).set n.toNat (f x):=by subst h; exact set_ok f l n x
theorem applN {α:Type}{n:Nat}(f:α->AV){l v:List α}(h:l=v)(hl:(l.length:Int)*n<=140737488351232):(v.map f).length*n<=140737488351232:=by subst h; exact appl_ok f hl
theorem aE {β:Type}{p:Prop}{k:Option β}{y:β}(h:zao p k=some y):p/\k=some y:=zjq h
theorem oE {α β:Type}{e:Option α}{f:α->Option β}{y:β}(h:ob e f=some y):∃ x,e=some x/\f x=some y:=ob_elim h
theorem lS {α β:Type}{e:α}{f:α->β}{y:β}(h:lt e f=y):∃ x,e=x/\f x=y:=lt_split h
abbrev Rw.q (ty:TypeId)(sz ver k cm:Nat)(nl:Bool)(xs:List AV):Rw:=⟨ty,sz,ver,k,cm,nl,0,[],xs⟩
def cE (bs rs ms as:List Nat){P:Program}{f:FuncId}{s0:S}{args:List AV}{r:AV}{s1:S}(h:Pe P f s0 args r s1):An:=.callE bs rs ms as r s1
abbrev S.w (rw:List (Nat×Rw)):S:=⟨[],[],rw,[],[]⟩
theorem PeM {P:Program}{f:FuncId}{fn:Func}{c:Code}(N:Nat)(res:List ResultVar)(ts:List TypeId){τ:zbn}(hτ:zgl P τ)(hfn:P.funcs[f]?=some fn)
  {s0 s1:S}{args:List AV}{r:AV}
  (h:∀ (Q:Exit->Act->World->Prop) (g:Gh),(∀ s,Ends τ res ts r s1 s->Fin ⟨P,Q,g,N⟩ s)->Wk ⟨P,Q,g,N⟩ (flt 99 [.code c]) ⟨zok 0 args,s0.bx,s0.rw,s0.mp,s0.ar⟩)
  (hbody:fn.body=some c:=by rfl)(hN:fn.ntmps=N:=by rfl)(hres:fn.results.toList=res:=by rfl)(hlen:Nat.ble args.length N=true:=by rfl)(h0:hiS s0=true:=by rfl)(hf1:s1.fr=[]:=by rfl)
  (hname:(fn.name == "runtime.NumGoroutine")=false:=by kernel_rfl):Pe P f s0 args r s1:=
 Pe_of hτ (znh hfn hbody hname) hfn hbody hN hres hlen h0 hf1 fun Q g hfin=>zgx 99 _ (h Q g hfin)
def J (an:List An)(gs:List Prop):Prop:=HL gs
section
variable {α:Type}{an:List An}{gs:List Prop}
theorem J.z:J [] []:=.nil
theorem J.g {p:Prop}(h:p)(t:J an gs):J an (p::gs):=.cons h t
theorem J.a (a:An)(t:J an gs):J (a::an) gs:=t
theorem J.l (f:α->AV)(l:List α)(t:J an gs):J (.nat (l.length:Int)::an) (((l.length:Int)=((l.map f).length:Int))::gs):=.cons (zfb f l) t
theorem J.i [Inhabited α](f:α->AV){l:List α}{n:Int}(h:0<=n/\n<(l.length:Int))(t:J an gs):J (.av (f (zad l n))::an) ((0<=n/\(l.map f)[n.toNat]?=some (f (zad l n)))::gs):=.cons (ze5 f h) t
theorem J.r [Inhabited α](f:α->AV){l:List α}{n:Int}(h:0<=n/\n<(l.length:Int))(t:J an gs):J (.av (f (zad l n))::an) (((l.map f)[n.toNat]?=some (f (zad l n)))::gs):=.cons (ziv f h) t
theorem J.x (f:α->AV){l:List α}{n:Int}(h:0<=n/\n<(l.length:Int))(t:J an gs):J an ((0<=n/\n.toNat<(l.map f).length)::gs):=.cons (zj2 f h) t
theorem J.u {l:List UInt8}{n:Int}(h:0<=n/\n<(l.length:Int))(t:J an gs):J (.u8 (zad l n)::an) ((0<=n/\l[n.toNat]?=some (zad l n))::gs):=.cons (idxS_ok h) t
theorem J.b {P:Program}{f:FuncId}{s0 s1:S}{args:List AV}{r:AV}(h:Pe P f s0 args r s1)(t:J an gs):J (.callB r::an) (Pe P f s0 args r s1::gs):=.cons h t
theorem J.c {P:Program}{f:FuncId}{s0 s1:S}{args:List AV}{r:AV}(h:Pe P f s0 args r s1)(t:J an gs):J (.call r::an) (Pe P f s0 args r s1::gs):=.cons h t
theorem J.q (bs rs:List Nat){P:Program}{f:FuncId}{s0 s1:S}{args:List AV}{r:AV}(h:Pe P f s0 args r s1)(t:J an gs):J (.callR bs rs [] [] r::an) (Pe P f s0 args r s1::gs):=.cons h t
theorem J.e (bs rs:List Nat){P:Program}{f:FuncId}{s0 s1:S}{args:List AV}{r:AV}(h:Pe P f s0 args r s1)(t:J an gs):J (.callE bs rs [] [] r s1::an) (Pe P f s0 args r s1::gs):=.cons h t
theorem J.s10 {l:List α}{a:Int}(f:α->AV)(h:0<=a/\a<=(l.length:Int))(t:J an gs):J (.xs ((zdt l a).map f)::an) ((0<=a/\a.toNat<=(l.map f).length/\(zdt l a).map f=(l.map f).drop a.toNat)::gs):=.cons (sl10_ok f h) t
theorem J.s01 {l:List α}{b:Int}(f:α->AV)(h:0<=b/\b<=(l.length:Int))(t:J an gs):J (.xs ((zdq l b).map f)::an) ((0<=b/\b.toNat<=(l.map f).length/\(zdq l b).map f=(l.map f).take b.toNat)::gs):=.cons (sl01_ok f h) t
theorem J.s11 {l:List α}{a b:Int}(f:α->AV)(h:0<=a/\a<=b/\b<=(l.length:Int))(t:J an gs):J (.xs ((zdt (zdq l b) a).map f)::an) ((0<=a/\a<=b/\b.toNat<=(l.map f).length/\(zdt (zdq l b) a).map f=((l.map f).take b.toNat).drop a.toNat)::gs):=.cons (sl11_ok f h) t
theorem J.p {n:Nat}{a b:List α}(f:α->AV)(h:((a++b).length:Int)*n<=140737488351232)(t:J an gs):J (.xs ((a++b).map f)::an) (((a++b).map f=a.map f++b.map f)::(((a++b).map f).length*n<=140737488351232)::gs):=.cons (app_ok f a b) (.cons (appl_ok f h) t)
theorem J.pN {n:Nat}{a b v:List α}(f:α->AV)(hv:a++b=v)(h:((a++b).length:Int)*n<=140737488351232)(t:J an gs):J (.xs (v.map f)::an) ((v.map f=a.map f++b.map f)::((v.map f).length*n<=140737488351232)::gs):=.cons (appN f hv) (.cons (applN f hv h) t)
theorem J.p0 {n:Nat}{b:List α}(f:α->AV)(h:(b.length:Int)*n<=140737488351232)(t:J an gs):J (.xs (b.map f)::an) ((b.map f=[]++b.map f)::((b.map f).length*n<=140737488351232)::gs):=.cons (app0_ok f b) (.cons (appl_ok f h) t)
theorem J.w [Inhabited α](f:α->AV){l:List α}{n:Int}(h:0<=n/\n<(l.length:Int))(x:α)(t:J an gs):J (.av (f (zad l n)) :: .xs ((zmc l n x).map f)::an) (((l.map f)[n.toNat]?=some (f (zad l n)))::((zmc l n x).map f=(l.map f).set n.toNat (f x))::(0<=n.toNat)::gs):=.cons (ziv f h) (.cons (set_ok f l n x) (.cons (xbm _) t))
theorem J.wN [Inhabited α](f:α->AV){l v:List α}{n:Int}{x:α}(h:0<=n/\n<(l.length:Int))(hv:zmc l n x=v)(t:J an gs):J (.av (f (zad l n)) :: .xs (v.map f)::an) (((l.map f)[n.toNat]?=some (f (zad l n)))::(v.map f=(l.map f).set n.toNat (f x))::(0<=n.toNat)::gs):=.cons (ziv f h) (.cons (setN f hv) (.cons (xbm _) t))
end
theorem Nitr {body:Code}{σ ρ:Type}{step:σ->Option (σ⊕ρ)}{r:ρ}{x0:σ}(h:zb7 step x0=some r)(nv:NV)(st:σ->S)
  (hr:∀ n x y,step x=some y->(∀ x',y = .inl x'->Wk C (.rnd n body::k) (st x'))->(∀ r',y = .inr r'->r'=r)->Wk C (flt 99 (.code body :: .rnd n body::k)) (st x))
  (hs:trimS (ks (st x0).fr) (ks (st x0).bx) (ks (st x0).rw) (ks (st x0).mp) (ks (st x0).ar) nv s=some (st x0):=by kernel_rfl) :
  Wk C (.code (.loop body)::k) s:=Niter st nv h hs hr
theorem znj {body:Code}{σ ρ:Type}{step:σ->Option (σ⊕ρ)}{r:ρ}{x0:σ}(h:zb7 step x0=some r)(nv:NV)(st:S->σ->S)
  (hr:∀ n x y,step x=some y->(∀ x',y = .inl x'->Wk C (.rnd n body::k) (st s x'))->(∀ r',y = .inr r'->r'=r)->Wk C (flt 99 (.code body :: .rnd n body::k)) (st s x))
  (hs:trimS (ks (st s x0).fr) (ks (st s x0).bx) (ks (st s x0).rw) (ks (st s x0).mp) (ks (st s x0).ar) nv s=some (st s x0):=by kernel_rfl) :
  Wk C (.code (.loop body)::k) s:=Nitr h nv (st s) hr hs
theorem NmQ {x:It}{σ:Type}(p:σ->Prop)(st:σ->S)(h1:Wk C (x :: .cut (fun s'=>∃ v,p v/\s'=st v)::k) s)(h2:∀ v,p v->Wk C (flt 99 k) (st v)):Wk C (x::k) s:=NmeetP st p h1 h2
theorem NmS {x:It}{σ:Type}(p:σ->Prop)(st:S->σ->S)(h1:Wk C (x :: .cut (fun s'=>∃ v,p v/\s'=st s v)::k) s)(h2:∀ v,p v->Wk C (flt 99 k) (st s v)):Wk C (x::k) s:=NmeetP (st s) p h1 h2
theorem NmT {x:It}(t:S->S)(h1:Wk C (x :: .cut (fun s'=>s'=t s)::k) s)(h2:Wk C (flt 99 k) (t s)):Wk C (x::k) s:=Nmeet (t s) h1 h2
def eqZ:List Value->List AV->Bool
 | [],[]=>true
 | .int k n::l,.int k' m::r=>decide (k=k')&&decide (n=m)&&eqZ l r
 | .bool a::l,.bool b::r=>(a == b)&&eqZ l r
 | .string a::l,.str []::r=>decide (a.data.toList=[])&&eqZ l r
 | .slice none 0 0::l,.nils::r=>eqZ l r
 | .pointer none::l,.nilp::r=>eqZ l r
 | .nilFunc::l,.nilfn::r=>eqZ l r
 | .map none::l,.nilmp::r=>eqZ l r
 | .nilIface::l,.ifc true::r=>eqZ l r
 | _,_=>false
theorem eqZ_ok:∀ {l:List Value} {r:List AV},eqZ l r=true->l=r.map AV.zv/\r.all AV.isZ=true:=by
 intro l r h
 induction l,r using eqZ.induct <;> simp only [eqZ,xaw,xav,xeq,xby] at h
 case case1=>exact ⟨rfl,rfl⟩
 case case2 ih=>obtain ⟨⟨rfl,rfl⟩,h⟩:=h; obtain ⟨rfl,h2⟩:=ih h; exact ⟨rfl,by simpa [AV.isZ] using h2⟩
 case case3 ih=>obtain ⟨rfl,h⟩:=h; obtain ⟨rfl,h2⟩:=ih h; exact ⟨rfl,by simpa [AV.isZ] using h2⟩
 case case4 a l r ih=>
  obtain ⟨h1,h⟩:=h; obtain ⟨rfl,h2⟩:=ih h;refine ⟨?_,by simpa [AV.isZ] using h2⟩;obtain ⟨⟨d⟩⟩:=a;simp only at h1;subst h1;rfl
 case case5 ih=>obtain ⟨rfl,h2⟩:=ih h; exact ⟨rfl,by simpa [AV.isZ] using h2⟩
 case case6 ih=>obtain ⟨rfl,h2⟩:=ih h; exact ⟨rfl,by simpa [AV.isZ] using h2⟩
 case case7 ih=>obtain ⟨rfl,h2⟩:=ih h; exact ⟨rfl,by simpa [AV.isZ] using h2⟩
 case case8 ih=>obtain ⟨rfl,h2⟩:=ih h; exact ⟨rfl,by simpa [AV.isZ] using h2⟩
 case case9 ih=>obtain ⟨rfl,h2⟩:=ih h; exact ⟨rfl,by simpa [AV.isZ] using h2⟩
def chkK (P:Program)(t:TypeId)(k:TK):Bool:=match P.underlying t with
 | some (.int a)=>match k with | .int b=>decide (a=b) | _=>false
 | some .bool=>match k with | .bool=>true | _=>false
 | some .string=>match k with | .str=>true | _=>false
 | some (.pointer a)=>match k with | .ptr b=>Nat.beq a b | _=>false
 | some (.slice a)=>match k with | .slice b=>Nat.beq a b | _=>false
 | some (.func _ _ _)=>match k with | .func=>true | _=>false
 | some (.map a b)=>match k with | .map c d=>Nat.beq a c&&Nat.beq b d | _=>false
 | some (.array n a)=>match k with | .arr b m=>Nat.beq a b&&Nat.beq n m | _=>false
 | some (.interface _)=>match k with | .iface=>true | _=>false
 | some (.struct fs)=>match k with
  | .struct fl eq=>decide (fs.toList.map (fun f=>(f.type,f.offset))=fl)&&(!eq||(!P.stoodInHeld t && !P.eqGuardType P.depth t&&fs.toList.all (fun f=>decide (f.name≠"_"))))
  | _=>false
 | _=>false
theorem chkK_ok {P:Program}{t:TypeId}{k:TK}(h:chkK P t k=true):TKOk P t k:=by
 unfold chkK at h;split at h <;> rename_i hu <;> first
  | (cases h; done)
  | split at h
 all_goals first
  | (cases h; done)
  | skip
 ·exact (by simpa using h:_=_)▸hu
 ·exact hu
 ·exact hu
 ·exact xam h▸hu
 ·exact xam h▸hu
 ·exact ⟨_,_,_,hu⟩
 ·simp only [xaw] at h;exact xam h.1▸xam h.2▸hu
 ·simp only [xaw] at h;exact xam h.1▸xam h.2▸hu
 ·exact ⟨_,hu⟩
 ·rename_i fs _ fl eq;simp only [xaw,xav] at h;refine ⟨fs,hu,h.1,fun e=>?_⟩;subst e;have h2:=h.2;simp only [xez,xfg,xaw,xbq] at h2;exact ⟨h2.1.1,h2.1.2,h2.2⟩
def chk1 (P:Program)(t:TypeId)(i:TI):Bool:=match P.info? t with
 | some x=>match x.zero with
  | some z=>Nat.beq x.size i.sz&&Nat.beq x.bytes i.bytes&&eqZ z.cells.toList i.zero&&(z.isAgg' == i.k.agg)&&Nat.beq i.zero.length i.sz&&chkK P t i.k&&(i.k.agg||Nat.beq i.sz 1)
  | none=>false
 | none=>false
theorem chk1_ok {P:Program}{t:TypeId}{i:TI}(h:chk1 P t i=true):TyOk1 P t i:=by
 unfold chk1 at h;split at h
 ·rename_i x hx;split at h
  ·rename_i z hz;simp only [xaw,xeq] at h;obtain ⟨⟨⟨⟨⟨⟨h1,h2⟩,h3⟩,h4⟩,h5⟩,h6⟩,h7⟩:=h;obtain ⟨h3,h8⟩:=eqZ_ok h3;refine TyOk1.of ?_ h8 (xam h5) (chkK_ok h6) ?_
   ·rw [hx];simp only [xbl,hz,xam h1,xam h2,h3,h4]
   ·simp only [xa0,xav] at h7 ⊢;exact h7.imp id xam
  ·cases h
 ·cases h
def chkL (P:Program):Nat->List (Option TI)->Bool
 | _,[]=>true
 | k,none::l=>chkL P (k+1) l
 | k,some i::l=>chk1 P k i&&chkL P (k+1) l
theorem chkL_ok {P:Program}:∀ {l:List (Option TI)} {k:Nat},chkL P k l=true->TyAll P k l
 | [],_,_=>trivial
 | none::l,k,h=>chkL_ok (l:=l) h
 | some i::l,k,h=>by
  simp only [chkL,xaw] at h;exact ⟨chk1_ok h.1,chkL_ok h.2⟩
theorem chk_ok {P:Program}{l:List (Option TI)}(h:chkL P 0 l=true):zgl P (tyTab l):=(chkL_ok h).ok
abbrev tF:Option TI:=some ⟨.func,1,8,[.nilfn],[0]⟩
abbrev tI:Option TI:=some ⟨.int .i64,1,8,[.int .i64 0],[0]⟩
abbrev tS (e n:Nat):Option TI:=some ⟨.slice e,1,24,[.nils],[n]⟩
abbrev tP (e:Nat):Option TI:=some ⟨.ptr e,1,8,[.nilp],[0]⟩
end Go.Dm
namespace Go.Dm
open Go
theorem bless_eq:∀ (x y:List UInt8),Op.bytesLess x y=decide (x<y)
 | [],[]=>by simp [Op.bytesLess]
 | _::_,[]=>by simp [Op.bytesLess]
 | [],_::_=>by simp [Op.bytesLess]
 | a::x,b::y=>by
  rw [Op.bytesLess,bless_eq x y];simp only [List.cons_lt_cons_iff];by_cases h1:a<b <;> by_cases h2:a=b <;> by_cases h3:x<y <;> simp [h1,h2,h3]
theorem zj5 (x:List UInt8):Op.bytesLess x x=false:=by
 rw [bless_eq]; exact xbg (List.lt_irrefl x)
theorem bl_trans {x y z:List UInt8}(h1:Op.bytesLess x y=true)(h2:Op.bytesLess y z=true):Op.bytesLess x z=true:=by
 rw [bless_eq] at *
 exact xb2 (List.lt_trans (xa7 h1) (xa7 h2))
theorem bl_asymm {x y:List UInt8}(h1:Op.bytesLess x y=true):Op.bytesLess y x=false:=by
 cases h:Op.bytesLess y x with
 | false=>rfl
 | true=>have:=bl_trans h1 h; rw [zj5] at this; cases this
theorem bl_tri (x y:List UInt8):Op.bytesLess x y=true\/x=y\/Op.bytesLess y x=true:=by
 have:=zk2 x y;cases h1:Op.bytesLess x y with
 | true=>exact .inl rfl
 | false=>
  cases h2:Op.bytesLess y x with
  | true=>exact .inr (.inr rfl)
  | false=>
   rw [h1,h2] at this;exact .inr (.inl (by simpa using this))
theorem fdiv_nat' (n k:Nat):Int.fdiv (n:Int) (k:Int)=((n / k:Nat):Int):=by
 rw [xeh _ (by omega)]; rfl
end Go.Dm
namespace Go.Dm
open Go Go.RowKit
section
variable {g:Gh}{N:Nat}{M:Mem}{E E':Env}{s:S}{tmps:Array Value}{w:World}{v:Value}
theorem cR.open {pu:Nat}{ns:List Nat}{kd i p:Nat}{u:AV}(h:cR M E w pu ns kd i p v u)(hE:E.le E')(ho:∀ b,E.own b=some (kd,i,p)->E'.own b=some (kd,i,p)):RelC M E' w kd i p v u:=by
 match pu,h with
 | 0,h=>exact .rel (.pure h)
 | 1,h=>exact .rel (RelS.monoE (Env.le_trans (Env.arO_sub E ns) hE) h)
 | n+2,h=>exact RelC.mono (fun _ _ _ h=>h) (Env.le_trans (Env.arP_sub E ns _) hE) (fun b hb=>⟨ho b (by rwa [Env.arP_own] at hb),rfl⟩) h
theorem RwOk.cells {i:Nat}{q:RwE}{r:Rw}(h:RwOk M E w i q r){pu:Nat}{ns:List Nat}(hc:∀ (p:Nat) (u:AV) (v:Value),(zc0 r.xs)[p]?=some u->cR M E w r.pu r.ns 5 i p v u->cR M E w pu ns 5 i p v u):RwOk M E w i q { r with pu:=pu,ns:=ns }:=by
 refine { h with blk:=?_ }
 rcases h.blk with hb | ⟨blk,vs,g1,g2,g3,g4,g5⟩
 ·exact .inl hb
 ·refine .inr ⟨blk,vs,g1,g2,g3,g4,fun p u hu=>?_⟩;obtain ⟨v,hv,hr⟩:=g5 p u hu;rw [xbr] at hr;exact ⟨v,hv,by rw [xbr]; exact hc p u v hu hr⟩
end
section
variable {g:Gh}{N:Nat}{M:Mem}{E:Env}{tmps:Array Value}{w:World}
end
end Go.Dm
