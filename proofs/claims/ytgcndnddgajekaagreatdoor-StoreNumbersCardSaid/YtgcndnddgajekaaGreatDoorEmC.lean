/- The machine over the model's code, part EmC. -/
import Derived.Test.YtgcndnddgajekaaGreatDoorEmB
import Derived.MapKept
import Derived.Carry
import Derived.LaidEqlPtr
import Derived.Orders
set_option linter.unnecessarySimpa false
set_option linter.constructorNameAsVariable false
set_option linter.unusedSectionVars false
set_option linter.unusedSimpArgs false
set_option linter.unusedVariables false
namespace Go.Dm
open Go Go.RowKit Go.MapKept
variable {C:Cx}{k:List It}{s:S}{τ:zbn}
def EntR (M:Mem)(E:Env)(l:List MapEntry)(es:List (AV×AV)):Prop:=l.length=es.length/\∀ (j:Nat) (e:MapEntry) (p:AV×AV),l[j]?=some e->es[j]?=some p->RelP M e.key p.1/\Rel M E e.val p.2
theorem EntR.cons {M:Mem}{E:Env}{e:MapEntry}{l:List MapEntry}{p:AV×AV}{es:List (AV×AV)}(h:EntR M E (e::l) (p::es)):(RelP M e.key p.1/\Rel M E e.val p.2)/\EntR M E l es:=
 ⟨h.2 0 e p rfl rfl,by simpa using h.1,fun j e p he hp=>h.2 (j+1) e p (by simpa using he) (by simpa using hp)⟩
theorem Rel.arO {M:Mem}{E:Env}{v:Value}{x:AV}{ns:List Nat}(h:Rel M E v x)(hx:x.okIn no no no (fun j=>memN j ns)=true):Rel M (E.arO ns) v x:=
 (h.keep hx).monoE ⟨fun i b e=>by simp [Env.keep,no] at e,fun i q e=>by simp [Env.keep,no] at e,fun i r e=>by simp [Env.keep,no] at e,fun i bs e=>⟨[],by
  simp only [Env.keep] at e;simp only [Env.arO,xbh]; exact e⟩⟩
theorem Sound.makeMap (hτ:zgl C.P τ){o:Oper}{an:List An}{t:TypeId}(ho:o.op = .makeMap t none)(hd:∀ d,o.dst=some d->d<C.N):Sound C o s (zix τ s an o.dst t):=by
 unfold zix;exact .nil
theorem Sound.lookup (hτ:zgl C.P τ){o:Oper}{an:List An}{t:TypeId}{x y:Operand}{ok:Bool}(ho:o.op = .lookup t x y ok)(hd:∀ d,o.dst=some d->d<C.N){v u:AV}(hx:Has C s x v)(hy:Has C s y u):Sound C o s (zks τ s an t ok v u):=by
 unfold zks;exact .nil
theorem Sound.mapUpdate (hτ:zgl C.P τ){o:Oper}{an:List An}{t:TypeId}{m x y:Operand}(ho:o.op = .mapUpdate t m x y){v u z:AV}(hm:Has C s m v)(hx:Has C s x u)(hy:Has C s y z):Sound C o s (zgw τ s an o.dst t v u z):=by
 unfold zgw;exact .nil
end Go.Dm
namespace Go.Dm
open Go Go.RowKit
section
variable {g:Gh}{N:Nat}{M:Mem}{E:Env}{s:S}{tmps:Array Value}{w:World}
end
variable {C:Cx}{k:List It}{s:S}{τ:zbn}
theorem Sound.boxAr {o:Oper}{an:List An}{t:TypeId}{x:Operand}(ho:o.op = .box t x)(hd:∀ d,o.dst=some d->d<C.N){A n:Nat}{l:List Nat}{zs:List AV}{v:AV}(hx:Has C s x v):Sound C o s (zmy τ o.dst s t A n l zs an v):=by
 unfold zmy;exact .nil
theorem Sound.aptrEq (hτ:zgl C.P τ){o:Oper}{an:List An}{op:BinOp}{t t':TypeId}{x y:Operand}(ho:o.op = .binOp op t x y t')(hd:∀ d,o.dst=some d->d<C.N){A k' of B j p:Nat}(hx:Has C s x (.aptr A k' of))(hy:Has C s y (.aptr B j p)):Sound C o s (evalAptr τ s an t A k' of B j p op):=by
 unfold evalAptr;exact .nil
theorem Sound.loadAr (hτ:zgl C.P τ){o:Oper}{t:TypeId}{x:Operand}(ho:o.op = .load t x)(hd:∀ d,o.dst=some d->d<C.N){an:List An}{A k' of:Nat}(hx:Has C s x (.aptr A k' of)) :
  Sound C o s (zkq τ s an t A k' of):=by
 unfold zkq;exact .nil
theorem Sound.storeAr (hτ:zgl C.P τ){o:Oper}{an:List An}{t:TypeId}{x y:Operand}(ho:o.op = .store t x y)(hd:o.dst=none){A k' of:Nat}{v:AV}(hy:Has C s y v)(hx:Has C s x (.aptr A k' of)) :
  Sound C o s (zi0 τ s an t v A k' of):=by
 unfold zi0;exact .nil
def ea (k:Nat):AV:=.aptr 100000 k 0
end Go.Dm
namespace Go.Dm
open Go Go.RowKit
variable {C:Cx}{k:List It}{s:S}{τ:zbn}
theorem Has.unp {x:Operand}{v:AV}(h:Has C s x v):Has C s x (unp v):=by
 intro a w M E hs;have:=h a w M E hs;unfold Dm.unp;split
 ·exact .cell (this.popt_inv.1 rfl)
 ·exact this
def zbd:Op->List Operand
 | .pick c _ _=>[c]
 | .call c=>(match c.callee with | .value f=>[f] | _=>[])++c.args.toList
 | op=>op.operands.toList
theorem evalOp_sound (hτ:zgl C.P τ){A:List (Nat×Bool)}(hA:allB A=true)(o:Oper)(an:List An)(hd:∀ d,o.dst=some d->d<C.N)(hw:∀ x∈zbd o.op,Done s x):Sound C o s (zh0 τ A o.dst s an o.op):=by
 have has:∀ {x:Operand} {v:AV},zhy s x=some v->x∈zbd o.op->Has C s x v:=fun hv hx a w M E hs=>valW_rel hs hv (hw _ hx);cases ho:o.op <;> rw [ho] at has hw <;> simp only [zh0] <;> try exact .nil
 case move x=>exact .retO hd fun v hv a w M E hs=>⟨_,run_move (.inl ho) _ _,has hv (by simp [zbd,Op.operands]) a w M E hs⟩
 case assign x=>exact .retO hd fun v hv a w M E hs=>⟨_,run_move (.inr ho) _ _,has hv (by simp [zbd,Op.operands]) a w M E hs⟩
 case pick c a b=>
  cases c with
  | tmp d=>
   simp only [zh0];split
   ·rename_i p hp;split
    ·rename_i x hx;split
     ·rename_i y hy;exact .pick hA ho hd (has hp (by simp [zbd])) hx hy
     ·exact .nil
    ·exact .nil
   ·exact .nil
  | _=>exact .nil
 case alloc t=>
  split
  ·rename_i ti hti; exact .alloc hτ ho hd hti
  ·exact .nil
 case box t x=>
  split
  ·rename_i v hv;have h1:=has hv (by simp [zbd,Op.operands]);split
   ·exact .boxAr ho hd h1
   ·exact .box ho hd h1
  ·exact .nil
 case build t parts=>exact .build hτ ho hd fun p hp=>hw _ (by simp [zbd,Op.operands]; exact ⟨p.1,by simpa using hp⟩)
 case load t a=>
  split
  ·rename_i v hv;have h1:=(has hv (by simp [zbd,Op.operands])).unp;split
   ·rename_i i vr kk oo e; rw [e] at h1; exact .loadEp hτ ho hd h1
   ·rename_i A kk oo e; rw [e] at h1; exact .loadAr hτ ho hd h1
   ·exact .load hτ ho hd h1
  ·exact .nil
 case store t a x=>
  split
  ·rename_i hdd;split
   ·rename_i v hv;split
    ·rename_i u hu;have h1:=has hv (by simp [zbd,Op.operands]);have h2:=(has hu (by simp [zbd,Op.operands])).unp;split
     ·rename_i i vr kk oo e; rw [e] at h2; exact .storeEp hτ ho hdd h1 h2
     ·rename_i A kk oo e; rw [e] at h2; exact .storeAr hτ ho hdd h1 h2
     ·exact .store hτ ho hdd h1 h2
    ·exact .nil
   ·exact .nil
  ·exact .nil
 case nilCheck x=>
  split
  ·rename_i v hv; exact .nilCheck ho hd (has hv (by simp [zbd,Op.operands])).unp
  ·exact .nil
 case binOp op t x y t'=>
  split
  ·rename_i v hv;split
   ·rename_i u hu;have h1:=has hv (by simp [zbd,Op.operands]);have h2:=has hu (by simp [zbd,Op.operands]);split
    ·exact .nilRow hτ ho hd h1 h2
    ·exact .nilSl hτ ho hd h1 h2
    ·exact .nilN hτ ho hd h1 h2
    ·split
     ·exact .aptrEq hτ ho hd h1 h2
     ·exact Sound.nilp hτ ho hd h1 h2
    ·split
     ·rename_i r hr;have:=Sound.nilp hτ (an:=an) ho hd h1 h2;rw [hr] at this;exact this
     ·exact .bin hτ ho hd h1 h2 fun cs ds e e'=>.agg hτ ho hd (by rw [<- e]; exact h1) (by rw [<- e']; exact h2)
   ·exact .nil
  ·exact .nil
 case unOp op t x=>
  split
  ·rename_i v hv; exact .un ho hd (has hv (by simp [zbd,Op.operands]))
  ·exact .nil
 case convert src dst x=>
  split
  ·rename_i i hi;split
   ·rename_i ii vr hv; exact .strRow hτ ho hd (has hv (by simp [zbd,Op.operands]))
   ·rename_i l hv;have h1:=has hv (by simp [zbd,Op.operands]);split
    ·exact .conv hτ ho hd ⟨i,hi⟩ h1
    ·split
     ·rename_i hst; exact .bytesOf hτ ho hd h1 (isStrT_sound hτ hst)
     ·exact .nil
   ·rename_i v _ _ hv; exact .conv hτ ho hd ⟨i,hi⟩ (has hv (by simp [zbd,Op.operands]))
   ·exact .nil
  ·exact .nil
 case fieldAddr t x f=>
  split
  ·rename_i v hv; exact .fieldAddr hτ ho hd (has hv (by simp [zbd,Op.operands])).unp
  ·exact .nil
 case field t x f=>
  split
  ·rename_i v hv; exact .field hτ ho hd (has hv (by simp [zbd,Op.operands]))
  ·exact .nil
 case extract x i=>
  split
  ·rename_i v hv; exact .extract ho hd (has hv (by simp [zbd,Op.operands]))
  ·exact .nil
 case makeFunc fn first caps=>
  cases fn with
  | func f=>
   simp only [zh0];split
   ·rename_i h; exact .mkfn ho h hd fun x hx=>hw _ (by simp [zbd,Op.operands]; right; simpa using hx)
   ·exact .nil
  | _=>exact .nil
 case indexAddr t x i=>
  split
  ·rename_i v hv;split
   ·rename_i u hu; exact .indexAddr hτ ho hd (has hv (by simp [zbd,Op.operands])) (has hu (by simp [zbd,Op.operands]))
   ·exact .nil
  ·exact .nil
 case index t x i=>
  split
  ·rename_i v hv;split
   ·rename_i u hu; exact .index hτ ho hd (has hv (by simp [zbd,Op.operands])) (has hu (by simp [zbd,Op.operands]))
   ·exact .nil
  ·exact .nil
 case slice t x lo hi mx=>
  cases mx with
  | some m=>
   cases lo with
   | none=>exact .nil
   | some lo=>
    cases hi with
    | none=>exact .nil
    | some hi=>
     simp only [zh0];split
     ·rename_i v hv;split
      ·rename_i a ha;split
       ·rename_i b hb;split
        ·rename_i m' hm;split
         ·rename_i z hz;obtain ⟨e,hun,hse⟩:=zgd hτ hz;exact .slice3 hτ ho hd (has hv (by simp [zbd,Op.operands])) ha hb hm (hw _ (by simp [zbd,Op.operands])) (hw _ (by simp [zbd,Op.operands])) (hw _ (by simp [zbd,Op.operands])) hun hse
         ·exact .nil
        ·exact .nil
       ·exact .nil
      ·exact .nil
     ·exact .nil
  | none=>
   simp only [zh0];split
   ·rename_i v hv;split
    ·rename_i l hl;split
     ·rename_i h hh;have h1:=has hv (by simp [zbd,Op.operands]);have w1:∀ y,lo=some y->Done s y:=fun y hy=>hw _ (by subst hy; simp [zbd,Op.operands]);have w2:∀ y,hi=some y->Done s y:=fun y hy=>hw _ (by subst hy; simp [zbd,Op.operands]);split
      ·exact .sliceRow hτ ho hd h1 hl hh w1 w2
      ·exact .sliceV hτ ho hd h1 hl hh w1 w2
      ·exact .slice hτ ho hd h1 hl hh w1 w2
     ·exact .nil
    ·exact .nil
   ·exact .nil
 case buildSlice t len parts=>
  refine .buildSlice hτ ho hd fun p hp=>hw _ ?_;simp only [zbd,Op.operands];simp;exact ⟨p.1,by simpa using hp⟩
 case makeSlice t x y=>
  split
  ·rename_i a ha;split
   ·rename_i b hb; exact .makeSlice hτ ho hd (has ha (by simp [zbd,Op.operands])) (has hb (by simp [zbd,Op.operands]))
   ·exact .nil
  ·exact .nil
 case makeMap t r=>
  cases r with
  | some h=>exact .nil
  | none=>exact .makeMap hτ ho hd
 case lookup t x y ok=>
  split
  ·rename_i v hv;split
   ·rename_i u hu; exact .lookup hτ ho hd (has hv (by simp [zbd,Op.operands])) (has hu (by simp [zbd,Op.operands]))
   ·exact .nil
  ·exact .nil
 case mapUpdate t m y x=>
  split
  ·rename_i v hv;split
   ·rename_i u hu;split
    ·rename_i z hz; exact .mapUpdate hτ ho (has hv (by simp [zbd,Op.operands])) (has hu (by simp [zbd,Op.operands])) (has hz (by simp [zbd,Op.operands]))
    ·exact .nil
   ·exact .nil
  ·exact .nil
 case call c=>
  cases hc:c.callee with
  | builtin b=>
   cases b <;> simp only [evalBuiltin] <;> try exact .nil
   case append=>
    split
    ·rename_i x y t u hx ht;split
     ·rename_i v hv;split
      ·rename_i w' hw'; exact .app2 hτ ho hc hx ht hd (has hv (by simp [zbd,hx])) (has hw' (by simp [zbd,hx]))
      ·exact .nil
     ·exact .nil
    ·exact .nil
   case clear=>
    split
    ·rename_i x t hx ht;split
     ·rename_i i vr off n hv; exact .clear hτ ho hc hx ht hd (has hv (by simp [zbd,hx]))
     ·exact .nil
    ·exact .nil
   case len=>
    split
    ·rename_i x t hx ht;split
     ·rename_i ti hti;split
      ·rename_i v hv; exact .len hτ ho hc hx ht hti hd (has hv (by simp [zbd,hx]))
      ·exact .nil
     ·exact .nil
    ·exact .nil
   case cap=>
    split
    ·rename_i x t hx ht;split
     ·rename_i ti hti;split
      ·rename_i v hv; exact .cap hτ ho hc hx ht hti hd (has hv (by simp [zbd,hx]))
      ·exact .nil
     ·exact .nil
    ·exact .nil
   case min=>
    split
    ·rename_i vs hvs; exact .minmax ho false hc hd hvs fun x hx=>hw _ (by simp [zbd]; exact Or.inr (by simpa using hx))
    ·exact .nil
   case max=>
    split
    ·rename_i vs hvs; exact .minmax ho true hc hd hvs fun x hx=>hw _ (by simp [zbd]; exact Or.inr (by simpa using hx))
    ·exact .nil
  | _=>exact .nil
end Go.Dm
namespace Go.Dm
open Go Go.RowKit
def frc:AV->AV
 | .own _ sz _ ys=>.sl sz ys
 | x=>x
def frz:AV->AV
 | .agg cs=>.agg (cs.map frc)
 | x=>frc x
def okc:AV->Bool
 | .own _ _ _ _=>true
 | x=>x.isP
theorem frz_cells (x:AV):(frz x).cells=x.cells.map frc:=by
 cases x <;> rfl
theorem frz_flat:∀ xs:List AV,zc0 (xs.map frz)=(zc0 xs).map frc
 | []=>rfl
 | x::l=>by rw [xa9,ze6,ze6,xbx,frz_cells,frz_flat l]
def is5 (i:Nat):Option (Nat×Nat×Nat)->Bool
 | some (k,j,_)=>k == 5&&j == i
 | none=>false
theorem is5_iff {i:Nat}{o:Option (Nat×Nat×Nat)}:is5 i o=true↔∃ p,o=some (5,i,p):=by
 cases o with
 | none=>simp [is5]
 | some o=>
  obtain ⟨k,j,p⟩:=o;simp only [is5,xaw,xeq,Option.some.injEq,Prod.mk.injEq];constructor
  ·rintro ⟨rfl,rfl⟩; exact ⟨p,rfl,rfl,rfl⟩
  ·rintro ⟨_,rfl,rfl,_⟩; exact ⟨rfl,rfl⟩
def Env.un5 (E:Env)(i:Nat):Env:={ E with own:=fun b=>if is5 i (E.own b)=true then Option.none else E.own b }
section
variable {g:Gh}{N:Nat}{M:Mem}{E:Env}{s:S}{tmps:Array Value}{w:World}{v:Value}
theorem un5_le (E:Env)(i:Nat):E.le (E.un5 i):=⟨fun _ _ h=>h,fun _ q h=>⟨q,h,xaf _,fun _=>⟨rfl,rfl,rfl,rfl⟩⟩,fun _ _ h=>h,fun _ bs h=>⟨[],by simpa [Env.un5] using h⟩⟩
theorem zla {E:Env}{i b:Nat}{o:Nat×Nat×Nat}(h:E.own b=some o)(hn:¬ (o.1=5/\o.2.1=i)):(E.un5 i).own b=some o:=by
 show (if is5 i (E.own b)=true then none else E.own b)=some o;rw [xab,h];intro h5;obtain ⟨p,hp⟩:=is5_iff.1 h5;rw [h] at hp; cases hp;exact hn ⟨rfl,rfl⟩
theorem un5_some {E:Env}{i b:Nat}{o:Nat×Nat×Nat}(h:(E.un5 i).own b=some o):E.own b=some o/\is5 i (E.own b)=false:=by
 have h:(if is5 i (E.own b)=true then none else E.own b)=some o:=h;split at h
 ·cases h
 ·rename_i hn; exact ⟨h,by simpa using hn⟩
theorem St.freeze (hs:St g N M E s tmps w){i:Nat}{r:Rw}(hr:zan s.rw i=some r)(hokc:∀ x∈r.xs,x.cells.all okc=true) :
  ∃ M',(∀ b j v,M b j=some v->M' b j=some v)/\St g N M' (E.un5 i) { s with rw:=(i,{ r with pu:=0,ns:=[],xs:=r.xs.map frz })::s.rw } tmps w:=by
 let M':Mem:=fun b j=>if is5 i (E.own b)=true then w.cell? ⟨b,j,none⟩ else M b j
 have hM:∀ b j v,M b j=some v->M' b j=some v:=fun b j v h=>by
  show (if is5 i (E.own b)=true then w.cell? ⟨b,j,none⟩ else M b j)=some v;split
  ·exact (hs.mem b j v h).1
  ·exact h
 have hE:=un5_le E i;obtain ⟨q,hq,hok⟩:=hs.rw i r hr;have hnew:RwOk M' (E.un5 i) w i q { r with pu:=0,ns:=[],xs:=r.xs.map frz }:=by
  refine ⟨hok.sz,hok.ver,by simpa using hok.n,hok.nc,hok.cap,fun x hx=>?_,by simpa using hok.k,hok.cm,fun h=>by simpa using hok.nl h,?_⟩
  ·obtain ⟨y,hy,rfl⟩:=xb1.1 hx;rw [frz_cells,xa5]; exact hok.es y hy
  ·rcases hok.blk with hb | ⟨blk,vs,g1,g2,g3,g4,g5⟩
   ·exact .inl hb
   ·refine .inr ⟨blk,vs,g1,zla g2 (by simp),g3,g4,fun p u hu=>?_⟩;have hu:(zc0 (r.xs.map frz))[p]?=some u:=hu;rw [frz_flat,xbf,xay] at hu;obtain ⟨c,hc,rfl⟩:=hu;obtain ⟨v,hv,hrel⟩:=g5 p c hc;refine ⟨v,hv,?_⟩;show RelP M' v (frc c);have hcc:okc c=true:=by
     have hcm:=xbk hc;simp only [zc0,List.mem_flatMap] at hcm;obtain ⟨x,hx,hxc⟩:=hcm;exact xcl.1 (hokc x hx) c hxc
    by_cases hP:c.isP=true
    ·have hfc:frc c=c:=by cases c <;> first | rfl | cases hP
     have hcell:c.isCell=true:=by cases c <;> first | rfl | cases hP
     rw [hfc];exact (isP_rel hP (hrel.cell hcell)).mono hM
    ·cases c with
     | own ty sz kk ys=>
      have hrel:RelC M (E.arP r.ns r.pu) w 5 i (0+p) v (.own ty sz kk ys):=by
       generalize r.pu=pu at hrel
       match pu,hrel with
       | 0,h=>cases h
       | 1,h=>cases h with
        | pure h=>cases h
       | n+2,h=>exact h
      cases hrel with
      | rel h=>cases h with
       | pure h=>cases h
      | own _ _ _ _ a n c hn hnc hm hz hk hb=>
       subst hn
       rcases hb with h0 | ⟨b2,vs2,e1,e2,e3,e4,e5⟩
       ·have hy:ys=[]:=xai (by omega);refine .sl a _ c sz ys (fun _=>undef) rfl hnc hm hz (fun h=>absurd hy h) (fun j u hu=>?_);rw [hy] at hu; simp [zc0] at hu
       ·rw [Env.arP_own] at e2;refine .sl a _ c sz ys (fun j=>vs2.getD j undef) rfl hnc hm hz (fun _=>⟨b2,0,e1,fun j hj=>?_⟩) (fun j u hu=>?_)
        ·obtain ⟨v2,hv2,_⟩:=e5 j _ (xag hj);show (if is5 i (E.own b2)=true then w.cell? ⟨b2,0+j,none⟩ else M b2 (0+j))=_;rw [xad (is5_iff.2 ⟨_,e2⟩),xbr,xcz w b2 j vs2 ty (0,0) e3,hv2];simp [xan,hv2]
        ·obtain ⟨v2,hv2,hr2⟩:=e5 j u hu;simp only [xan,hv2,xb8];exact hr2.mono hM
     | _=>exact absurd hcc hP
 refine ⟨M',hM,?_⟩;refine {
  size:=hs.size
  fr:=fun n av hn=>⟨(hs.fr n av hn).1,(hs.fr n av hn).2.mono hM hE⟩
  mem:=fun b j v h=>?_
  bx:=fun n cs hn=>?_
  bxn:=hs.bxn
  rw:=fun n r2 hn=>?_
  rwn:=fun n hn=>?_
  mp:=fun n es hn=>?_
  mpn:=hs.mpn
  ar:=fun n r2 hn=>?_
  arn:=hs.arn
  live:=fun b o h=>hs.live b o (un5_some h).1
  foreign:=fun b h=>?_
  m0:=fun b j v h=>hM b j v (hs.m0 b j v h)
  lay:=hs.lay
  mf:=fun b j v h hF=>?_
  os:=hs.os
  tape:=hs.tape
  output:=hs.output
  grow:=hs.grow }
 ·have h:(if is5 i (E.own b)=true then w.cell? ⟨b,j,none⟩ else M b j)=some v:=h;split at h
  ·rename_i h5;refine ⟨h,fun o ho=>?_⟩;have:=(un5_some ho).2;rw [h5] at this; cases this
  ·obtain ⟨h1,h2⟩:=hs.mem b j v h;refine ⟨h1,fun o ho=>?_⟩;obtain ⟨ho1,ho2⟩:=un5_some ho;have:=h2 o ho1;obtain ⟨kd,j',p⟩:=o;by_cases hj:j'=i
   ·subst hj;have h5:kd≠5:=by
     rintro rfl;rw [is5_iff.2 ⟨p,ho1⟩] at ho2; cases ho2
    simp only [zcs,zai,xc1,hr,h5,xcw] at this ⊢;exact this
   ·simp only [zcs,zai,xab hj] at this ⊢; exact this
 ·obtain ⟨b,h1,h2,t,vs,h3,h4,h5⟩:=hs.bx n cs hn;exact ⟨b,h1,zla h2 (by simp),t,vs,h3,h4,fun j v c hv hc=>(h5 j v c hv hc).mono hM hE⟩
 ·simp only [zai] at hn;split at hn
  ·rename_i e; subst e; cases hn;exact ⟨q,hq,hnew⟩
  ·rename_i hne;obtain ⟨q2,h1,hok2⟩:=hs.rw n r2 hn;exact ⟨q2,h1,hok2.mono hM hE (fun b h=>⟨zla h (by simp),rfl⟩) (fun b j h=>⟨zla h (by simpa using hne),rfl⟩)⟩
 ·simp only [zai] at hn;split at hn
  ·cases hn
  ·exact hs.rwn n hn
 ·obtain ⟨r2,h1,h2,ents,clock,h3,h4,h5⟩:=hs.mp n es hn;exact ⟨r2,h1,zla h2 (by simp),ents,clock,h3,h4,fun j e p he hp=>⟨(h5 j e p he hp).1.mono hM,((h5 j e p he hp).2.monoM hM).monoE (Env.arO_le hE _)⟩⟩
 ·obtain ⟨bs,h1,hok2⟩:=hs.ar n r2 hn;exact ⟨bs,h1,hok2.mono hM hE (fun b j h=>⟨zla h (by simp),rfl⟩) (fun b j h=>⟨zla h (by simp),rfl⟩)⟩
 ·obtain ⟨h1,h2,h3⟩:=hs.foreign b h;refine ⟨h1,h2,?_⟩;show (if is5 i (E.own b)=true then none else E.own b)=none;rw [h3]; simp
 ·have h:(if is5 i (E.own b)=true then w.cell? ⟨b,j,none⟩ else M b j)=some v:=h;rw [(hs.foreign b hF).2.2] at h;simp only [is5,xby,xcw] at h;exact hs.mf b j v h hF
end
end Go.Dm
namespace Go.Dm
open Go Go.RowKit
variable {C:Cx}{k:List It}{s:S}{τ:zbn}
def resOne (τ:zbn)(s:S):ResultVar->Option AV
 | .tmp t=>zan s.fr t
 | .cell a t=>match zan s.fr a,τ t with
  | some (.ptr i 0),some ti=>match zan s.bx i with
   | some cs=>ziu ti cs 0
   | none=>none
  | _,_=>none
def resAll (τ:zbn)(s:S):List ResultVar->Option (List AV)
 | []=>some []
 | r::l=>match resOne τ s r,resAll τ s l with
  | some v,some vs=>some (v::vs)
  | _,_=>none
def resSem (tmps:Array Value):ResultVar->Sem Value
 | .tmp t=>pure (tmps.getD t undef)
 | .cell ad t=>do loadVar t (<- asAddr (tmps.getD ad undef))
theorem resOne_run (hτ:zgl C.P τ){M:Mem}{E:Env}{a:Act}{w:World}(hs:St C.g C.N M E s a.tmps w){r:ResultVar}{x:AV}(h:resOne τ s r=some x) :
  ∃ v,(resSem a.tmps r).run C.P w = .ok v w/\Rel M E v x:=by
 cases r with
 | tmp t=>exact ⟨_,rfl,(hs.fr t x h).2⟩
 | cell ad t=>
  simp only [resOne] at h;split at h
  ·rename_i i ti hp hti;split at h
   ·rename_i cs hcs;obtain ⟨b,hb,he⟩:=(hs.fr ad _ hp).2.ptr_inv;obtain ⟨b',hb',hown,hbx⟩:=hs.bx i cs hcs;rw [hb] at hb'; cases hb';obtain ⟨ty,vs,hh,hall⟩:=hbx.allR;have hz:ti.sz≠0\/ti.k.agg=true:=by
     cases hk:ti.k.agg with
     | true=>exact .inr rfl
     | false=>exact .inl (by have:=(hτ _ _ hti).one hk; omega)
    obtain ⟨hlen,hrel,_⟩:=part_rel (hτ _ _ hti) hall h hz;have hl:=(hτ _ _ hti).loadVar w b 0 (fun j=>vs.getD (0+j) undef) (fun j hj=>by
     rw [cell_of_heap hh];have:0+j<vs.length:=by omega
     simp only [List.getD,xag this,xb8])
    have e1:(List.range ti.sz).map (fun j=>vs.getD (0+j) undef)=(vs.drop 0).take ti.sz:=by
     apply xbz;intro j;rw [xau];by_cases hj:j<ti.sz
     ·have:j<vs.length:=by omega
      simp [hj,List.getD,this]
     ·simp [hj]
    rw [e1] at hl;refine ⟨_,?_,hrel⟩;simp only [resSem,he,asAddr,xao,xat,xae];simpa using hl
   ·cases h
  ·cases h
theorem zm5 (hτ:zgl C.P τ){M:Mem}{E:Env}{a:Act}{w:World}(hs:St C.g C.N M E s a.tmps w):∀ {l:List ResultVar} {xs:List AV},resAll τ s l=some xs->
  ∃ vs:List Value,(l.mapM (resSem a.tmps)).run C.P w = .ok vs w/\RelL M E vs xs
 | [],xs,h=>by simp only [resAll] at h; cases h; exact ⟨[],rfl,rfl,fun j v c hv=>by simp at hv⟩
 | r::l,xs,h=>by
  simp only [resAll] at h;split at h
  ·rename_i v vs hv hvs;cases h;obtain ⟨u,h1,h2⟩:=resOne_run hτ hs hv;obtain ⟨us,h3,h4⟩:=zm5 hτ hs hvs;refine ⟨u::us,?_,by simp [h4.1],fun j v' c hv' hc=>?_⟩
   ·rw [xfb];simp only [xao,h1,xae,h3,xat]
   ·cases j with
    | zero=>simp at hv' hc; subst hv'; subst hc; exact h2
    | succ j=>simp only [xbe] at hv' hc; exact h4.2 j v' c hv' hc
  ·cases h
def zok:Nat->List AV->List (Nat×AV)
 | _,[]=>[]
 | i,x::l=>(i,x)::zok (i+1) l
theorem get_argSlots:∀ (l:List AV) (i j:Nat),zan (zok i l) j=if i<=j then l[j - i]? else none
 | [],i,j=>by simp [zok,zan]
 | x::l,i,j=>by
  simp only [zok,zai,get_argSlots l (i+1) j];by_cases h:j=i
  ·subst h; simp
  ·rw [xab h];by_cases h2:i<=j
   ·have:i+1<=j:=by omega
    rw [xad this,xad h2];have e:j - i=(j - (i+1))+1:=by omega
    rw [e]; simp
   ·rw [xab h2,xab (by omega)]
theorem znh {P:Program}{f:FuncId}{fn:Func}{c:Code}(hfn:P.funcs[f]?=some fn)(hbody:fn.body=some c)(hname:(fn.name == "runtime.NumGoroutine")=false):Bodied P f:=
 ⟨fn,hfn,by rw [hbody]; rfl,hname⟩
def TyAll (P:Program):Nat->List (Option TI)->Prop
 | _,[]=>True
 | k,none::l=>TyAll P (k+1) l
 | k,some i::l=>TyOk1 P k i/\TyAll P (k+1) l
theorem TyAll.get {P:Program}:∀ {l:List (Option TI)} {k j:Nat} {i:TI},TyAll P k l->nth l j=some (some i)->TyOk1 P (k+j) i
 | [],k,j,i,_,h=>by simp [nth] at h
 | none::l,k,0,i,_,h=>by simp [nth] at h
 | none::l,k,j+1,i,hl,h=>by
  have e:k+(j+1)=k+1+j:=by omega
  rw [e]; exact TyAll.get (l:=l) hl h
 | some i'::l,k,0,i,hl,h=>by simp [nth] at h; subst h; exact hl.1
 | some i'::l,k,j+1,i,hl,h=>by
  have e:k+(j+1)=k+1+j:=by omega
  rw [e]; exact TyAll.get (l:=l) hl.2 h
def tyTab (l:List (Option TI)):zbn:=fun t=>(nth l t).bind id
theorem TyAll.ok {P:Program}{l:List (Option TI)}(h:TyAll P 0 l):zgl P (tyTab l):=by
 intro t i ht;unfold tyTab at ht;obtain ⟨o,ho,e⟩:=Option.bind_eq_some_iff.1 ht;simp only [id] at e;subst e;have:=h.get ho;rwa [xbr] at this
theorem TyOk1.of {P:Program}{t:TypeId}{i:TI}(h1:(P.info? t).map (fun x=>(x.size,x.bytes,x.zero.map fun z=>(z.cells.toList,z.isAgg')))=some (i.sz,i.bytes,some (i.zero.map AV.zv,i.k.agg)))
  (h2:i.zero.all AV.isZ=true)(h3:i.zero.length=i.sz)(h4:TKOk P t i.k)(h5:(i.k.agg||decide (i.sz=1))=true):TyOk1 P t i:=by
 obtain ⟨inf,hi,e⟩:=xay.1 h1;simp only [Prod.mk.injEq] at e;obtain ⟨z,hz,e3⟩:=xay.1 e.2.2;simp only [Prod.mk.injEq] at e3;refine ⟨⟨inf,z,hi,e.1,e.2.1,hz,e3.1⟩,h2,h3,h4,fun h=>?_,fun inf' z' hi' hz'=>?_⟩
 ·simpa [h] using h5
 ·rw [hi] at hi'; cases hi';rw [hz] at hz'; cases hz';exact e3.2
theorem run_call {P:Program}{o:Oper}{c:Call}{f:FuncId}(ho:o.op = .call c)(hc:c.callee = .value (.func f))(a:Act)(w:World) :
  (execOp a.eval o).run P w=(callFunc f ((c.args.toList.map a.eval).toArray)).run P w:=by
 have e:(List.map a.eval c.args.toList).toArray=Array.map a.eval c.args:=by rw [<- xc0]
 rw [e];simp [execOp,ho,resolve,hc,Act.eval,Deferred.ofValue,xao,xat,xae,invoke]
theorem run_callFunc {P:Program}{f:FuncId}(h:Bodied P f)(args:Array Value)(w:World):(callFunc f args).run P w = .ok (.enter f args) w:=by
 obtain ⟨fn,h1,h2,h3⟩:=h;simp only [callFunc,xao,xew,xae,h1,h3,h2,xby,xcw,xat]
theorem run_callV {P:Program}{o:Oper}{c:Call}{t:Nat}{f:FuncId}{cs:List Value}(ho:o.op = .call c)(hc:c.callee = .value (.tmp t))(a:Act)(hv:a.eval (.tmp t) = .func (.func f) #[] cs.toArray)(w:World) :
  (execOp a.eval o).run P w=(callFunc f ((c.args.toList.map a.eval++cs).toArray)).run P w:=by
 have e:(List.map a.eval c.args.toList).toArray=Array.map a.eval c.args:=by rw [<- xc0]
 have e2:(c.args.toList.map a.eval++cs).toArray=Array.map a.eval c.args++cs.toArray:=by rw [<- e]; simp
 rw [e2];simp [execOp,ho,resolve,hc,hv,Deferred.ofValue,xao,xat,xae,invoke]
def guardSlot (all:List Oper)(j:Nat):Option Nat:=match nth all j with
 | some o=>o.dst
 | none=>none
def gcond (all:List Oper)(s:S)(gd:Option (Nat×Bool)):Option (List (Nat×Bool)):=
 match gd with
 | none=>some []
 | some (j,want)=>match guardSlot all j with
  | some d=>match zan s.fr d with
   | some (.bool b)=>some [(d,match want with | true=>b | false=>!b)]
   | some (.when cs (.bool b))=>some ((d,match want with | true=>b | false=>!b)::cs)
   | _=>none
  | none=>none
def asB:Value->Option Bool
 | .bool b=>some b
 | _=>none
theorem yielded_slot {all:List Oper}{a:Act}{w:World}{M:Mem}{E:Env}(hs:St C.g C.N M E s a.tmps w){j d:Nat}(hd:guardSlot all j=some d){x:AV}(hx:zan s.fr d=some x){v:Value}(hv:a.tmps.getD d undef=v) :
  yielded all.toArray a.tmps j=asB v:=by
 unfold guardSlot at hd;rw [zf9] at hd;split at hd
 ·rename_i o ho;have hlt:d<a.tmps.size:=by rw [hs.size]; exact (hs.fr d x hx).1
  have hv':(a.tmps[d]?:Option Value)=some v:=by
   rw [xan,xb5 hlt] at hv;rw [xb5 hlt];simpa using hv
  have ho':all.toArray[j]?=some o:=by simpa using ho
  unfold yielded;simp only [ho',hd,xdf,hv'];cases v <;> rfl
 ·cases hd
theorem gcond_ok {all:List Oper}{o:Oper}{A:List (Nat×Bool)}(h:gcond all s o.guard=some A){a:Act}{w:World}(hx:H C.g C.N s a w):Region.wanted o (yielded all.toArray a.tmps)=allB A:=by
 obtain ⟨_,M,E,hs,_⟩:=hx;unfold gcond at h;split at h
 ·rename_i hg; cases h; simp [Region.wanted,hg,allB]
 ·rename_i j want hg;split at h
  ·rename_i d hd;split at h
   ·rename_i b hb;cases h;have hv:=(hs.fr d _ hb).2.bool_inv;rw [Region.wanted,hg];simp only [yielded_slot hs hd hb hv,asB,allB];cases b <;> cases want <;> rfl
   ·rename_i cs b hb;cases h;rw [Region.wanted,hg];have hr:=(hs.fr d _ hb).2;cases hcs:allB cs with
    | true=>
     have hv:=(hr.when_inv hcs).bool_inv;simp only [yielded_slot hs hd hb hv,asB,allB,hcs];cases b <;> cases want <;> rfl
    | false=>
     have hv:=hr.when_undef hcs;simp only [yielded_slot hs hd hb hv,undef,asB,allB,hcs];cases want <;> simp
   ·cases h
  ·cases h
def selF {α:Type}:List Nat->List (Nat×α)->Option (List (Nat×α))
 | [],_=>some []
 | i::l,m=>match zan m i with
  | some v=>match selF l m with
   | some r=>some ((i,v)::r)
   | none=>none
  | none=>none
theorem zf2 {α:Type}:∀ {l:List Nat} {m r:List (Nat×α)},selF l m=some r->∀ {i:Nat} {v:α},zan r i=some v->zan m i=some v
 | [],m,r,h,i,v,hi=>by simp only [selF] at h; cases h; cases hi
 | j::l,m,r,h,i,v,hi=>by
  simp only [selF] at h;split at h
  ·rename_i u hu;split at h
   ·rename_i r' hr';cases h;rw [zai] at hi;split at hi
    ·rename_i e; cases hi; rw [e]; exact hu
    ·exact zf2 hr' hi
   ·cases h
  ·cases h
mutual
def AV.scal:AV->Bool
 | .int _ _ | .bool _ | .str _ | .nils | .nilp | .nilfn | .nilmp=>true
 | .sl _ []=>true
 | .agg cs=>AV.scalL cs
 | .tup cs=>AV.scalL cs
 | _=>false
def AV.scalL:List AV->Bool
 | []=>true
 | x::l=>match x.scal with
  | true=>AV.scalL l
  | false=>false
end
theorem scalL_get:∀ {l:List AV} {j:Nat} {x:AV},AV.scalL l=true->l[j]?=some x->x.scal=true
 | y::l,0,x,h,hx=>by
  simp at hx; subst hx;simp only [AV.scalL] at h;split at h
  ·assumption
  ·cases h
 | y::l,j+1,x,h,hx=>by
  simp only [AV.scalL] at h;split at h
  ·exact scalL_get h (by simpa using hx)
  ·cases h
theorem RelP.scal {M M':Mem}{v:Value}{x:AV}(h:RelP M v x)(hx:x.scal=true):RelP M' v x:=by
 cases h with
 | sl a n c sz xs f hn hc hb hz ha hf=>
  cases xs with
  | nil=>exact .sl a n c sz [] f hn hc hb hz (fun h=>absurd rfl h) (fun j u hu=>by simp [zc0] at hu)
  | cons _ _=>simp [AV.scal] at hx
 | rp blk off x f ha hf=>simp [AV.scal] at hx
 | raw v h=>exact .raw v h
 | ub b p q h1 h2=>exact .ub b p q h1 h2
 | _=>constructor
theorem RelS.scal {M M':Mem}{E E':Env}{v:Value}{x:AV}(h:RelS M E v x)(hx:x.scal=true):RelS M' E' v x:=by
 cases h with
 | pure h=>exact .pure (h.scal hx)
 | _=>simp [AV.scal] at hx
theorem Rel.scal {M M':Mem}{E E':Env}{v:Value}{x:AV}(h:Rel M E v x):x.scal=true->Rel M' E' v x:=by
 induction h with
 | cell h=>exact fun hx=>.cell (h.scal hx)
 | agg vs cs hl h=>exact fun hx=>.agg vs cs hl fun j v c hv hc=>(h j v c hv hc).scal (scalL_get (by simpa only [AV.scal] using hx) hc)
 | tup vs cs hl h ih=>exact fun hx=>.tup vs cs hl fun j v c hv hc=>ih j v c hv hc (scalL_get (by simpa only [AV.scal] using hx) hc)
 | any v=>exact fun hx=>by simp [AV.scal] at hx
 | when v c x h hu ih=>exact fun hx=>by simp [AV.scal] at hx
def sealCx (R:List Nat)(s:S):AV->Option (AV×List (Nat×Rw))
 | .row i v=>match memN i R with
  | true=>some (.row i v,[])
  | false=>sealC s (.row i v)
 | x=>some (x,[])
def sealLx (R:List Nat)(s:S):List AV->Option (List AV×List (Nat×Rw))
 | []=>some ([],[])
 | x::l=>match sealCx R s x with
  | some (y,e)=>match sealLx R s l with
   | some (m,f)=>some (y::m,f++e)
   | none=>none
  | none=>none
def sealAx (R:List Nat)(s:S):AV->Option (AV×List (Nat×Rw))
 | .agg cs=>match sealLx R s cs with
  | some (ds,e)=>some (.agg ds,e)
  | none=>none
 | x=>sealCx R s x
def zj0 (R:List Nat)(s:S):List AV->Option (List AV×List (Nat×Rw))
 | []=>some ([],[])
 | x::l=>match sealAx R s x with
  | some (y,e)=>match zj0 R s l with
   | some (m,f)=>some (y::m,f++e)
   | none=>none
  | none=>none
section
variable {g:Gh}{N:Nat}{M:Mem}{E:Env}{tmps:Array Value}{w:World}{v:Value}
theorem sealCx_ok {R:List Nat}{s1:S}(hl:likeRows s s1){x y:AV}{e:List (Nat×Rw)}(h:sealCx R s x=some (y,e))(hs:St g N M E s1 tmps w)(hx:RelS M E v x) :
  ∃ M',(∀ b j v,M b j=some v->M' b j=some v)/\St g N M' E { s1 with rw:=e++s1.rw } tmps w/\RelS M' E v y/\likeRows s { s1 with rw:=e++s1.rw }:=by
 cases x with
 | row i vr=>
  simp only [sealCx] at h;split at h
  ·cases h; exact ⟨M,fun _ _ _ h=>h,hs,hx,hl⟩
  ·exact sealC_ok hl h hs hx
 | _=>
  simp only [sealCx] at h;cases h;exact ⟨M,fun _ _ _ h=>h,hs,hx,hl⟩
theorem sealLx_ok {R:List Nat}:∀ {cs ds:List AV} {e:List (Nat×Rw)} {s1:S} {vs:List Value} {M:Mem},likeRows s s1->sealLx R s cs=some (ds,e)->St g N M E s1 tmps w->AllR (RelS M E) vs cs->
  ∃ M',(∀ b j v,M b j=some v->M' b j=some v)/\St g N M' E { s1 with rw:=e++s1.rw } tmps w/\AllR (RelS M' E) vs ds/\likeRows s { s1 with rw:=e++s1.rw }
 | [],ds,e,s1,vs,M,hl,h,hs,hv=>by
  simp only [sealLx] at h;cases h;exact ⟨M,fun _ _ _ h=>h,hs,hv,hl⟩
 | x::cs,ds,e,s1,vs,M,hl,h,hs,hv=>by
  simp only [sealLx] at h;split at h
  ·rename_i y e1 h1;split at h
   ·rename_i m e2 h2;cases h
    match vs,hv with
    | [],hv=>exact absurd hv.1 (by simp)
    | u::vs,hv=>
     obtain ⟨M1,hM1,hs1,hr1,hl1⟩:=sealCx_ok hl h1 hs (hv.2 0 u x rfl rfl);have htail:AllR (RelS M1 E) vs cs:=⟨by simpa using hv.1,fun j v c hj hc=>(hv.2 (j+1) v c (by simpa using hj) (by simpa using hc)).monoM hM1⟩;obtain ⟨M2,hM2,hs2,hr2,hl2⟩:=sealLx_ok hl1 h2 hs1 htail;refine ⟨M2,fun b j v h=>hM2 b j v (hM1 b j v h),by simpa only [xaj] using hs2,⟨by simp [hr2.1],fun j v c hj hc=>?_⟩,by simpa only [xaj] using hl2⟩;cases j with
     | zero=>simp at hj hc; subst hj; subst hc; exact hr1.monoM hM2
     | succ j=>simp only [xbe] at hj hc; exact hr2.2 j v c hj hc
   ·cases h
  ·cases h
theorem sealAx_ok {R:List Nat}{s1:S}(hl:likeRows s s1){x y:AV}{e:List (Nat×Rw)}(h:sealAx R s x=some (y,e))(hs:St g N M E s1 tmps w)(hx:Rel M E v x) :
  ∃ M',(∀ b j v,M b j=some v->M' b j=some v)/\St g N M' E { s1 with rw:=e++s1.rw } tmps w/\Rel M' E v y/\likeRows s { s1 with rw:=e++s1.rw }:=by
 cases x with
 | agg cs=>
  simp only [sealAx] at h;split at h
  ·rename_i ds e1 h1;cases h;obtain ⟨vs,rfl,hlen,hr⟩:=hx.agg_inv;obtain ⟨M',hM,hs',hr',hl'⟩:=sealLx_ok hl h1 hs ⟨hlen,hr⟩;exact ⟨M',hM,hs',.agg vs _ hr'.1 hr'.2,hl'⟩
  ·cases h
 | row i vr=>
  simp only [sealAx] at h;obtain ⟨M',hM,hs',hr,hl'⟩:=sealCx_ok hl h hs (hx.of_cell rfl);exact ⟨M',hM,hs',.cell hr,hl'⟩
 | _=>
  simp only [sealAx,sealCx] at h;cases h;exact ⟨M,fun _ _ _ h=>h,hs,hx,hl⟩
theorem sealALx_ok {R:List Nat}:∀ {cs ds:List AV} {e:List (Nat×Rw)} {s1:S} {vs:List Value} {M:Mem},likeRows s s1->zj0 R s cs=some (ds,e)->St g N M E s1 tmps w->RelL M E vs cs->
  ∃ M',(∀ b j v,M b j=some v->M' b j=some v)/\St g N M' E { s1 with rw:=e++s1.rw } tmps w/\RelL M' E vs ds/\likeRows s { s1 with rw:=e++s1.rw }
 | [],ds,e,s1,vs,M,hl,h,hs,hv=>by
  simp only [zj0] at h;cases h;exact ⟨M,fun _ _ _ h=>h,hs,hv,hl⟩
 | x::cs,ds,e,s1,vs,M,hl,h,hs,hv=>by
  simp only [zj0] at h;split at h
  ·rename_i y e1 h1;split at h
   ·rename_i m e2 h2;cases h
    match vs,hv with
    | [],hv=>exact absurd hv.1 (by simp)
    | u::vs,hv=>
     obtain ⟨M1,hM1,hs1,hr1,hl1⟩:=sealAx_ok hl h1 hs (hv.2 0 u x rfl rfl);have htail:RelL M1 E vs cs:=⟨by simpa using hv.1,fun j v c hj hc=>(hv.2 (j+1) v c (by simpa using hj) (by simpa using hc)).monoM hM1⟩;obtain ⟨M2,hM2,hs2,hr2,hl2⟩:=sealALx_ok hl1 h2 hs1 htail;refine ⟨M2,fun b j v h=>hM2 b j v (hM1 b j v h),by simpa only [xaj] using hs2,⟨by simp [hr2.1],fun j v c hj hc=>?_⟩,by simpa only [xaj] using hl2⟩;cases j with
     | zero=>simp at hj hc; subst hj; subst hc; exact hr1.monoM hM2
     | succ j=>simp only [xbe] at hj hc; exact hr2.2 j v c hj hc
   ·cases h
  ·cases h
end
def keysIn {α β:Type}:List (Nat×α)->List (Nat×β)->Bool
 | [],_=>true
 | (i,_)::l,m=>match zam m i with
  | true=>keysIn l m
  | false=>false
def zk7 {α β γ:Type}:List (Nat×α)->List (Nat×β)->List (Nat×γ)->Bool
 | [],_,_=>true
 | (i,_)::l,m,o=>match zam m i with
  | true=>zk7 l m o
  | false=>match zam o i||Nat.ble nB i with
   | true=>false
   | false=>zk7 l m o
theorem keysIn_ok {α β:Type}:∀ {l:List (Nat×α)} {m:List (Nat×β)},keysIn l m=true->∀ i,zam l i=true->zam m i=true
 | (j,x)::l,m,h,i,hi=>by
  simp only [keysIn] at h;split at h
  ·rename_i hj;simp only [zam] at hi;split at hi
   ·rename_i e; rw [zbc e]; exact hj
   ·exact keysIn_ok h i hi
  ·cases h
theorem zkp {α β γ:Type}:∀ {l:List (Nat×α)} {m:List (Nat×β)} {o:List (Nat×γ)},zk7 l m o=true->∀ i,zam l i=true->zam m i=true\/(zan o i=none/\i<nB)
 | (j,x)::l,m,o,h,i,hi=>by
  simp only [zk7] at h;simp only [zam] at hi;split at h
  ·rename_i hj;split at hi
   ·rename_i e; rw [zbc e]; exact .inl hj
   ·exact zkp h i hi
  ·split at h
   ·cases h
   ·rename_i hn;split at hi
    ·rename_i e;obtain ⟨h1,h2⟩:=xcd.1 hn;rw [zbc e];refine .inr ⟨?_,?_⟩
     ·rw [zf5] at h1; simpa using h1
     ·rcases Nat.lt_or_ge j nB with h' | h'
      ·exact h'
      ·rw [xd7 h'] at h2; cases h2
    ·exact zkp h i hi
def apartB {α:Type}:List (Nat×α)->List Nat->Bool
 | [],_=>true
 | (i,_)::l,R=>match memN i R with
  | true=>false
  | false=>apartB l R
def okeys {α:Type}(c:Nat):List (Nat×α)->List Key
 | []=>[]
 | (i,_)::l=>(c,i)::okeys c l
def S.keys (s:S):List Key:=okeys 1 s.bx++(okeys 2 s.rw++(okeys 3 s.mp++okeys 4 s.ar))
def subS (s:S)(bs rs ms as:List Nat):Option S:=
 match selF bs s.bx with
 | some b=>match selF rs s.rw with
  | some r=>match selF ms s.mp with
   | some m=>match selF as s.ar with
    | some a=>some ⟨[],b,r,m,a⟩
    | none=>none
   | none=>none
  | none=>none
 | none=>none
def callE (P:Program)(s:S)(f:FuncId)(xs:List AV)(ro:Bool)(bs rs ms as:List Nat)(r:AV)(s1':S)(an:List An):Option Res:=
 match subS s bs rs ms as with
 | some s0=>match zmg s0 with
  | true=>match zj0 rs s xs with
   | some (ys,ef)=>match apartB ef rs with
    | true=>match AV.okInL (zam s0.bx) (zam s0.rw) (zam s0.mp) (zam s0.ar) ys with
     | true=>match ro with
      | true=>match AV.okIn (zam s0.bx) (zam s0.rw) (zam s0.mp) (zam s0.ar) r with
       | true=>some ⟨[Pe P f s0 ys r s0],[],⟨some r,[],ef,[],[]⟩,s0.keys++zi5 ef,an⟩
       | false=>none
      | false=>match keysIn s0.bx s1'.bx&&(keysIn s0.rw s1'.rw&&(keysIn s0.mp s1'.mp&&keysIn s0.ar s1'.ar)) with
       | true=>match zk7 s1'.bx s0.bx s.bx&&(zk7 s1'.rw s0.rw s.rw&&(zk7 s1'.mp s0.mp s.mp&&zk7 s1'.ar s0.ar s.ar)) with
        | true=>some ⟨[Pe P f s0 ys r s1'],[],⟨some r,s1'.bx,s1'.rw++ef,s1'.mp,s1'.ar⟩,s0.keys++(s1'.keys++zi5 ef),an⟩
        | false=>none
       | false=>none
     | false=>none
    | false=>none
   | none=>none
  | false=>none
 | none=>none
def evalLent (P:Program)(s:S)(f:FuncId)(bs:List Nat)(zs:List AV)(r:AV)(an:List An):List AV->Option Res:=fun _=>none
def zol (P:Program)(s:S)(an:List An)(f:FuncId)(xs:List AV):Option Res:=
 match an with
 | .call r::an=>match sealAL s xs with
  | some (ys,ef)=>match AV.okInL no no no no ys with
   | true=>match AV.isPure r with
    | true=>some ⟨[Pc P f ys r],[],⟨some r,[],ef,[],[]⟩,zi5 ef,an⟩
    | false=>none
   | false=>none
  | none=>none
 | .callB r::an=>match sealAL s xs with
  | some (ys,ef)=>match AV.okInL no no no no ys with
   | true=>match AV.scal r with
    | true=>some ⟨[Pc P f ys r],[],⟨some r,[],[],[],[]⟩,zi5 ef,an⟩
    | false=>none
   | false=>none
  | none=>none
 | .callQ bs zs r::an=>evalLent P s f bs zs r an xs
 | .callR bs rs ms as r::an=>callE P s f xs true bs rs ms as r S.none an
 | .callE bs rs ms as r s1::an=>callE P s f xs false bs rs ms as r s1 an
 | _=>none
def normX (τ:zbn)(nk:List Nat):Nat->List TypeId->List AV->List AV
 | i,t::ts,x::l=>(match memN i nk with | true=>x | false=>norm τ t x)::normX τ nk (i+1) ts l
 | _,_,l=>l
def argN (τ:zbn)(an:List An)(ts:List TypeId)(xs:List AV):List AV×List An:=
 match an with
 | .raw nk::an=>(normX τ nk 0 ts xs,an)
 | an=>(normL τ ts xs,an)
theorem normX_rel {nk:List Nat}{M:Mem}{E:Env}:∀ {ts:List TypeId} {i:Nat} {xs:List AV} {vs:List Value},RelL M E vs xs->RelL M E vs (normX τ nk i ts xs)
 | [],i,xs,vs,h=>by simp only [normX]; exact h
 | t::ts,i,[],vs,h=>by simp only [normX]; exact h
 | t::ts,i,x::xs,vs,h=>by
  obtain ⟨h1,h2⟩:=h
  match vs,h1 with
  | v::vs,h1=>
   have ih:RelL M E vs (normX τ nk (i+1) ts xs):=normX_rel ⟨by simpa using h1,fun j u c hu hc=>h2 (j+1) u c (by simpa using hu) (by simpa using hc)⟩;simp only [normX];refine ⟨by simp [ih.1],fun j u c hu hc=>?_⟩;cases j with
   | zero=>
    simp at hu hc;subst hu; subst hc;split
    ·exact h2 0 v x rfl rfl
    ·exact norm_rel (h2 0 v x rfl rfl)
   | succ j=>simp only [xbe] at hu hc; exact ih.2 j u c hu hc
theorem argN_rel {M:Mem}{E:Env}{an:List An}{ts:List TypeId}{xs:List AV}{vs:List Value}(h:RelL M E vs xs):RelL M E vs (argN τ an ts xs).1:=by
 unfold argN;split
 ·exact normX_rel h
 ·exact normL_rel h
def evalAny (τ:zbn)(P:Program)(A:List (Nat×Bool))(s:S)(an:List An)(d:Option Nat):Op->Option Res
 | .call ⟨.value (.func f),ops,tys⟩=>match vals s ops.toList with
  | some xs=>zol P s (argN τ an tys.toList xs).2 f (argN τ an tys.toList xs).1
  | none=>none
 | .call ⟨.value (.tmp t),ops,tys⟩=>match zhy s (.tmp t) with
  | some (.fn f caps)=>match vals s ops.toList with
   | some xs=>zol P s (argN τ an tys.toList xs).2 f ((argN τ an tys.toList xs).1++caps)
   | none=>none
  | _=>none
 | op=>zh0 τ A d s an op
def und:List (Nat×Bool)->Prop->Prop
 | [],p=>p
 | (_,c)::l,p=>c=true->und l p
theorem und_ok:∀ {A:List (Nat×Bool)} {p:Prop},und A p->allB A=true->p
 | [],p,h,_=>h
 | (d,c)::l,p,h,hA=>by
  simp only [allB,xaw] at hA;exact und_ok (h hA.1) hA.2
def undL (A:List (Nat×Bool)):List Prop->List Prop
 | []=>[]
 | p::l=>und A p::undL A l
theorem undL_ok {A:List (Nat×Bool)}(hA:allB A=true):∀ {l:List Prop},AllP (undL A l)->AllP l
 | [],_=>trivial
 | p::l,h=>⟨und_ok h.1 hA,undL_ok hA h.2⟩
def evalG (τ:zbn)(P:Program)(A:List (Nat×Bool))(s:S)(an:List An)(o:Oper):Option Res:=
 match obs A s (zbd o.op) with
 | some es=>match evalAny τ P A s an o.dst o.op with
  | some r=>match A with
   | []=>some ⟨r.gs,es++r.eq,r.e,r.rd,r.an⟩
   | (_,_)::_=>match r.e with
    | ⟨some x,[],[],[],[]⟩=>some ⟨undL A r.gs,es++r.eq,⟨some (.when A x),[],[],[],[]⟩,r.rd,r.an⟩
    | _=>none
  | none=>none
 | none=>none
def Step (C:Cx)(all:List Oper)(o:Oper)(s s1:S):Prop:=
 ∀ a w,H C.g C.N s a w->∀ (K:Act->World->Prop) (Q:Exit->Act->World->Prop),(∀ a' w',H C.g C.N s1 a' w'->K a' w')->
  if Region.wanted o (yielded all.toArray a.tmps) then o.wp C.P a w K Q else K (a.put o.dst undef) w
def Wp (C:Cx)(o:Oper)(s s1:S):Prop:=
 ∀ a w,H C.g C.N s a w->∀ (K:Act->World->Prop) (Q:Exit->Act->World->Prop),(∀ a' w',H C.g C.N s1 a' w'->K a' w')->o.wp C.P a w K Q
theorem Wp_of_does {o:Oper}{s1:S}(h:Does C o s s1):Wp C o s s1:=by
 intro a w hx K Q hK;obtain ⟨v,w',hrun,hH⟩:=h a w hx;unfold Oper.wp
 rcases hrun with hrun | ⟨hrun,rfl⟩
 ·rw [hrun,Oper.upon_value]; exact hK _ _ hH
 ·rw [hrun,Oper.upon_skip]; exact hK _ _ hH
section
variable {g:Gh}{N:Nat}{M:Mem}{E:Env}{tmps:Array Value}{w:World}
theorem likeRows.get {s1:S}(hl:likeRows s s1){R:List Nat}{ef:List (Nat×Rw)}(h:s1.rw=ef++s.rw)(ha:apartB ef R=true){i:Nat}(hi:memN i R=true):zan s1.rw i=zan s.rw i:=by
 have:zan ef i=none:=by
  clear h hl
  induction ef with
  | nil=>rfl
  | cons p ef ih=>
   obtain ⟨j,x⟩:=p;simp only [apartB] at ha;split at ha
   ·cases ha
   ·rename_i hj;rw [zai,xab (by rintro rfl; rw [hi] at hj; cases hj)];exact ih ha
 rw [h,zdn,this]
theorem selF_mem {α:Type}:∀ {l:List Nat} {m r:List (Nat×α)},selF l m=some r->∀ {i:Nat} {v:α},zan r i=some v->memN i l=true
 | [],m,r,h,i,v,hi=>by simp only [selF] at h; cases h; cases hi
 | j::l,m,r,h,i,v,hi=>by
  simp only [selF] at h;split at h
  ·split at h
   ·rename_i r' hr';cases h;rw [zai] at hi;simp only [memN];split at hi
    ·rename_i e; rw [e,xej]
    ·split
     ·rfl
     ·exact selF_mem hr' hi
   ·cases h
  ·cases h
theorem subS_get {bs rs ms as:List Nat}{s0:S}(h:subS s bs rs ms as=some s0):s0.fr=[]/\(∀ i v,zan s0.bx i=some v->zan s.bx i=some v)/\(∀ i v,zan s0.rw i=some v->zan s.rw i=some v/\memN i rs=true)/\
  (∀ i v,zan s0.mp i=some v->zan s.mp i=some v)/\∀ i v,zan s0.ar i=some v->zan s.ar i=some v:=by
 unfold subS at h;split at h
 ·rename_i b hb;split at h
  ·rename_i r hr;split at h
   ·rename_i m hm;split at h
    ·rename_i a ha;cases h;exact ⟨rfl,fun i v=>zf2 hb,fun i v hv=>⟨zf2 hr hv,selF_mem hr hv⟩,fun i v=>zf2 hm,fun i v=>zf2 ha⟩
    ·cases h
   ·cases h
  ·cases h
 ·cases h
theorem zl6 {α:Type}(l m:List (Nat×α)):namesOk l l m:=⟨fun _ h=>h,fun _ h=>.inl h⟩
theorem callE_sound {P:Program}{f:FuncId}{xs:List AV}{ro:Bool}{bs rs ms as:List Nat}{r:AV}{s1':S}{an:List An}{res:Res}(h:callE P s f xs ro bs rs ms as r s1' an=some res)(hg:AllP res.gs)
  (hs:St g N M E s tmps w){vs:List Value}(hx:RelL M E vs xs):Bodied P f/\Calls P f vs.toArray w fun e w'=>∃ M' E' v x,e = .returned v/\res.e.x=some x/\E.up E'/\St g N M' E' (res.e.app none s) tmps w'/\Rel M' E' v x:=by
 unfold callE at h;split at h
 ·rename_i s0 hs0;split at h
  ·rename_i hcl;split at h
   ·rename_i ys ef hse;split at h
    ·rename_i hap;split at h
     ·rename_i hok;obtain ⟨q0,q1,q2,q3,q4⟩:=subS_get hs0;have hl0:likeRows s s:=⟨rfl,rfl,rfl,rfl,fun i r h=>⟨r.k,h⟩⟩;obtain ⟨M1,hM1,hs1,hr1,hl1⟩:=sealALx_ok hl0 hse hs hx;have hsub:(∀ i v,zan s0.bx i=some v->zan s.bx i=some v)/\(∀ i v,zan s0.rw i=some v->zan (ef++s.rw) i=some v)/\(∀ i v,zan s0.mp i=some v->zan s.mp i=some v)/\∀ i v,zan s0.ar i=some v->zan s.ar i=some v:=
       ⟨q1,fun i v hv=>by
        obtain ⟨e1,e2⟩:=q2 i v hv;have:=hl1.get (R:=rs) (ef:=ef) rfl hap e2;rw [this]; exact e1,q3,q4⟩
      have hst0:=hs1.noFr.sub (t:=s0) (fun i v hi=>by rw [q0] at hi; cases hi) hsub.1 hsub.2.1 hsub.2.2.1 hsub.2.2.2 hcl;have hargs:RelL M1 (E.keep (zam s0.bx) (zam s0.rw) (zam s0.mp) (zam s0.ar)) vs ys:=⟨hr1.1,fun j v c hv hc=>(hr1.2 j v c hv hc).keep (zjt hok hc)⟩;have hpre:=hst0.rebase (fun b=>b<w.heap.size/\(E.keep (zam s0.bx) (zam s0.rw) (zam s0.mp) (zam s0.ar)).own b=none) (fun b hb=>hb) (fun b hb=>⟨(hst0.foreign b hb).1,(hst0.foreign b hb).2.2⟩);split at h
      ·split at h
       ·rename_i hro;cases h;obtain ⟨hb,hc⟩:=hg.1;refine ⟨hb,(hc w M1 _ _ vs hpre hargs).mono ?_⟩;rintro e w' ⟨M',E1,v,rfl,hlw,hst,hrel⟩;obtain ⟨E2,hup,hle2,hst2⟩:=hs1.called hst hlw hsub (zl6 _ _) (zl6 _ _) (zl6 _ _) (zl6 _ _);refine ⟨M',E2,v,r,rfl,rfl,hup,?_,hrel.monoE hle2⟩;have same:∀ {α:Type} {a b:List (Nat×α)},(∀ i v,zan a i=some v->zan b i=some v)->∀ i,zan (a++b) i=zan b i:=fun {α a b} hab i=>by
         rw [zdn];cases hh:zan a i with
         | none=>rfl
         | some v=>exact (hab i v hh).symm
        refine hst2.weak (fun j y hj=>⟨y,hj,fun v hv=>hv⟩) (fun j cs hj=>⟨j,cs,by simp only [S.over,same hsub.1]; exact hj,fun b h=>h,fun b h=>h,rfl,fun m c c' v h1 h2 hv=>by rw [h1] at h2; cases h2; exact hv⟩)
         (fun j hj=>hst2.bxn j (by simp only [S.over,same hsub.1]; exact hj)) (fun j r2 hj=>?_) (fun j hj=>hst2.rwn j (by simp only [S.over,same hsub.2.1]; exact hj))
         (fun j es hj=>⟨j,es,by simp only [S.over,same hsub.2.2.1]; exact hj,fun b h=>h,fun b h=>h,rfl,fun m c c' h1 h2=>by rw [h1] at h2; cases h2; exact ⟨rfl,fun v hv=>hv⟩⟩) (fun j hj=>hst2.mpn j (by simp only [S.over,same hsub.2.2.1]; exact hj))
         (fun j r2 hj=>⟨by simp only [S.over,same hsub.2.2.2]; exact hj,rfl,fun b p h=>h,fun b p h=>h,Env.le_refl _,fun _ _ _ h=>h⟩) (fun j hj=>hst2.arn j (by simp only [S.over,same hsub.2.2.2]; exact hj)) (fun b o ho=>⟨o,ho,fun m hm=>?_⟩)
        ·have hj':zan (s0.over { s with rw:=ef++s.rw }).rw j=some r2:=by simp only [S.over,same hsub.2.1]; exact hj
         refine ⟨j,r2,hj',fun q hq=>?_,fun b h=>h,fun b p h=>h,rfl,rfl,.inl rfl,rfl,rfl,rfl,xaf _,fun h=>h,fun _=>Env.le_refl _⟩;obtain ⟨q',hq',hok'⟩:=hst2.rw j r2 hj';rw [hq] at hq'; cases hq';rw [<- hok'.ver]; exact hq
        ·obtain ⟨kd,j,p⟩:=o;simp only [zcs,S.over,same hsub.2.1,same hsub.2.2.2] at hm;exact hm
       ·cases h
      ·split at h
       ·rename_i hk1;split at h
        ·rename_i hk2;cases h;obtain ⟨hb,hc⟩:=hg.1;simp only [xaw] at hk1 hk2;obtain ⟨k1,k2,k3,k4⟩:=hk1;obtain ⟨m1,m2,m3,m4⟩:=hk2;have nrw:∀ i,zan s.rw i=none->i<nB->zan (ef++s.rw) i=none:=fun i hi _=>by
          cases hh:zan (ef++s.rw) i with
          | none=>rfl
          | some v=>
           exfalso;have hsealed:∀ {R:List Nat} {cs ds:List AV} {e:List (Nat×Rw)},zj0 R s cs=some (ds,e)->zan e i=none:=by
            have hC:∀ {R:List Nat} {x y:AV} {e:List (Nat×Rw)},sealCx R s x=some (y,e)->zan e i=none:=by
             intro R x y e h;cases x with
             | row j vr=>
              simp only [sealCx] at h;split at h
              ·cases h; rfl
              ·simp only [sealC] at h;split at h
               ·rename_i r' hr';split at h
                ·cases h;rw [zai,xab (by rintro rfl; rw [(zd0 hr').1] at hi; cases hi)];rfl
                ·cases h
               ·cases h
             | _=>simp only [sealCx] at h; cases h; rfl
            have hL:∀ {R:List Nat} {cs ds:List AV} {e:List (Nat×Rw)},sealLx R s cs=some (ds,e)->zan e i=none:=by
             intro R cs
             induction cs with
             | nil=>intro ds e h; simp only [sealLx] at h; cases h; rfl
             | cons x cs ih=>
              intro ds e h;simp only [sealLx] at h;split at h
              ·rename_i y e1 h1;split at h
               ·rename_i m e2 h2;cases h;rw [zdn,ih h2,hC h1]
               ·cases h
              ·cases h
            have hA:∀ {R:List Nat} {x y:AV} {e:List (Nat×Rw)},sealAx R s x=some (y,e)->zan e i=none:=by
             intro R x y e h;cases x with
             | agg cs=>
              simp only [sealAx] at h;split at h
              ·rename_i ds e1 h1;cases h;exact hL h1
              ·cases h
             | _=>exact hC (by simpa only [sealAx] using h)
            intro R cs
            induction cs with
            | nil=>intro ds e h; simp only [zj0] at h; cases h; rfl
            | cons x cs ih=>
             intro ds e h;simp only [zj0] at h;split at h
             ·rename_i y e1 h1;split at h
              ·rename_i m e2 h2;cases h;rw [zdn,ih h2,hA h1]
              ·cases h
             ·cases h
           rw [zdn,hsealed hse,hi] at hh;cases hh
         refine ⟨hb,(hc w M1 _ _ vs hpre hargs).mono ?_⟩;rintro e w' ⟨M',E1,v,rfl,hlw,hst,hrel⟩;obtain ⟨E2,hup,hle2,hst2⟩:=hs1.called hst hlw hsub ⟨keysIn_ok k1,zkp m1⟩ ⟨keysIn_ok k2,fun i hi=>(zkp m2 i hi).imp id fun ⟨h1,h2⟩=>⟨nrw i h1 h2,h2⟩⟩ ⟨keysIn_ok k3,zkp m3⟩ ⟨keysIn_ok k4,zkp m4⟩;refine ⟨M',E2,v,r,rfl,rfl,hup,?_,hrel.monoE hle2⟩;simpa only [Eff.app,S.over,xaj] using hst2
        ·cases h
       ·cases h
     ·cases h
    ·cases h
   ·cases h
  ·cases h
 ·cases h
theorem evalLent_sound {P:Program}{f:FuncId}{xs:List AV}{bs:List Nat}{zs:List AV}{r:AV}{an:List An}{res:Res}(h:evalLent P s f bs zs r an xs=some res)(hg:AllP res.gs)
  (hs:St g N M E s tmps w){vs:List Value}(hx:RelL M E vs xs):Bodied P f/\Calls P f vs.toArray w fun e w'=>∃ M' E' v x,e = .returned v/\res.e.x=some x/\E.up E'/\St g N M' E' (res.e.app none s) tmps w'/\Rel M' E' v x:=by
 unfold evalLent at h;cases h
theorem evalCall_sound {P:Program}{f:FuncId}{xs:List AV}{an:List An}{res:Res}(h:zol P s an f xs=some res)(hg:AllP res.gs)
  (hs:St g N M E s tmps w){vs:List Value}(hx:RelL M E vs xs):Bodied P f/\Calls P f vs.toArray w fun e w'=>∃ M' E' v x,e = .returned v/\res.e.x=some x/\E.up E'/\St g N M' E' (res.e.app none s) tmps w'/\Rel M' E' v x:=by
 unfold zol at h;have hl0:likeRows s s:=⟨rfl,rfl,rfl,rfl,fun i r h=>⟨r.k,h⟩⟩;split at h
 ·split at h
  ·rename_i ys ef hse;split at h
   ·rename_i hp;split at h
    ·rename_i hpr;cases h;obtain ⟨hb,hc⟩:=hg.1;obtain ⟨M1,hM1,hs1,hr1,hl1⟩:=sealAL_ok hl0 hse hs hx;have hargs:RelL M1 Env.none vs ys:=⟨hr1.1,fun j v c hv hc=>(hr1.2 j v c hv hc).of_pure _ (zjt hp hc)⟩;have hst0:=(hs1.noFr.sub (t:=S.none) (fun i v h=>by cases h) (fun i v h=>by cases h) (fun i v h=>by cases h) (fun i v h=>by cases h) (fun i v h=>by cases h) rfl);have hkn:E.keep (zam S.none.bx) (zam S.none.rw) (zam S.none.mp) (zam S.none.ar)=Env.none:=Env.keep_none E;have hpre:=hst0.rebase (fun b=>b<w.heap.size/\(E.keep (zam S.none.bx) (zam S.none.rw) (zam S.none.mp) (zam S.none.ar)).own b=none) (fun b hb=>hb) (fun b hb=>⟨(hst0.foreign b hb).1,(hst0.foreign b hb).2.2⟩);refine ⟨hb,(hc w M1 _ _ vs hpre (by rw [hkn]; exact hargs)).mono ?_⟩;rintro e w' ⟨M',E1,v,rfl,hlw,hst,hrel⟩;obtain ⟨E2,hup,hle2,hst2⟩:=hs1.called hst hlw ⟨fun i v h=>(by cases h),fun i v h=>(by cases h),fun i v h=>(by cases h),fun i v h=>by cases h⟩ ⟨fun i h=>(by cases h),fun i h=>by cases h⟩ ⟨fun i h=>(by cases h),fun i h=>by cases h⟩ ⟨fun i h=>(by cases h),fun i h=>by cases h⟩ ⟨fun i h=>(by cases h),fun i h=>by cases h⟩;exact ⟨M',E2,v,_,rfl,rfl,hup,hst2,hrel.monoE hle2⟩
    ·cases h
   ·cases h
  ·cases h
 ·split at h
  ·rename_i ys ef hse;split at h
   ·rename_i hp;split at h
    ·rename_i hpr;cases h;obtain ⟨hb,hc⟩:=hg.1;obtain ⟨M1,hM1,hs1,hr1,hl1⟩:=sealAL_ok hl0 hse hs hx;have hargs:RelL M1 Env.none vs ys:=⟨hr1.1,fun j v c hv hc=>(hr1.2 j v c hv hc).of_pure _ (zjt hp hc)⟩;have hst0:=(hs1.noFr.sub (t:=S.none) (fun i v h=>by cases h) (fun i v h=>by cases h) (fun i v h=>by cases h) (fun i v h=>by cases h) (fun i v h=>by cases h) rfl);have hkn:E.keep (zam S.none.bx) (zam S.none.rw) (zam S.none.mp) (zam S.none.ar)=Env.none:=Env.keep_none E;rw [hkn] at hst0;have hpre:=hst0.rebase (fun b=>b<w.heap.size) (fun b hb=>⟨hb,rfl⟩) (fun b hb=>(hst0.foreign b hb).1);refine ⟨hb,(hc w M1 _ _ vs hpre hargs).mono ?_⟩;rintro e w' ⟨M',E1,v,rfl,hlw,hst,hrel⟩;exact ⟨M,E,v,_,rfl,rfl,Env.up_refl E,hs.borrowed hst,hrel.scal hpr⟩
    ·cases h
   ·cases h
  ·cases h
 ·exact evalLent_sound h hg hs hx
 ·exact callE_sound h hg hs hx
 ·exact callE_sound h hg hs hx
 ·cases h
end
theorem Wp_of_call {o:Oper}{f:FuncId}{r:Res}(hd:∀ d,o.dst=some d->d<C.N)
  (h:∀ (a:Act) (w:World) (M:Mem) (E:Env),St C.g C.N M E s a.tmps w->∃ vs:List Value,(execOp a.eval o).run C.P w=(callFunc f vs.toArray).run C.P w/\Bodied C.P f/\
   Calls C.P f vs.toArray w fun e w'=>∃ M' E' v x,e = .returned v/\r.e.x=some x/\E.up E'/\St C.g C.N M' E' (r.e.app none s) a.tmps w'/\Rel M' E' v x):Wp C o s (r.e.app o.dst s):=by
 intro a w ⟨hdf,M,E,hs,hp0⟩ K Q hK;obtain ⟨vs,hrun,hb,hc⟩:=h a w M E hs;unfold Oper.wp;rw [hrun,run_callFunc hb,Oper.upon_enter];refine hc.mono ?_;rintro e w' ⟨M',E',v,x,rfl,hx,hup,hst,hr⟩;refine hK _ _ ⟨by rw [zfx]; exact hdf,M',E',?_,hup.p _ hp0⟩;cases hdd:o.dst with
 | none=>exact hst
 | some d=>
  have:=hst.putS (hd d hdd) hr;simpa only [Eff.app,hx] using this
theorem evalAny_sound (hτ:zgl C.P τ){A:List (Nat×Bool)}(hA:allB A=true){o:Oper}{an:List An}(hd:∀ d,o.dst=some d->d<C.N)(hw:∀ x∈zbd o.op,Done s x){r:Res}(h:evalAny τ C.P A s an o.dst o.op=some r)(hg:AllP r.gs)(he:AllE r.eq):Wp C o s (r.e.app o.dst s):=by
 unfold evalAny at h;split at h
 ·rename_i f ops tys ho;rw [ho] at hw;split at h
  ·rename_i xs hxs;refine Wp_of_call (f:=f) hd fun a w M E hs=>?_;have hrel0:=zl7 hxs (fun x hx=>hw x (by simp [zbd]; exact Or.inr (by simpa using hx))) hs;have hrel:=argN_rel (τ:=τ) (an:=an) (ts:=tys.toList) hrel0;obtain ⟨hb,hc⟩:=evalCall_sound h hg hs hrel;exact ⟨_,run_call ho rfl a w,hb,hc⟩
  ·cases h
 ·rename_i t ops tys ho;rw [ho] at hw;split at h
  ·rename_i f caps hf;split at h
   ·rename_i xs hxs;refine Wp_of_call (f:=f) hd fun a w M E hs=>?_;have hrel0:=zl7 hxs (fun x hx=>hw x (by simp [zbd]; exact Or.inr (by simpa using hx))) hs;have hrel:=argN_rel (τ:=τ) (an:=an) (ts:=tys.toList) hrel0;obtain ⟨cs,hcv,hcl,hcr⟩:=(valW_rel hs hf (hw _ (by simp [zbd]))).fn_inv;have hall:RelL M E ((ops.toList.map a.eval)++cs) ((argN τ an tys.toList xs).1++caps):=by
     refine ⟨by rw [xaa,xaa,hrel.1,hcl],fun j v c hv hc=>?_⟩;rw [xb7] at hv hc;rw [hrel.1] at hv;split at hv
     ·rename_i hj; rw [xad hj] at hc; exact hrel.2 j v c hv hc
     ·rename_i hj; rw [xab hj] at hc; exact .cell (hcr _ v c hv hc)
    obtain ⟨hb,hc⟩:=evalCall_sound h hg hs hall;exact ⟨_,run_callV ho rfl a hcv w,hb,hc⟩
   ·cases h
  ·cases h
 ·exact Wp_of_does (evalOp_sound hτ hA o an hd hw r h hg he)
theorem evalG_sound (hτ:zgl C.P τ){all:List Oper}{o:Oper}{A:List (Nat×Bool)}{an:List An}(hd:∀ d,o.dst=some d->d<C.N)(hgc:gcond all s o.guard=some A){r:Res}(h:evalG τ C.P A s an o=some r)(hg:AllP r.gs)(he:AllE r.eq) :
  Step C all o s (r.e.app o.dst s):=by
 unfold evalG at h;split at h
 ·rename_i es hes;split at h
  ·rename_i r0 hr0;split at h
   ·cases h;obtain ⟨e1,e2⟩:=zhs.1 he;intro a w hx K Q hK;rw [gcond_ok hgc hx,xad (show allB []=true from rfl)];exact evalAny_sound hτ rfl hd (obs_done rfl hes e1) hr0 hg e2 a w hx K Q hK
   ·rename_i d0 c0 A';split at h
    ·rename_i x hx0;cases h;obtain ⟨e1,e2⟩:=zhs.1 he;intro a w hx K Q hK;rw [gcond_ok hgc hx];cases hA:allB ((d0,c0)::A') with
     | true=>
      rw [xad rfl];refine evalAny_sound hτ hA hd (obs_done hA hes e1) hr0 (undL_ok hA hg) e2 a w hx K Q fun a' w' hH=>hK _ _ ?_;rw [hx0] at hH;obtain ⟨hdf,M,E,hs,hp0⟩:=hH;refine ⟨hdf,M,E,?_,hp0⟩;cases hdd:o.dst with
      | none=>rw [hdd] at hs; exact hs
      | some d=>
       rw [hdd] at hs;refine { hs with fr:=fun i av hi=>?_ };have hi':zan ((d,AV.when ((d0,c0)::A') x)::s.fr) i=some av:=hi;have hfr:∀ i av,zan ((d,x)::s.fr) i=some av->i<C.N/\Rel M E (a'.tmps.getD i undef) av:=hs.fr;rw [zai] at hi';split at hi'
       ·rename_i e;cases hi';obtain ⟨h1,h2⟩:=hfr i x (by rw [zai,xad e]);exact ⟨h1,.when _ _ _ (fun _=>h2) (fun h=>by rw [hA] at h; cases h)⟩
       ·rename_i e;exact hfr i av (by rw [zai,xab e]; exact hi')
     | false=>
      rw [xab (by simp)];obtain ⟨hdf,M,E,hs,hp0⟩:=hx;refine hK _ _ ⟨by rw [zfx]; exact hdf,M,E,?_,hp0⟩;cases hdd:o.dst with
      | none=>exact hs
      | some d=>exact hs.putS (hd d hdd) (.when _ _ _ (fun h=>by rw [hA] at h; cases h) (fun _=>rfl))
    ·cases h
  ·cases h
 ·cases h
end Go.Dm
namespace Go.Dm
open Go Go.RowKit
variable {C:Cx}{k:List It}{s s' t:S}{τ:zbn}
structure DE where
 d:Option Nat
 e:Eff
def DE.app (x:DE)(s:S):S:=x.e.app x.d s
def keysL {α:Type}(c:Nat):List (Nat×α)->List Key
 | []=>[]
 | (i,_)::l=>(c,i)::keysL c l
def DE.writes (x:DE):List Key:=
 (match x.d with | some i=>[(0,i)] | none=>[])++(keysL 1 x.e.bx++(keysL 2 x.e.rw++(keysL 3 x.e.mp++keysL 4 x.e.ar)))
def same (κ:Key)(s s':S):Prop:=
 (κ.1=0->zan s.fr κ.2=zan s'.fr κ.2)/\(κ.1=1->zan s.bx κ.2=zan s'.bx κ.2)/\(κ.1=2->zan s.rw κ.2=zan s'.rw κ.2)/\(κ.1=3->zan s.mp κ.2=zan s'.mp κ.2)/\(κ.1=4->zan s.ar κ.2=zan s'.ar κ.2)
def Agree (R:List Key)(s s':S):Prop:=∀ κ∈R,same κ s s'
def SEq (s s':S):Prop:=∀ κ,same κ s s'
theorem Agree.sub {R R':List Key}(h:Agree R s s')(hR:∀ κ∈R',κ∈R):Agree R' s s':=fun κ hκ=>h κ (hR κ hκ)
theorem same.refl (κ:Key)(s:S):same κ s s:=⟨fun _=>rfl,fun _=>rfl,fun _=>rfl,fun _=>rfl,fun _=>rfl⟩
theorem same.symm {κ:Key}(h:same κ s s'):same κ s' s:=⟨fun e=>(h.1 e).symm,fun e=>(h.2.1 e).symm,fun e=>(h.2.2.1 e).symm,fun e=>(h.2.2.2.1 e).symm,fun e=>(h.2.2.2.2 e).symm⟩
theorem same.trans {κ:Key}(h:same κ s s')(h':same κ s' t):same κ s t:=
 ⟨fun e=>(h.1 e).trans (h'.1 e),fun e=>(h.2.1 e).trans (h'.2.1 e),fun e=>(h.2.2.1 e).trans (h'.2.2.1 e),fun e=>(h.2.2.2.1 e).trans (h'.2.2.2.1 e),fun e=>(h.2.2.2.2 e).trans (h'.2.2.2.2 e)⟩
theorem SEq.fr (h:SEq s s')(i:Nat):zan s.fr i=zan s'.fr i:=(h (0,i)).1 rfl
theorem SEq.bx (h:SEq s s')(i:Nat):zan s.bx i=zan s'.bx i:=(h (1,i)).2.1 rfl
theorem SEq.rw (h:SEq s s')(i:Nat):zan s.rw i=zan s'.rw i:=(h (2,i)).2.2.1 rfl
theorem SEq.mp (h:SEq s s')(i:Nat):zan s.mp i=zan s'.mp i:=(h (3,i)).2.2.2.1 rfl
theorem SEq.ar (h:SEq s s')(i:Nat):zan s.ar i=zan s'.ar i:=(h (4,i)).2.2.2.2 rfl
theorem H.eq {g:Gh}{N:Nat}{a:Act}{w:World}(h:H g N s a w)(e:SEq s s'):H g N s' a w:=by
 obtain ⟨hd,M,E,hs,hp⟩:=h;exact ⟨hd,M,E,{ hs with
  fr:=fun i av hi=>hs.fr i av (by rw [e.fr]; exact hi)
  mem:=fun b j v hv=>⟨(hs.mem b j v hv).1,fun o ho=>by
   have:=(hs.mem b j v hv).2 o ho;simp only [zcs,e.rw,e.ar] at this ⊢;exact this⟩
  bx:=fun i cs hi=>hs.bx i cs (by rw [e.bx]; exact hi)
  bxn:=fun i hi=>hs.bxn i (by rw [e.bx]; exact hi)
  rw:=fun i cs hi=>hs.rw i cs (by rw [e.rw]; exact hi)
  rwn:=fun i hi=>hs.rwn i (by rw [e.rw]; exact hi)
  mp:=fun i cs hi=>hs.mp i cs (by rw [e.mp]; exact hi)
  mpn:=fun i hi=>hs.mpn i (by rw [e.mp]; exact hi)
  ar:=fun i cs hi=>hs.ar i cs (by rw [e.ar]; exact hi)
  arn:=fun i hi=>hs.arn i (by rw [e.ar]; exact hi) },hp⟩
theorem mem_keysL {α:Type}{c:Nat}:∀ {l:List (Nat×α)} {κ:Key},κ∈keysL c l↔κ.1=c/\(zan l κ.2).isSome=true
 | [],κ=>by simp [keysL,zan]
 | (j,v)::l,κ=>by
  simp only [keysL,xaq,mem_keysL (l:=l),zai];obtain ⟨a,b⟩:=κ;simp only [Prod.mk.injEq];constructor
  ·rintro (⟨rfl,rfl⟩ | ⟨rfl,h⟩)
   ·simp
   ·refine ⟨rfl,?_⟩;split
    ·rfl
    ·exact h
  ·rintro ⟨rfl,h⟩;split at h
   ·rename_i e; exact .inl ⟨rfl,e⟩
   ·exact .inr ⟨rfl,h⟩
theorem zih {α:Type}{a b:List (Nat×α)}{i:Nat}(h:(zan a i).isSome=false):zan (a++b) i=zan b i:=by
 rw [zdn];cases hh:zan a i with
 | none=>rfl
 | some v=>rw [hh] at h; cases h
theorem zh8 {α:Type}{a b b':List (Nat×α)}{i:Nat}(h:(zan a i).isSome=true\/zan b i=zan b' i):zan (a++b) i=zan (a++b') i:=by
 rw [zdn,zdn];cases hh:zan a i with
 | some v=>rfl
 | none=>
  rcases h with h | h
  ·rw [hh] at h; cases h
  ·exact h
def slotL (x:DE):List (Nat×AV):=match x.d,x.e.x with
 | some i,some v=>[(i,v)]
 | some i,none=>[(i,.any)]
 | none,_=>[]
theorem app_fr (x:DE)(s:S):(x.app s).fr=slotL x++s.fr:=by
 obtain ⟨d,e⟩:=x;unfold DE.app Eff.app slotL;cases d with
 | none=>rfl
 | some i=>cases he:e.x <;> simp [he]
theorem slotL_keys (x:DE)(κ:Key):κ∈(match x.d with | some i=>[((0:Nat),i)] | none=>[])↔κ.1=0/\(zan (slotL x) κ.2).isSome=true:=by
 obtain ⟨d,e⟩:=x;obtain ⟨a,b⟩:=κ;cases d with
 | none=>simp [slotL,zan]
 | some i=>
  cases he:e.x <;> simp only [slotL,he,zai,zan,xba,Prod.mk.injEq]
  all_goals
   constructor
   ·rintro ⟨rfl,rfl⟩; simp
   ·rintro ⟨rfl,h⟩;split at h
    ·rename_i e; exact ⟨rfl,e⟩
    ·cases h
theorem app_other {e:DE}{κ:Key}(h:κ∉e.writes)(s:S):same κ (e.app s) s:=by
 simp only [DE.writes,xax,not_or,slotL_keys,mem_keysL] at h;obtain ⟨h0,h1,h2,h3,h4⟩:=h;refine ⟨fun hc=>?_,fun hc=>?_,fun hc=>?_,fun hc=>?_,fun hc=>?_⟩
 ·rw [app_fr]; exact zih (by simpa [hc] using h0)
 ·exact zih (by simpa [hc] using h1)
 ·exact zih (by simpa [hc] using h2)
 ·exact zih (by simpa [hc] using h3)
 ·exact zih (by simpa [hc] using h4)
theorem app_same {e:DE}{κ:Key}{s s':S}(h:κ∈e.writes\/same κ s s'):same κ (e.app s) (e.app s'):=by
 simp only [DE.writes,xax,slotL_keys,mem_keysL] at h;refine ⟨fun hc=>?_,fun hc=>?_,fun hc=>?_,fun hc=>?_,fun hc=>?_⟩
 ·rw [app_fr,app_fr]; refine zh8 ?_
  rcases h with (h | h | h | h | h) | h
  ·exact .inl h.2
  all_goals first | omega | exact .inr (h.1 hc)
 ·refine zh8 ?_
  rcases h with (h | h | h | h | h) | h
  ·omega
  ·exact .inl h.2
  all_goals first | omega | exact .inr (h.2.1 hc)
 ·refine zh8 ?_
  rcases h with (h | h | h | h | h) | h
  ·omega
  ·omega
  ·exact .inl h.2
  all_goals first | omega | exact .inr (h.2.2.1 hc)
 ·refine zh8 ?_
  rcases h with (h | h | h | h | h) | h
  ·omega
  ·omega
  ·omega
  ·exact .inl h.2
  all_goals first | omega | exact .inr (h.2.2.2.1 hc)
 ·refine zh8 ?_
  rcases h with (h | h | h | h | h) | h
  ·omega
  ·omega
  ·omega
  ·omega
  ·exact .inl h.2
  ·exact .inr (h.2.2.2.2 hc)
def OpOk (C:Cx)(all:List Oper)(i:Nat)(s s1:S):Prop:=
 ∀ a w,H C.g C.N s a w->∀ (K:Act->World->Prop) (Q:Exit->Act->World->Prop),(∀ a' w',H C.g C.N s1 a' w'->K a' w')->wpOp C.P all.toArray Q i K a w
def ValidE (C:Cx)(all:List Oper)(i:Nat)(R:List Key)(e:DE)(s:S):Prop:=∀ s',Agree R s s'->OpOk C all i s' (e.app s')
inductive DRun (C:Cx)(all:List Oper):Nat->S->List (List Key×DE)->S->Prop
 | nil (i:Nat) (s:S):DRun C all i s [] s
 | cons {i:Nat} {s s2:S} {R:List Key} {e:DE} {l:List (List Key×DE)} (h:ValidE C all i R e s) (ht:DRun C all (i+1) (e.app s) l s2):DRun C all i s ((R,e)::l) s2
def stOf (L:Nat->Bool):Nat->List (List Key×DE)->S->S
 | _,[],s=>s
 | k,(_,e)::l,s=>stOf L (k+1) l (if L k then e.app s else s)
theorem zmn {L L':Nat->Bool}{κ:Key}:∀ (l:List (List Key×DE)) (k:Nat) (s s':S),same κ s s'->
  (∀ j R e,l[j]?=some (R,e)->κ∈e.writes->L (k+j)=L' (k+j))->same κ (stOf L k l s) (stOf L' k l s')
 | [],_,_,_,h,_=>h
 | (R,e)::l,k,s,s',h,hw=>by
  simp only [stOf];refine zmn l (k+1) _ _ ?_ (fun j R' e' hj hk=>by
   have:=hw (j+1) R' e' (by simpa using hj) hk;rw [show k+1+j=k+(j+1) by omega]; exact this)
  by_cases hκ:κ∈e.writes
  ·have:=hw 0 R e rfl hκ;rw [xcu] at this;rw [this];split
   ·exact app_same (.inl hκ)
   ·exact h
  ·split <;> split
   ·exact app_same (.inr h)
   ·exact (app_other hκ s).trans h
   ·exact h.trans (app_other hκ s').symm
   ·exact h
theorem stOf_insert {L:Nat->Bool}{κ:Key}{R:List Key}{e:DE}:∀ (l:List (List Key×DE)) (k i:Nat) (s:S),l[i]?=some (R,e)->L (k+i)=false->
  (κ∈e.writes->∀ j R' e',l[j]?=some (R',e')->i<j->κ∈e'.writes->L (k+j)=false)->
  same κ (stOf (fun j=>L j||decide (j=k+i)) k l s) (e.app (stOf L k l s))
 | [],_,_,_,h,_,_=>by simp at h
 | (R0,e0)::l,k,0,s,h,hL,hw=>by
  simp at h;obtain ⟨rfl,rfl⟩:=h;simp only [stOf,xcu,decide_true,Bool.or_true,xc1];rw [xcu] at hL;rw [hL];simp only [xby,xcw];have e1:same κ (stOf (fun j=>L j||decide (j=k)) (k+1) l (e0.app s)) (stOf L (k+1) l (e0.app s)):=
   zmn l (k+1) _ _ (same.refl _ _) (fun j _ _ _ _=>by
    have:decide (k+1+j=k)=false:=by simp; omega
    simp [this])
  refine e1.trans ?_;by_cases hκ:κ∈e0.writes
  ·have hn:∀ j R' e',l[j]?=some (R',e')->κ∈e'.writes->L (k+1+j)=(fun _=>false) (k+1+j):=fun j R' e' hj hk=>by
    have:=hw hκ (j+1) R' e' (by simpa using hj) (by omega) hk;rw [show k+1+j=k+(j+1) by omega]; exact this
   have z:∀ (l:List (List Key×DE)) (k:Nat) (s:S),stOf (fun _=>false) k l s=s:=by
    intro l
    induction l with
    | nil=>intro k s; rfl
    | cons p l ih=>intro k s; obtain ⟨_,_⟩:=p; simp [stOf,ih]
   have a1:=zmn (L:=L) (L':=fun _=>false) (κ:=κ) l (k+1) (e0.app s) (e0.app s) (same.refl _ _) hn;rw [z] at a1;exact a1.trans (app_same (.inl hκ))
  ·have a1:same κ (stOf L (k+1) l (e0.app s)) (stOf L (k+1) l s):=zmn l (k+1) _ _ (app_other hκ s) (fun _ _ _ _ _=>rfl);exact a1.trans (app_other hκ _).symm
 | (R0,e0)::l,k,i+1,s,h,hL,hw=>by
  simp only [stOf];have hk:decide (k=k+(i+1))=false:=by simp
  simp only [hk,xdn];have:=stOf_insert (L:=L) (κ:=κ) l (k+1) i (if L k=true then e0.app s else s) (by simpa using h) (by rw [show k+1+i=k+(i+1) by omega]; exact hL)
   (fun hκ j R' e' hj hlt hk=>by
    have:=hw hκ (j+1) R' e' (by simpa using hj) (by omega) hk;rw [show k+1+j=k+(j+1) by omega]; exact this)
  rw [show k+1+i=k+(i+1) by omega] at this;exact this
def anc (all:List Oper):Nat->Nat->Nat->Bool
 | 0,_,_=>false
 | n+1,i,j=>match nth all j with
  | some o=>o.after.toList.any fun e=>Region.binds .any e&&(decide (e.on=i)||anc all n i e.on)
  | none=>false
def keyIn (x:Key):List Key->Bool
 | []=>false
 | y::l=>match Nat.beq x.1 y.1 with
  | true=>match Nat.beq x.2 y.2 with
   | true=>true
   | false=>keyIn x l
  | false=>keyIn x l
def hits (a b:List Key):Bool:=match a with
 | []=>false
 | x::l=>match keyIn x b with
  | true=>true
  | false=>hits l b
theorem keyIn_of {x:Key}:∀ {l:List Key},x∈l->keyIn x l=true
 | y::l,h=>by
  simp only [keyIn]
  rcases xaq.1 h with e | h
  ·subst e;have e1:Nat.beq x.1 x.1=true:=xej _;have e2:Nat.beq x.2 x.2=true:=xej _;rw [e1,e2]
  ·have:=keyIn_of h;split
   ·split
    ·rfl
    ·exact this
   ·exact this
def clash (x y:List Key×List Key):Bool:=hits x.2 y.1||(hits x.2 y.2||hits y.2 x.1)
def indep1 (all:List Oper)(i:Nat)(x:List Key×List Key):Nat->List (List Key×List Key)->Bool
 | _,[]=>true
 | j,y::l=>(!clash x y||anc all 6 i j)&&indep1 all i x (j+1) l
def indepB (all:List Oper):Nat->List (List Key×List Key)->Bool
 | _,[]=>true
 | i,x::l=>indep1 all i x (i+1) l&&indepB all (i+1) l
def backB:Nat->List Oper->Bool
 | _,[]=>true
 | i,o::l=>o.after.toList.all (fun e=>!Region.binds .any e||decide (e.on<i))&&backB (i+1) l
def keysOf (l:List (List Key×DE)):List (List Key×List Key):=l.map fun p=>(p.1,p.2.writes)
theorem hits_of {a b:List Key}{κ:Key}(h1:κ∈a)(h2:κ∈b):hits a b=true:=by
 induction a with
 | nil=>cases h1
 | cons x l ih=>
  simp only [hits]
  rcases xaq.1 h1 with e | h1
  ·subst e; rw [keyIn_of h2]
  ·split
   ·rfl
   ·exact ih h1
theorem indep1_at {all:List Oper}{i:Nat}{x:List Key×List Key}:∀ {l:List (List Key×List Key)} {j m:Nat} {y:List Key×List Key},indep1 all i x j l=true->l[m]?=some y->clash x y=true->anc all 6 i (j+m)=true
 | [],_,_,_,_,h,_=>by simp at h
 | z::l,j,0,y,h,hm,hc=>by
  simp at hm; subst hm;simp only [indep1,xaw,xa0,xbq] at h
  rcases h.1 with h | h
  ·rw [hc] at h; cases h
  ·exact h
 | z::l,j,m+1,y,h,hm,hc=>by
  simp only [indep1,xaw] at h;have:=indep1_at h.2 (by simpa using hm) hc;rw [show j+(m+1)=j+1+m by omega]; exact this
theorem indepB_at {all:List Oper}:∀ {l:List (List Key×List Key)} {i a b:Nat} {x y:List Key×List Key},indepB all i l=true->l[a]?=some x->l[b]?=some y->a<b->clash x y=true->anc all 6 (i+a) (i+b)=true
 | [],_,_,_,_,_,_,h,_,_,_=>by simp at h
 | z::l,i,0,b+1,x,y,h,ha,hb,_,hc=>by
  simp at ha; subst ha;simp only [indepB,xaw] at h;have:=indep1_at h.1 (by simpa using hb) hc;rw [show i+(b+1)=i+1+b by omega]; exact this
 | z::l,i,a+1,b+1,x,y,h,ha,hb,hlt,hc=>by
  simp only [indepB,xaw] at h;have:=indepB_at h.2 (by simpa using ha) (by simpa using hb) (by omega) hc;rw [show i+(a+1)=i+1+a by omega,show i+(b+1)=i+1+b by omega]; exact this
 | z::l,i,0,0,_,_,_,_,_,h,_=>absurd h (by omega)
 | z::l,i,a+1,0,_,_,_,_,_,h,_=>absurd h (by omega)
theorem backB_at:∀ {l:List Oper} {i a:Nat} {o:Oper} {e:Edge},backB i l=true->l[a]?=some o->e∈o.after.toList->Region.binds .any e=true->e.on<i+a
 | [],_,_,_,_,_,h,_,_=>by simp at h
 | z::l,i,0,o,e,h,ha,he,hb=>by
  simp at ha; subst ha;simp only [backB,xaw,xcl] at h;have:=h.1 e he;simpa [hb] using this
 | z::l,i,a+1,o,e,h,ha,he,hb=>by
  simp only [backB,xaw] at h;have:=backB_at h.2 (by simpa using ha) he hb;omega
def Closed (all:List Oper)(L:Nat->Bool):Prop:=∀ j o e,all[j]?=some o->L j=true->e∈o.after.toList->Region.binds .any e=true->L e.on=true
theorem anc_listed {all:List Oper}{L:Nat->Bool}(hC:Closed all L):∀ (n i j:Nat),anc all n i j=true->L j=true->L i=true
 | 0,i,j,h,_=>by simp [anc] at h
 | n+1,i,j,h,hL=>by
  simp only [anc,zf9] at h;split at h
  ·rename_i o ho;simp only [List.any_eq_true,xaw,xa0,xav] at h;obtain ⟨e,he,hb,h | h⟩:=h
   ·rw [<- h]; exact hC j o e ho hL he hb
   ·exact anc_listed hC n i e.on h (hC j o e ho hL he hb)
  ·cases h
theorem anc_ready {all:List Oper}{L:Nat->Bool}(hC:Closed all L){n i j:Nat}{o:Oper}(ho:all[j]?=some o)(hd:∀ e∈o.after.toList,Region.binds .any e=true->L e.on=true)(h:anc all n i j=true):L i=true:=by
 cases n with
 | zero=>simp [anc] at h
 | succ n=>
  simp only [anc,zf9,ho,List.any_eq_true,xaw,xa0,xav] at h;obtain ⟨e,he,hb,h | h⟩:=h
  ·rw [<- h]; exact hd e he hb
  ·exact anc_listed hC n i e.on h (hd e he hb)
theorem DRun.at_ {all:List Oper}:∀ {l:List (List Key×DE)} {i:Nat} {s s2:S},DRun C all i s l s2->∀ {j:Nat} {R:List Key} {e:DE},l[j]?=some (R,e)->
  ValidE C all (i+j) R e (stOf (fun m=>decide (m<i+j)) i l s)
 | _,_,_,_,.nil i s,j,R,e,h=>by simp at h
 | _,_,_,_,.cons (i:=i) (s:=s) (R:=R0) (e:=e0) (l:=l) hv ht,0,R,e,h=>by
  simp at h;obtain ⟨rfl,rfl⟩:=h;have z:∀ (l:List (List Key×DE)) (k:Nat) (s:S),i<=k->stOf (fun m=>decide (m<i)) k l s=s:=by
   intro l
   induction l with
   | nil=>intro k s _; rfl
   | cons p l ih=>intro k s hk; obtain ⟨_,_⟩:=p; simp only [stOf]; rw [xab (by simp; omega),ih _ _ (by omega)]
  rw [xcu,z _ _ _ (xaf _)];exact hv
 | _,_,_,_,.cons (i:=i) (s:=s) (R:=R0) (e:=e0) (l:=l) hv ht,j+1,R,e,h=>by
  have:=DRun.at_ ht (j:=j) (by simpa using h);rw [show i+(j+1)=i+1+j by omega];simp only [stOf];rw [xad (by simp; omega)];exact this
theorem DRun.end_ {all:List Oper}:∀ {l:List (List Key×DE)} {i:Nat} {s s2:S},DRun C all i s l s2->∀ (L:Nat->Bool),(∀ j,j<l.length->L (i+j)=true)->stOf L i l s=s2
 | _,_,_,_,.nil i s,L,_=>rfl
 | _,_,_,_,.cons (i:=i) (s:=s) (R:=R0) (e:=e0) (l:=l) hv ht,L,hL=>by
  simp only [stOf];have h0:=hL 0 (by simp);rw [xcu] at h0;rw [xad h0];exact DRun.end_ ht L (fun j hj=>by rw [show i+1+j=i+(j+1) by omega]; exact hL (j+1) (by simp; omega))
theorem draw_any {all:List Oper}{res:List (List Key×DE)}{s0 s2:S}(hr:DRun C all 0 s0 res s2)(hl:res.length=all.length)(hi:indepB all 0 (keysOf res)=true)(hb:backB 0 all=true)
  (Q:Exit->Act->World->Prop)(hQ:∀ a w,H C.g C.N s2 a w->Q .normal a w):∀ (fuel:Nat) (listed:Array Bool) (a:Act) (w:World),listed.size=all.length->
   Closed all (fun j=>listed.getD j false)->(List.range all.length).countP (fun j=>!listed.getD j false)=fuel->
   H C.g C.N (stOf (fun j=>listed.getD j false) 0 res s0) a w->wpAny C.P .any all.toArray Q fuel listed a w:=by
 have hready:∀ (listed:Array Bool),listed.size=all.length->Closed all (fun j=>listed.getD j false)->Region.ready .any all.toArray listed=[]->∀ j,j<all.length->listed.getD j false=true:=by
  intro listed hsz hC hrd j
  induction j using Nat.strongRecOn with
  | _ j ih=>
   intro hj;cases hL:listed.getD j false with
   | true=>rfl
   | false=>
    exfalso;have:j∈Region.ready .any all.toArray listed:=by
     simp only [Region.ready,xc2,xd5,xaz];refine ⟨hj,?_⟩;have h1:listed.getD j true=false:=by
      rw [xan] at hL ⊢;have hlt:j<listed.size:=by omega
      rw [xb5 hlt] at hL ⊢;simpa using hL
     simp only [h1,xeo,xey,xa1,xag hj,xbl,xb8];rw [xc9];intro e he;by_cases hbe:Region.binds .any e=true
     ·have hlt:=backB_at hb (xag hj) (by simpa using he) hbe;simp [hbe,ih e.on (by omega) (by omega)]
     ·simp [hbe]
    rw [hrd] at this;cases this
 have hend:∀ (listed:Array Bool) (a:Act) (w:World),listed.size=all.length->Closed all (fun j=>listed.getD j false)->Region.ready .any all.toArray listed=[]->H C.g C.N (stOf (fun j=>listed.getD j false) 0 res s0) a w->Q .normal a w:=by
  intro listed a w hsz hC hrd hH;have hall:=hready listed hsz hC hrd;rw [hr.end_ (fun j=>listed.getD j false) (fun j hj=>by rw [xbr]; exact hall j (by omega))] at hH;exact hQ a w hH
 intro fuel
 induction fuel with
 | zero=>
  intro listed a w hsz hC hf hH;have hall:∀ j,j<all.length->listed.getD j false=true:=by
   intro j hj;have:=(List.countP_eq_zero.1 hf) j (by simpa using hj);simpa using this
  have hrd:Region.ready .any all.toArray listed=[]:=by
   simp only [Region.ready,xe3,xd5,xaz];intro j hj;have h1:=hall j hj;have:listed.getD j true=true:=by
    rw [xan] at h1 ⊢;have hlt:j<listed.size:=by omega
    rw [xb5 hlt] at h1 ⊢;simpa using h1
   simp [this]
  exact ⟨hrd,hend listed a w hsz hC hrd hH⟩
 | succ fuel ih=>
  intro listed a w hsz hC hf hH;refine ⟨fun hrd=>hend listed a w hsz hC hrd hH,fun i hmem=>?_⟩;simp only [Region.ready,xc2,xd5,xaz,xaw,xbq] at hmem;obtain ⟨hin,hun,hdep⟩:=hmem;have hLi:listed.getD i false=false:=by
   rw [xan] at hun ⊢;have hlt:i<listed.size:=by omega
   rw [xb5 hlt] at hun ⊢;simpa using hun
  have ho:all[i]?=some all[i]:=xag hin;have hd:∀ e∈all[i].after.toList,Region.binds .any e=true->listed.getD e.on false=true:=by
   intro e he hbe;simp only [xa1,ho,xbl,xb8] at hdep;have:=(xc9.1 hdep) e (by simpa using he);simpa [hbe] using this
  have hir:i<res.length:=by omega
  have hre:res[i]?=some res[i]:=xag hir;generalize res[i]=p at hre;obtain ⟨R,e⟩:=p;have hv:=hr.at_ hre;rw [xbr] at hv;have hkey:∀ {j:Nat} {R':List Key} {e':DE},res[j]?=some (R',e')->(keysOf res)[j]?=some (R',DE.writes e'):=fun h=>by simp [keysOf,h]
  have hag:Agree R (stOf (fun m=>decide (m<i)) 0 res s0) (stOf (fun j=>listed.getD j false) 0 res s0):=by
   intro κ hκ;refine zmn res 0 s0 s0 (same.refl _ _) fun j R' e' hj hw=>?_;rw [xbr]
   rcases xd2 j i with hlt | heq | hgt
   ·have hc:clash (R',e'.writes) (R,e.writes)=true:=by simp [clash,hits_of hw hκ]
    have:=indepB_at hi (hkey hj) (hkey hre) hlt hc;rw [xbr,xbr] at this;have:=anc_ready hC ho hd this;simp only [this,hlt,decide_true]
   ·subst heq; simp only [hLi,Nat.lt_irrefl,xe5]
   ·have hc:clash (R,e.writes) (R',e'.writes)=true:=by simp [clash,hits_of hw hκ]
    have:=indepB_at hi (hkey hre) (hkey hj) hgt hc;rw [xbr,xbr] at this;have h2:listed.getD j false=false:=by
     cases hLj:listed.getD j false with
     | false=>rfl
     | true=>have:=anc_listed hC _ _ _ this hLj; rw [hLi] at this; cases this
    rw [h2];simp; omega
  refine hv _ hag a w hH _ Q fun a' w' hH'=>?_;have hset:∀ j,(listed.setIfInBounds i true).getD j false=(listed.getD j false||decide (j=i)):=by
   intro j;simp only [xan];by_cases hji:j=i
   ·subst hji;rw [xb4 (by omega)]; simp
   ·rw [xch (fun e=>hji e.symm)]; simp [hji]
  refine ih _ a' w' (by simpa using hsz) ?_ ?_ ?_
  ·intro j o e' hj hLj he hbe;simp only [hset,xa0,xav] at hLj ⊢
   rcases hLj with h | h
   ·exact .inl (hC j o e' hj h he hbe)
   ·subst h;rw [ho] at hj; cases hj;exact .inl (hd e' he hbe)
  ·have hcnt:(List.range all.length).countP (fun j=>!listed.getD j false)=(List.range all.length).countP (fun j=>!(listed.setIfInBounds i true).getD j false)+1:=by
    have:∀ (l:List Nat),l.Nodup->l.countP (fun j=>!listed.getD j false)=l.countP (fun j=>!(listed.setIfInBounds i true).getD j false)+(if i∈l then 1 else 0):=by
     intro l
     induction l with
     | nil=>intro _; simp
     | cons x l ih=>
      intro hn;have hn':=List.nodup_cons.1 hn;have ih:=ih hn'.2;simp only [List.countP_cons,ih,hset];by_cases hx:x=i
      ·subst hx;have:x∉l:=hn'.1;simp [this,hLi]
      ·have:i∈x::l↔i∈l:=by simp [Ne.symm hx]
       simp only [this,hx,xe5,xdn];omega
    rw [this _ List.nodup_range,xad (by simpa using hin)]
   omega
  ·refine hH'.eq fun κ=>?_;have hins:=stOf_insert (L:=fun j=>listed.getD j false) (κ:=κ) res 0 i s0 hre (by rw [xbr]; exact hLi) (fun hκ j R' e' hj hlt hw=>by
    rw [xbr];have hc:clash (R,e.writes) (R',e'.writes)=true:=by simp [clash,hits_of hκ hw]
    have:=indepB_at hi (hkey hre) (hkey hj) hlt hc;rw [xbr,xbr] at this;cases hLj:listed.getD j false with
    | false=>rfl
    | true=>have:=anc_listed hC _ _ _ this hLj; rw [hLi] at this; cases this)
   rw [xbr] at hins;have e1:(fun j=>(listed.setIfInBounds i true).getD j false)=fun j=>listed.getD j false||decide (j=i):=funext hset
   rw [e1];exact hins.symm
theorem H.drew {g:Gh}{N:Nat}{s:S}{a:Act}{w:World}(h:H g N s a w):H g N s a { w with drawn:=w.drawn+1 }:=by
 obtain ⟨hd,M,E,hs,hp⟩:=h;have hM:∀ b j v,M b j=some v->M b j=some v:=fun _ _ _ h=>h;refine ⟨hd,M,E,{ hs with
  rw:=fun i r hi=>?_
  ar:=fun i r hi=>?_ },hp⟩
 ·obtain ⟨q,h1,h2⟩:=hs.rw i r hi;exact ⟨q,h1,h2.mono hM (Env.le_refl E) (fun b h=>⟨h,rfl⟩) fun b j h=>⟨h,rfl⟩⟩
 ·obtain ⟨q,h1,h2⟩:=hs.ar i r hi;exact ⟨q,h1,h2.mono hM (Env.le_refl E) (fun b j h=>⟨h,rfl⟩) fun b j h=>⟨h,rfl⟩⟩
theorem draw_region {all:List Oper}{id:Nat}{res:List (List Key×DE)}{s2:S}(hm:C.P.follows .mixedOrders=true)(hr:DRun C all 0 s res s2)(hl:res.length=all.length)(hi:indepB all 0 (keysOf res)=true)(hb:backB 0 all=true)
  (h:Wk C k s2):Wk C (.code (.region id all.toArray true)::k) s:=by
 intro a w hx;refine wp_region_any hm ?_;have hz:∀ j,(Array.replicate all.length false).getD j false=false:=by
  intro j;simp only [xan,Array.getElem?_replicate];split <;> rfl
 refine draw_any hr hl hi hb _ (fun a w hH=>h a w hH) _ _ a _ (by simp) ?_ ?_ ?_
 ·intro j o e _ hL;simp only [xaz] at hL;rw [hz] at hL; cases hL
 ·simp only [xaz,hz];simp
 ·have e1:(fun j=>(Array.replicate all.toArray.size false).getD j false)=fun _=>false:=funext fun j=>by simp only [xaz]; exact hz j
  rw [e1];have z:∀ (l:List (List Key×DE)) (k:Nat) (s:S),stOf (fun _=>false) k l s=s:=by
   intro l
   induction l with
   | nil=>intro k s; rfl
   | cons p l ih=>intro k s; obtain ⟨_,_⟩:=p; simp [stOf,ih]
  rw [z];exact hx.drew
end Go.Dm
namespace Go.Dm
open Go Go.RowKit
variable {C:Cx}{k:List It}{s s' t:S}{τ:zbn}
def zot:List Operand->List Key
 | []=>[]
 | .tmp i::l=>(0,i)::zot l
 | _::l=>zot l
def za7:Op->List Operand
 | .pick c a b=>[c,a,b]
 | op=>zbd op
def gdKeys (all:List Oper)(gd:Option (Nat×Bool)):List Key:=match gd with
 | none=>[]
 | some (j,_)=>match guardSlot all j with
  | some d=>[(0,d)]
  | none=>[]
theorem val_agree {l:List Operand}(h:Agree (zot l) s s'):∀ x∈l,val s x=val s' x:=by
 induction l with
 | nil=>intro x hx; cases hx
 | cons y l ih=>
  intro x hx;have h2:Agree (zot l) s s':=h.sub fun κ hκ=>by cases y <;> simp [zot,hκ]
  rcases xaq.1 hx with rfl | hx
  ·cases x with
   | tmp i=>exact (h (0,i) (by simp [zot])).1 rfl
   | _=>rfl
  ·exact ih h2 x hx
theorem valW_ag {x:Operand}(h:val s x=val s' x):zhy s x=zhy s' x:=by unfold zhy; rw [h]
theorem whenOf_ag {A:List (Nat×Bool)}{x:Operand}(h:val s x=val s' x):whenOf A s x=whenOf A s' x:=by unfold whenOf; rw [h]
theorem vals_ag:∀ {l:List Operand},(∀ x∈l,val s x=val s' x)->vals s l=vals s' l
 | [],_=>rfl
 | x::l,h=>by
  simp only [vals];rw [valW_ag (h x (by simp)),vals_ag fun y hy=>h y (by simp [hy])]
theorem obs_ag {A:List (Nat×Bool)}:∀ {l:List Operand},(∀ x∈l,val s x=val s' x)->obs A s l=obs A s' l
 | [],_=>rfl
 | x::l,h=>by
  simp only [obs];rw [whenOf_ag (h x (by simp)),obs_ag fun y hy=>h y (by simp [hy])]
theorem bound_ag {o:Option Operand}(h:∀ x,o=some x->val s x=val s' x):zg6 s o=zg6 s' o:=by
 cases o with
 | none=>rfl
 | some x=>simp only [zg6]; rw [valW_ag (h x rfl)]
theorem fill_ag {st:TypeId}:∀ {l:List (Nat×Operand)} {cs:List AV},(∀ p∈l,val s p.2=val s' p.2)->fill τ s st cs l=fill τ s' st cs l
 | [],cs,_=>rfl
 | (f,x)::l,cs,h=>by
  have e:zhy s x=zhy s' x:=valW_ag (h (f,x) (by simp));have ih:∀ cs',fill τ s st cs' l=fill τ s' st cs' l:=fun cs'=>fill_ag fun p hp=>h p (by simp [hp]);simp only [fill,e,ih]
theorem fillA_ag {sz:Nat}:∀ {l:List (Nat×Operand)} {cs:List AV},(∀ p∈l,val s p.2=val s' p.2)->fillA s sz cs l=fillA s' sz cs l
 | [],cs,_=>rfl
 | (f,x)::l,cs,h=>by
  have e:zhy s x=zhy s' x:=valW_ag (h (f,x) (by simp));have ih:∀ cs',fillA s sz cs' l=fillA s' sz cs' l:=fun cs'=>fillA_ag fun p hp=>h p (by simp [hp]);simp only [fillA,e,ih]
theorem load_ag {an:List An}{t:TypeId}{v:AV}{r:Res}(h:evalLoad τ s an t v=some r)(ha:Agree r.rd s s'):evalLoad τ s' an t v=some r:=by
 unfold evalLoad at h ⊢;split at h
 ·rename_i i o;split at h
  ·rename_i ti hti;split at h
   ·rename_i cs hcs;split at h
    ·rename_i x hx;cases h;have:zan s'.bx i=some cs:=by rw [<- (ha (1,i) (by simp)).2.1 rfl]; exact hcs
     simp only [hti,this,hx]
    ·cases h
   ·cases h
  ·cases h
 ·exact h
 ·cases h
theorem store_ag {an:List An}{t:TypeId}{v u:AV}{r:Res}(h:zm0 τ s an t v u=some r)(ha:Agree r.rd s s'):zm0 τ s' an t v u=some r:=by
 unfold zm0 at h ⊢;split at h
 ·rename_i i o;split at h
  ·rename_i ti hti;split at h
   ·rename_i cs hcs;split at h
    ·rename_i h1;split at h
     ·rename_i h2;split at h
      ·rename_i cs' h3;cases h;have:zan s'.bx i=some cs:=by rw [<- (ha (1,i) (by simp)).2.1 rfl]; exact hcs
       simp only [hti,this,h1,h2,h3]
      ·cases h
     ·cases h
    ·cases h
   ·cases h
  ·cases h
 ·cases h
theorem box_ag {d:Option Nat}{an:List An}{cs:List AV}{r:Res}(h:zno d s an cs=some r)(ha:Agree r.rd s s'):zno d s' an cs=some r:=by
 unfold zno at h ⊢;split at h
 ·rename_i i;split at h
  ·rename_i hn;split at h
   ·rename_i hc;cases h;have:zan s'.bx i=none:=by rw [<- (ha (1,i) (by simp)).2.1 rfl]; exact hn
    simp only [this,hc]
   ·cases h
  ·cases h
 ·cases h
theorem zdm {i v:Nat}(h:same (2,i) s s'):ze8 s' i v=ze8 s i v:=by unfold ze8; rw [h.2.2.1 rfl]
theorem row_ag {i:Nat}(h:same (2,i) s s'):zan s'.rw i=zan s.rw i:=(h.2.2.1 rfl).symm
theorem zlo (a b:List (Nat×Rw)):zi5 (a++b)=zi5 a++zi5 b:=by
 induction a with
 | nil=>rfl
 | cons p a ih=>obtain ⟨j,x⟩:=p; simp only [xbn,zi5,ih]
theorem sealC_ag {x y:AV}{e:List (Nat×Rw)}(h:sealC s x=some (y,e))(ha:Agree (zi5 e) s s'):sealC s' x=some (y,e):=by
 cases x with
 | row i v=>
  simp only [sealC] at h ⊢;split at h
  ·rename_i r hr;split at h
   ·rename_i hp;cases h;rw [zdm (ha (2,i) (by simp [zi5])),hr];simp only [hp]
   ·cases h
  ·cases h
 | _=>exact h
theorem sealL_ag:∀ {x y:List AV} {e:List (Nat×Rw)},sealL s x=some (y,e)->Agree (zi5 e) s s'->sealL s' x=some (y,e)
 | [],y,e,h,_=>h
 | x::l,y,e,h,ha=>by
  simp only [sealL] at h ⊢;split at h
  ·rename_i y1 e1 h1;split at h
   ·rename_i m f h2;cases h;rw [zlo] at ha;rw [sealC_ag h1 (ha.sub fun κ hκ=>by simp [hκ])];simp only [sealL_ag h2 (ha.sub fun κ hκ=>by simp [hκ])]
   ·cases h
  ·cases h
theorem sealA_ag {x y:AV}{e:List (Nat×Rw)}(h:sealA s x=some (y,e))(ha:Agree (zi5 e) s s'):sealA s' x=some (y,e):=by
 cases x with
 | agg cs=>
  simp only [sealA] at h ⊢;split at h
  ·rename_i ds e1 h1;cases h;simp only [sealL_ag h1 ha]
  ·cases h
 | row i v=>exact sealC_ag (x:=.row i v) h ha
 | _=>exact h
theorem sealAL_ag:∀ {x y:List AV} {e:List (Nat×Rw)},sealAL s x=some (y,e)->Agree (zi5 e) s s'->sealAL s' x=some (y,e)
 | [],y,e,h,_=>h
 | x::l,y,e,h,ha=>by
  simp only [sealAL] at h ⊢;split at h
  ·rename_i y1 e1 h1;split at h
   ·rename_i m f h2;cases h;rw [zlo] at ha;rw [sealA_ag h1 (ha.sub fun κ hκ=>by simp [hκ])];simp only [sealAL_ag h2 (ha.sub fun κ hκ=>by simp [hκ])]
   ·cases h
  ·cases h
theorem sealCx_ag {R:List Nat}{x y:AV}{e:List (Nat×Rw)}(h:sealCx R s x=some (y,e))(ha:Agree (zi5 e) s s'):sealCx R s' x=some (y,e):=by
 cases x with
 | row i v=>
  simp only [sealCx] at h ⊢;split at h
  ·exact h
  ·exact sealC_ag h ha
 | _=>exact h
theorem sealLx_ag {R:List Nat}:∀ {x y:List AV} {e:List (Nat×Rw)},sealLx R s x=some (y,e)->Agree (zi5 e) s s'->sealLx R s' x=some (y,e)
 | [],y,e,h,_=>h
 | x::l,y,e,h,ha=>by
  simp only [sealLx] at h ⊢;split at h
  ·rename_i y1 e1 h1;split at h
   ·rename_i m f h2;cases h;rw [zlo] at ha;rw [sealCx_ag h1 (ha.sub fun κ hκ=>by simp [hκ])];simp only [sealLx_ag h2 (ha.sub fun κ hκ=>by simp [hκ])]
   ·cases h
  ·cases h
theorem sealAx_ag {R:List Nat}{x y:AV}{e:List (Nat×Rw)}(h:sealAx R s x=some (y,e))(ha:Agree (zi5 e) s s'):sealAx R s' x=some (y,e):=by
 cases x with
 | agg cs=>
  simp only [sealAx] at h ⊢;split at h
  ·rename_i ds e1 h1;cases h;simp only [sealLx_ag h1 ha]
  ·cases h
 | row i v=>exact sealCx_ag (x:=.row i v) h ha
 | _=>exact h
theorem sealALx_ag {R:List Nat}:∀ {x y:List AV} {e:List (Nat×Rw)},zj0 R s x=some (y,e)->Agree (zi5 e) s s'->zj0 R s' x=some (y,e)
 | [],y,e,h,_=>h
 | x::l,y,e,h,ha=>by
  simp only [zj0] at h ⊢;split at h
  ·rename_i y1 e1 h1;split at h
   ·rename_i m f h2;cases h;rw [zlo] at ha;rw [sealAx_ag h1 (ha.sub fun κ hκ=>by simp [hκ])];simp only [sealALx_ag h2 (ha.sub fun κ hκ=>by simp [hκ])]
   ·cases h
  ·cases h
theorem len_ag {an:List An}{tk:TK}{v:AV}{r:Res}(h:evalLen s an tk v=some r)(ha:Agree r.rd s s'):evalLen s' an tk v=some r:=by
 unfold evalLen at h ⊢;split at h
 ·exact h
 ·exact h
 ·exact h
 ·rename_i e i v;split at h
  ·rename_i q hq;split at h
   ·cases h;simp only [zdm (ha (2,i) (by simp)),hq]
   ·cases h
  ·cases h
 ·rename_i e i v o n;split at h
  ·rename_i q hq;cases h;simp only [zdm (ha (2,i) (by simp)),hq]
  ·cases h
 ·rename_i k e i;split at h
  ·rename_i es hes;split at h
   ·cases h;simp only [<- (ha (3,i) (by simp)).2.2.2.1 rfl,hes]
   ·cases h
  ·cases h
 ·cases h
theorem indexAddr_ag {an:List An}{t:TypeId}{v u:AV}{r:Res}(h:zgp τ s an t v u=some r)(ha:Agree r.rd s s'):zgp τ s' an t v u=some r:=by
 unfold zgp at h ⊢;split at h
 ·exact h
 ·rename_i i v kk n;split at h
  ·rename_i z hz;split at h
   ·rename_i q hq;split at h
    ·rename_i h1;cases h;simp only [hz,zdm (ha (2,i) (by simp)),hq,h1]
    ·cases h
   ·cases h
  ·cases h
 ·rename_i i v off m kk n;split at h
  ·rename_i z hz;split at h
   ·rename_i q hq;split at h
    ·rename_i h1;cases h;simp only [hz,zdm (ha (2,i) (by simp)),hq,h1]
    ·cases h
   ·cases h
  ·cases h
 ·exact h
 ·cases h
theorem loadEp_ag {an:List An}{t:TypeId}{i v k o:Nat}{r:Res}(h:ziw τ s an t i v k o=some r)(ha:Agree r.rd s s'):ziw τ s' an t i v k o=some r:=by
 have hk:(2,i)∈r.rd:=by
  unfold ziw at h
  repeat' split at h
  all_goals first | (cases h; done) | (cases h; simp)
 unfold ziw at h ⊢;rw [zdm (ha _ hk)];exact h
theorem sealR_ag {t:TypeId}{an:List An}{x y:AV}{e:List (Nat×Rw)}(h:sealR τ t an s x=some (y,e))(ha:Agree (zi5 e) s s'):sealR τ t an s' x=some (y,e):=by
 unfold sealR at h ⊢;split at h
 ·exact h
 ·exact sealA_ag h ha
theorem storeEp_ag {an:List An}{t:TypeId}{x:AV}{i v k o:Nat}{r:Res}(h:zhm τ s an t x i v k o=some r)(ha:Agree r.rd s s'):zhm τ s' an t x i v k o=some r:=by
 have hk:(2,i)∈r.rd/\∃ y e,sealR τ t an s x=some (y,e)/\∀ κ∈zi5 e,κ∈r.rd:=by
  unfold zhm at h;split at h
  ·split at h
   ·split at h
    ·rename_i y e hse
     repeat' split at h
     all_goals first | (cases h; done) | (cases h; exact ⟨by simp,y,e,hse,fun κ hκ=>by simp [hκ]⟩)
    ·cases h
   ·cases h
  ·cases h
 obtain ⟨h1,y,e,h2,h3⟩:=hk;unfold zhm at h ⊢;rw [zdm (ha _ h1),sealR_ag h2 (ha.sub h3)];rw [h2] at h;exact h
theorem loadAr_ag {an:List An}{t:TypeId}{A k o:Nat}{r:Res}(h:zkq τ s an t A k o=some r)(ha:Agree r.rd s s'):zkq τ s' an t A k o=some r:=by
 unfold zkq at h;cases h
theorem storeAr_ag {an:List An}{t:TypeId}{x:AV}{A k o:Nat}{r:Res}(h:zi0 τ s an t x A k o=some r)(ha:Agree r.rd s s'):zi0 τ s' an t x A k o=some r:=by
 unfold zi0 at h;cases h
theorem boxAr_ag {d:Option Nat}{an:List An}{t:TypeId}{x:AV}{A n:Nat}{l:List Nat}{zs:List AV}{r:Res}(h:zmy τ d s t A n l zs an x=some r)(ha:Agree r.rd s s'):zmy τ d s' t A n l zs an x=some r:=by
 unfold zmy at h;cases h
theorem sliceRow_ag {an:List An}{t:TypeId}{lo hi:Option Int}{i v:Nat}{r:Res}(h:zgc τ s an t lo hi i v=some r)(ha:Agree r.rd s s'):zgc τ s' an t lo hi i v=some r:=by
 have hk:(2,i)∈r.rd:=by
  unfold zgc at h
  repeat' split at h
  all_goals first | (cases h; done) | (cases h; simp)
 unfold zgc at h ⊢;rw [zdm (ha _ hk)];exact h
theorem sliceV_ag {an:List An}{t:TypeId}{lo hi:Option Int}{i v off m:Nat}{r:Res}(h:zkr τ s an t lo hi i v off m=some r)(ha:Agree r.rd s s'):zkr τ s' an t lo hi i v off m=some r:=by
 unfold zkr at h;cases h
theorem slice3_ag {an:List An}{a b m:Int}{x:AV}{r:Res}(h:zkx s an a b m x=some r)(ha:Agree r.rd s s'):zkx s' an a b m x=some r:=by
 unfold zkx at h;cases h
theorem strRow_ag {an:List An}{src dst:TypeId}{i v:Nat}{r:Res}(h:zkt τ s an src dst i v=some r)(ha:Agree r.rd s s'):zkt τ s' an src dst i v=some r:=by
 unfold zkt at h;cases h
theorem clear_ag {an:List An}{t:TypeId}{i v off n:Nat}{r:Res}(h:zld τ s an t i v off n=some r)(ha:Agree r.rd s s'):zld τ s' an t i v off n=some r:=by
 have hk:(2,i)∈r.rd:=by
  unfold zld at h
  repeat' split at h
  all_goals first | (cases h; done) | (cases h; simp)
 unfold zld at h ⊢;rw [zdm (ha _ hk)];exact h
theorem nilRow_ag {an:List An}{t:TypeId}{i v:Nat}{u:AV}{op:BinOp}{r:Res}(h:zk1 τ s an t i v u op=some r)(ha:Agree r.rd s s'):zk1 τ s' an t i v u op=some r:=by
 unfold zk1 at h;cases h
theorem aptr_ag {an:List An}{t:TypeId}{A k o B j p:Nat}{op:BinOp}{r:Res}(h:evalAptr τ s an t A k o B j p op=some r)(ha:Agree r.rd s s'):evalAptr τ s' an t A k o B j p op=some r:=by
 unfold evalAptr at h;cases h
theorem srcOf_ag {sz:Nat}{u8:Bool}{x:AV}{q:List AV×List Prop×List Key}(h:srcOf s sz u8 x=some q)(ha:Agree q.2.2 s s'):srcOf s' sz u8 x=some q:=by
 unfold srcOf at h ⊢;split at h
 ·exact h
 ·exact h
 ·exact h
 ·rename_i j v;have hk:(2,j)∈q.2.2:=by
   repeat' split at h
   all_goals first | (cases h; done) | (cases h; simp)
  simp only [zdm (ha _ hk)];exact h
 ·rename_i j v off n;have hk:(2,j)∈q.2.2:=by
   repeat' split at h
   all_goals first | (cases h; done) | (cases h; simp)
  simp only [zdm (ha _ hk)];exact h
 ·cases h
theorem srcA_ag {sz:Nat}{ns:List Nat}{x:AV}{q:List AV×List Prop×List Key}(h:srcA s sz ns x=some q)(ha:Agree q.2.2 s s'):srcA s' sz ns x=some q:=by
 unfold srcA at h ⊢;split at h
 ·rename_i j v;have hk:(2,j)∈q.2.2:=by
   repeat' split at h
   all_goals first | (cases h; done) | (cases h; simp)
  simp only [zdm (ha _ hk)];exact h
 ·rename_i j v off n;have hk:(2,j)∈q.2.2:=by
   repeat' split at h
   all_goals first | (cases h; done) | (cases h; simp)
  simp only [zdm (ha _ hk)];exact h
 ·cases h
theorem srcX_ag {sz:Nat}{x:AV}{q:List AV×List Prop×List Key}(h:srcX s sz x=some q)(ha:Agree q.2.2 s s'):srcX s' sz x=some q:=by
 unfold srcX at h ⊢;split at h
 ·rename_i j v;have hk:(2,j)∈q.2.2:=by
   repeat' split at h
   all_goals first | (cases h; done) | (cases h; simp)
  simp only [zdm (ha _ hk)];exact h
 ·cases h
theorem srcOf_noneX {sz:Nat}{u8:Bool}{x:AV}{q:List AV×List Prop×List Key}(h:srcOf s sz u8 x=none)(hq:srcX s sz x=some q)(ha:Agree q.2.2 s s'):srcOf s' sz u8 x=none:=by
 unfold srcX at hq;split at hq
 ·rename_i j v;have hk:(2,j)∈q.2.2:=by
   repeat' split at hq
   all_goals first | (cases hq; done) | (cases hq; simp)
  unfold srcOf at h ⊢;simp only [zdm (ha _ hk)];exact h
 ·cases hq
theorem srcOf_none {sz:Nat}{u8:Bool}{pu:Nat}{ns:List Nat}{x:AV}{q:List AV×List Prop×List Key}(h:srcOf s sz u8 x=none)(hq:srcA s sz ns x=some q)(ha:Agree q.2.2 s s'):srcOf s' sz u8 x=none:=by
 unfold srcA at hq;split at hq
 ·rename_i j v;have hk:(2,j)∈q.2.2:=by
   repeat' split at hq
   all_goals first | (cases hq; done) | (cases hq; simp)
  unfold srcOf at h ⊢;simp only [zdm (ha _ hk)];exact h
 ·rename_i j v off n;have hk:(2,j)∈q.2.2:=by
   repeat' split at hq
   all_goals first | (cases hq; done) | (cases hq; simp)
  unfold srcOf at h ⊢;simp only [zdm (ha _ hk)];exact h
 ·cases hq
theorem srcAny_ag {sz:Nat}{u8:Bool}{pu:Nat}{ns:List Nat}{x:AV}{q:List AV×List Prop×List Key}(h:srcAny s sz u8 pu ns x=some q)(ha:Agree q.2.2 s s'):srcAny s' sz u8 pu ns x=some q:=by
 unfold srcAny at h ⊢;split at h
 ·rename_i q' hq;cases h;rw [srcOf_ag hq ha]
 ·rename_i hn;split at h
  ·cases h
  ·split at h
   ·rw [srcOf_noneX (u8:=u8) hn h ha];exact srcX_ag h ha
   ·rw [srcOf_none (pu:=1) (u8:=u8) hn h ha];exact srcA_ag h ha
theorem appendTo_ag {an:List An}{bytes i:Nat}{row:Rw}{full:Bool}{n0:Nat}{u8:Bool}{x2:AV}{rd:List Key}{r:Res}(h:appendTo s an bytes i row full n0 u8 x2 rd=some r)(ha:Agree r.rd s s') :
  appendTo s' an bytes i row full n0 u8 x2 rd=some r/\(2,i)∈r.rd:=by
 unfold appendTo at h ⊢;split at h
 ·rename_i ys gs ks hsrc;split at h
  ·rename_i zs an';split at h
   ·rename_i h1;split at h
    ·rename_i h2;cases h;rw [srcAny_ag hsrc (ha.sub fun κ hκ=>by simp at hκ ⊢; exact .inr (.inl hκ))];exact ⟨by simp only [h1,h2],by simp⟩
    ·cases h
   ·cases h
  ·cases h
 ·cases h
theorem append_ag {an:List An}{d:Option Nat}{t t2:TypeId}{x1 x2:AV}{r:Res}(h:zk0 τ s an d t t2 x1 x2=some r)(ha:Agree r.rd s s'):zk0 τ s' an d t t2 x1 x2=some r:=by
 unfold zk0 at h ⊢;split at h
 ·rename_i e x y z u hτ
  try simp only [hτ]
  split at h
  ·rename_i ie hie
   try simp only [hie]
   split at h
   ·rename_i hb
    try simp only [hb]
    split at h
    ·rename_i i v;split at h
     ·rename_i row hrow;split at h
      ·rename_i h1;split at h
       ·rename_i h2;obtain ⟨g1,g2⟩:=appendTo_ag h ha;simp only [zdm (ha _ g2),hrow,h1,h2,g1]
       ·cases h
      ·cases h
     ·cases h
    ·rename_i i v n;split at h
     ·rename_i row hrow;split at h
      ·rename_i h1;split at h
       ·rename_i h2;split at h
        ·rename_i h3;obtain ⟨g1,g2⟩:=appendTo_ag h ha;simp only [zdm (ha _ g2),hrow,h1,h2,h3,g1]
        ·cases h
       ·cases h
      ·cases h
     ·cases h
    ·split at h
     ·rename_i i;split at h
      ·rename_i hn;split at h
       ·rename_i hlt;obtain ⟨g1,g2⟩:=appendTo_ag h ha;simp only [row_ag (ha _ g2),hn,hlt,g1]
       ·cases h
      ·cases h
     ·cases h
    ·cases h
   ·cases h
  ·cases h
 ·cases h
theorem sealB_ag {e:TypeId}{an:List An}{xs ys:List AV}{ef:List (Nat×Rw)}(h:sealB τ e an s xs=some (ys,ef))(ha:Agree (zi5 ef) s s'):sealB τ e an s' xs=some (ys,ef):=by
 unfold sealB at h ⊢;split at h
 ·exact h
 ·exact sealAL_ag h ha
theorem buildSlice_ag {an:List An}{d:Option Nat}{t:TypeId}{len:Nat}{parts:List (Nat×Operand)}{r:Res}(h:zf1 τ s an d t len parts=some r)(hv:∀ l,zj6 0 parts=some l->vals s' l=vals s l)(ha:Agree r.rd s s'):zf1 τ s' an d t len parts=some r:=by
 unfold zf1 at h ⊢;split at h
 ·rename_i e x y z u hτ
  try simp only [hτ]
  split at h
  ·rename_i ie hie
   try simp only [hie]
   split at h
   ·rename_i ops hops;have hvv:=hv ops hops
    try simp only [hops]
    split at h
    ·rename_i h1
     try simp only [h1]
     split at h
     ·rename_i h2
      try simp only [h2]
      split at h
      ·rename_i vs hvs;simp only [hvv,hvs];split at h
       ·rename_i ws ef hse;have hk:(∀ κ∈zi5 ef,κ∈r.rd)/\((∀ l,an = .sealed::l->False)->∀ i,d=some i->(2,i)∈r.rd):=by
         clear ha hvv hv
         repeat' split at h
         all_goals first | (cases h; done) | (cases h; exact ⟨fun κ hκ=>by simp [hκ],fun hne i hi=>by first | (exact (hne _ rfl).elim) | (cases hi; simp; done) | simp_all⟩)
        simp only [sealB_ag hse (ha.sub hk.1)];split at h
        ·rename_i h3
         try simp only [h3]
         split at h
         ·rename_i h4
          try simp only [h4]
          split at h
          ·exact h
          ·rename_i an';cases d with
           | none=>exact h
           | some i=>
            have:(2,i)∈r.rd:=hk.2 (fun l e=>by cases e) i rfl;simp only [row_ag (ha _ this)];exact h
          ·rename_i an' hna _;cases d with
           | none=>exact h
           | some i=>
            have:(2,i)∈r.rd:=hk.2 (fun l e=>hna l e) i rfl;simp only [row_ag (ha _ this)];exact h
         ·cases h
        ·cases h
       ·cases h
      ·cases h
     ·cases h
    ·cases h
   ·cases h
  ·cases h
 ·cases h
theorem makeSlice_ag {an:List An}{d:Option Nat}{t:TypeId}{n c:Int}{r:Res}(h:zgv τ s an d t n c=some r)(ha:Agree r.rd s s'):zgv τ s' an d t n c=some r:=by
 unfold zgv at h ⊢;split at h
 ·rename_i e x y z u hτ
  try simp only [hτ]
  split at h
  ·rename_i ie hie
   try simp only [hie]
   split at h
   ·rename_i z' hz
    try simp only [hz]
    cases d with
    | none=>exact h
    | some i=>
     have:(2,i)∈r.rd:=by
      repeat' split at h
      all_goals first | (cases h; done) | (cases h; simp_all)
     simp only [row_ag (ha _ this)];exact h
   ·cases h
  ·cases h
 ·cases h
theorem appZ_ag {an:List An}{d:Option Nat}{t:TypeId}{x1 x2:AV}{r:Res}(h:evalAppZ τ s an d t x1 x2=some r)(ha:Agree r.rd s s'):evalAppZ τ s' an d t x1 x2=some r:=by
 unfold evalAppZ at h ⊢;split at h
 ·split at h
  ·split at h
   ·rename_i e x y z u hτ
    try simp only [hτ]
    split at h
    ·rename_i ie hie
     try simp only [hie]
     split at h
     ·rename_i z' hz
      try simp only [hz]
      cases d with
      | none=>exact h
      | some i=>
       have:(2,i)∈r.rd:=by
        repeat' split at h
        all_goals first | (cases h; done) | (cases h; simp_all)
       simp only [row_ag (ha _ this)];exact h
     ·cases h
    ·cases h
   ·cases h
  ·cases h
 ·cases h
theorem app2_ag {an:List An}{d:Option Nat}{t t2:TypeId}{x1 x2:AV}{r:Res}(h:evalApp2 τ s an d t t2 x1 x2=some r)(ha:Agree r.rd s s'):evalApp2 τ s' an d t t2 x1 x2=some r:=by
 unfold evalApp2 at h ⊢;cases hb:isI64T τ t2 with
 | true=>
  rw [hb] at h;exact appZ_ag h ha
 | false=>
  rw [hb] at h;exact append_ag h ha
theorem makeMap_ag {an:List An}{d:Option Nat}{t:TypeId}{r:Res}(h:zix τ s an d t=some r)(ha:Agree r.rd s s'):zix τ s' an d t=some r:=by
 unfold zix at h;cases h
theorem lookup_ag {an:List An}{t:TypeId}{ok:Bool}{x key:AV}{r:Res}(h:zks τ s an t ok x key=some r)(ha:Agree r.rd s s'):zks τ s' an t ok x key=some r:=by
 unfold zks at h;cases h
theorem mapUpdate_ag {an:List An}{d:Option Nat}{t:TypeId}{x key v:AV}{r:Res}(h:zgw τ s an d t x key v=some r)(ha:Agree r.rd s s'):zgw τ s' an d t x key v=some r:=by
 unfold zgw at h;cases h
end Go.Dm
namespace Go.Dm
open Go Go.RowKit
variable {C:Cx}{k:List It}{s s' t:S}{τ:zbn}
theorem evalOp_agree {A:List (Nat×Bool)}{d:Option Nat}{an:List An}{op:Op}{r:Res}(h:zh0 τ A d s an op=some r)(hv:∀ x∈za7 op,val s x=val s' x)(ha:Agree r.rd s s'):zh0 τ A d s' an op=some r:=by
 have w:∀ x,x∈za7 op->zhy s' x=zhy s x:=fun x hx=>(valW_ag (hv x hx)).symm;cases op <;> simp only [zh0] at h ⊢ <;> try (cases h; done)
 case move x=>rw [w x (by simp [za7,zbd,Op.operands])]; exact h
 case assign x=>rw [w x (by simp [za7,zbd,Op.operands])]; exact h
 case pick c a b=>
  cases c with
  | tmp d=>
   simp only [zh0] at h ⊢;rw [w (.tmp d) (by simp [za7]),<- hv a (by simp [za7]),<- hv b (by simp [za7])]; exact h
  | _=>cases h
 case alloc t=>
  split at h
  ·rename_i ti hti; first | exact box_ag h ha | (simp only [hti]; exact box_ag h ha)
  ·cases h
 case box t x=>
  rw [w x (by simp [za7,zbd,Op.operands])];split at h
  ·rename_i v hv'
   try simp only [hv']
   split at h
   ·exact boxAr_ag h ha
   ·first | exact box_ag h ha | (split <;> first | exact absurd ‹_› (by assumption) | exact box_ag h ha)
  ·cases h
 case build t parts=>
  unfold evalBuild at h ⊢;have e:∀ z,fill τ s' t z parts.toList=fill τ s t z parts.toList:=fun z=>(fill_ag fun p hp=>hv p.2 (by simp [za7,zbd,Op.operands]; exact ⟨p.1,by simpa using hp⟩)).symm;have e2:∀ m z,fillA s' m z parts.toList=fillA s m z parts.toList:=fun m z=>(fillA_ag fun p hp=>hv p.2 (by simp [za7,zbd,Op.operands]; exact ⟨p.1,by simpa using hp⟩)).symm
  first | (simp only [e,e2]; exact h) | (simp only [e]; exact h) | exact h
 case load t a=>
  rw [w a (by simp [za7,zbd,Op.operands])];split at h
  ·rename_i v hv'
   try simp only [hv']
   split at h
   ·rename_i hu; try simp only [hu]
    exact loadEp_ag h ha
   ·rename_i hu; try simp only [hu]
    exact loadAr_ag h ha
   ·first | exact load_ag h ha | (split <;> first | exact absurd ‹_› (by assumption) | exact load_ag h ha)
  ·cases h
 case store t a x=>
  rw [w x (by simp [za7,zbd,Op.operands]),w a (by simp [za7,zbd,Op.operands])];split at h
  ·split at h
   ·rename_i v hv'
    try simp only [hv']
    split at h
    ·rename_i u hu
     try simp only [hu]
     split at h
     ·rename_i hu; try simp only [hu]
      exact storeEp_ag h ha
     ·rename_i hu; try simp only [hu]
      exact storeAr_ag h ha
     ·exact store_ag h ha
    ·cases h
   ·cases h
  ·cases h
 case nilCheck x=>rw [w x (by simp [za7,zbd,Op.operands])]; exact h
 case binOp op t x y t'=>
  rw [w x (by simp [za7,zbd,Op.operands]),w y (by simp [za7,zbd,Op.operands])];split at h
  ·split at h
   ·split at h
    ·exact nilRow_ag h ha
    ·exact h
    ·exact h
    ·split at h
     ·exact aptr_ag h ha
     ·exact h
    ·exact h
   ·cases h
  ·cases h
 case unOp op t x=>rw [w x (by simp [za7,zbd,Op.operands])]; exact h
 case convert src dst x=>
  rw [w x (by simp [za7,zbd,Op.operands])];split at h
  ·split at h
   ·exact strRow_ag h ha
   ·exact h
   ·exact h
   ·cases h
  ·cases h
 case fieldAddr t x f=>rw [w x (by simp [za7,zbd,Op.operands])]; exact h
 case field t x f=>rw [w x (by simp [za7,zbd,Op.operands])]; exact h
 case extract x i=>rw [w x (by simp [za7,zbd,Op.operands])]; exact h
 case makeFunc fn first caps=>
  cases fn with
  | func f=>
   simp only [zh0] at h ⊢;have e:vals s' caps.toList=vals s caps.toList:=(vals_ag fun x hx=>hv x (by simp [za7,zbd,Op.operands]; right; simpa using hx)).symm;rw [e]; exact h
  | _=>cases h
 case indexAddr t x i=>
  rw [w x (by simp [za7,zbd,Op.operands]),w i (by simp [za7,zbd,Op.operands])];split at h
  ·rename_i v hv';split at h
   ·rename_i u hu; first | exact indexAddr_ag h ha | (simp only [hv',hu]; exact indexAddr_ag h ha)
   ·cases h
  ·cases h
 case index t x i=>rw [w x (by simp [za7,zbd,Op.operands]),w i (by simp [za7,zbd,Op.operands])]; exact h
 case slice t x lo hi mx=>
  cases mx with
  | none=>
   simp only [zh0] at h ⊢;have e1:zg6 s' lo=zg6 s lo:=(bound_ag fun y hy=>hv y (by subst hy; simp [za7,zbd,Op.operands])).symm;have e2:zg6 s' hi=zg6 s hi:=(bound_ag fun y hy=>hv y (by subst hy; simp [za7,zbd,Op.operands])).symm;rw [w x (by simp [za7,zbd,Op.operands]),e1,e2];split at h
   ·split at h
    ·split at h
     ·split at h
      ·exact sliceRow_ag h ha
      ·exact sliceV_ag h ha
      ·exact h
     ·cases h
    ·cases h
   ·cases h
  | some m=>
   cases lo with
   | none=>cases h
   | some lo=>
    cases hi with
    | none=>cases h
    | some hi=>
     simp only [zh0] at h ⊢;have e1:zg6 s' (some lo)=zg6 s (some lo):=(bound_ag fun y hy=>hv y (by cases hy; simp [za7,zbd,Op.operands])).symm;have e2:zg6 s' (some hi)=zg6 s (some hi):=(bound_ag fun y hy=>hv y (by cases hy; simp [za7,zbd,Op.operands])).symm;have e3:zg6 s' (some m)=zg6 s (some m):=(bound_ag fun y hy=>hv y (by cases hy; simp [za7,zbd,Op.operands])).symm;rw [w x (by simp [za7,zbd,Op.operands]),e1,e2,e3];split at h
     ·split at h
      ·split at h
       ·split at h
        ·split at h
         ·exact slice3_ag h ha
         ·cases h
        ·cases h
       ·cases h
      ·cases h
     ·cases h
 case buildSlice t len parts=>
  refine buildSlice_ag h (fun l hl=>(vals_ag fun x hx=>hv x ?_).symm) ha;have:∀ (l:List (Nat×Operand)) (k:Nat) (m:List Operand),zj6 k l=some m->∀ x∈m,∃ p∈l,p.2=x:=by
   intro l
   induction l with
   | nil=>intro k m hm; simp only [zj6] at hm; cases hm; intro x hx; cases hx
   | cons p l ih=>
    obtain ⟨i,y⟩:=p;intro k m hm;simp only [zj6] at hm;split at hm
    ·split at hm
     ·rename_i r hr;cases hm;intro x hx
      rcases xaq.1 hx with rfl | hx
      ·exact ⟨(i,_),xbo ..,rfl⟩
      ·obtain ⟨p,hp,e⟩:=ih _ _ hr x hx;exact ⟨p,by simp [hp],e⟩
     ·cases hm
    ·cases hm
  obtain ⟨p,hp,rfl⟩:=this _ _ _ hl x hx;simp [za7,zbd,Op.operands]; exact ⟨p.1,by simpa using hp⟩
 case makeSlice t n c=>
  rw [w n (by simp [za7,zbd,Op.operands]),w c (by simp [za7,zbd,Op.operands])];split at h
  ·split at h
   ·exact makeSlice_ag h ha
   ·cases h
  ·cases h
 case makeMap t r=>
  cases r with
  | some h'=>cases h
  | none=>exact makeMap_ag h ha
 case lookup t x y ok=>
  rw [w x (by simp [za7,zbd,Op.operands]),w y (by simp [za7,zbd,Op.operands])];split at h
  ·split at h
   ·exact lookup_ag h ha
   ·cases h
  ·cases h
 case mapUpdate t m y x=>
  rw [w x (by simp [za7,zbd,Op.operands]),w y (by simp [za7,zbd,Op.operands]),w m (by simp [za7,zbd,Op.operands])];split at h
  ·split at h
   ·split at h
    ·exact mapUpdate_ag h ha
    ·cases h
   ·cases h
  ·cases h
 case call c=>
  have hvals:vals s' c.args.toList=vals s c.args.toList:=(vals_ag fun x hx=>hv x (by simp [za7,zbd]; right; simpa using hx)).symm;cases hb:c.callee with
  | builtin b=>
   simp only [hb] at h ⊢;cases b <;> simp only [evalBuiltin] at h ⊢ <;> try (cases h; done)
   case append=>
    split at h
    ·rename_i x y t u hx ht;have hxx:zhy s' x=zhy s x:=w x (by simp [za7,zbd,hx]);have hyy:zhy s' y=zhy s y:=w y (by simp [za7,zbd,hx]);split at h
     ·rename_i v hv';split at h
      ·rename_i u hu;simp only [hxx,hv',hyy,hu];exact app2_ag h ha
      ·cases h
     ·cases h
    ·cases h
   case clear=>
    split at h
    ·rename_i x t hx ht;have hxx:zhy s' x=zhy s x:=w x (by simp [za7,zbd,hx]);split at h
     ·rename_i i v off n hv';simp only [hxx,hv'];exact clear_ag h ha
     ·cases h
    ·cases h
   case len=>
    split at h
    ·rename_i x t hx ht;split at h
     ·rename_i ti hti;have hxx:zhy s' x=zhy s x:=w x (by simp [za7,zbd,hx]);split at h
      ·rename_i v hv';simp only [hxx,hv'];exact len_ag h ha
      ·cases h
     ·cases h
    ·cases h
   case cap=>
    split at h
    ·rename_i x t hx ht;split at h
     ·rename_i ti hti;have hxx:zhy s' x=zhy s x:=w x (by simp [za7,zbd,hx]);split at h
      ·rename_i v hv';simp only [hxx,hv'];exact h
      ·cases h
     ·cases h
    ·cases h
   case min=>rw [hvals]; exact h
   case max=>rw [hvals]; exact h
  | _=>simp only [hb] at h; cases h
theorem selF_ag {α:Type}:∀ {l:List Nat} {m m' r:List (Nat×α)},selF l m=some r->(∀ i v,zan r i=some v->zan m i=zan m' i)->selF l m'=some r
 | [],m,m',r,h,_=>h
 | i::l,m,m',r,h,ha=>by
  simp only [selF] at h ⊢;split at h
  ·rename_i v hv;split at h
   ·rename_i r' hr';cases h;have e:zan m' i=some v:=by rw [<- ha i v (by rw [zai,xad rfl])]; exact hv
    simp only [e];rw [selF_ag hr' fun j u hu=>?_];by_cases hj:j=i
    ·subst hj; exact ha j v (by rw [zai,xad rfl])
    ·exact ha j u (by rw [zai,xab hj]; exact hu)
   ·cases h
  ·cases h
theorem mem_okeys {α:Type}{c:Nat}:∀ {l:List (Nat×α)} {i:Nat} {v:α},zan l i=some v->(c,i)∈okeys c l
 | (j,x)::l,i,v,h=>by
  rw [zai] at h;simp only [okeys,xaq];split at h
  ·rename_i e; exact .inl (by rw [e])
  ·exact .inr (mem_okeys h)
theorem zms {α:Type}{c:Nat}:∀ {l:List (Nat×α)} {p:Nat×α},p∈l->(c,p.1)∈okeys c l
 | (j,x)::l,p,h=>by
  simp only [okeys,xaq]
  rcases xaq.1 h with e | h
  ·subst e; exact .inl rfl
  ·exact .inr (zms h)
theorem subS_ag {bs rs ms as:List Nat}{s0:S}(h:subS s bs rs ms as=some s0)(ha:Agree s0.keys s s'):subS s' bs rs ms as=some s0:=by
 unfold subS at h ⊢;split at h
 ·rename_i b hb;split at h
  ·rename_i r hr;split at h
   ·rename_i m hm;split at h
    ·rename_i a haa;cases h;rw [selF_ag hb fun i v hv=>(ha (1,i) (by simp only [S.keys,xax]; exact .inl (mem_okeys hv))).2.1 rfl,
      selF_ag hr fun i v hv=>(ha (2,i) (by simp only [S.keys,xax]; exact .inr (.inl (mem_okeys hv)))).2.2.1 rfl,
      selF_ag hm fun i v hv=>(ha (3,i) (by simp only [S.keys,xax]; exact .inr (.inr (.inl (mem_okeys hv))))).2.2.2.1 rfl,
      selF_ag haa fun i v hv=>(ha (4,i) (by simp only [S.keys,xax]; exact .inr (.inr (.inr (mem_okeys hv))))).2.2.2.2 rfl]
    ·cases h
   ·cases h
  ·cases h
 ·cases h
theorem zmv {α β γ:Type}{m:List (Nat×β)}{o o':List (Nat×γ)}:∀ {l:List (Nat×α)},(∀ p∈l,zam o p.1=zam o' p.1)->zk7 l m o'=zk7 l m o
 | [],_=>rfl
 | (i,x)::l,h=>by
  simp only [zk7];rw [zmv (l:=l) fun p hp=>h p (by simp [hp]),<- h (i,x) (by simp)]
theorem callE_agree {P:Program}{f:FuncId}{xs:List AV}{ro:Bool}{bs rs ms as:List Nat}{r:AV}{s1':S}{an:List An}{res:Res}(h:callE P s f xs ro bs rs ms as r s1' an=some res)(ha:Agree res.rd s s'):callE P s' f xs ro bs rs ms as r s1' an=some res:=by
 unfold callE at h ⊢;split at h
 ·rename_i s0 hs0;split at h
  ·rename_i hcl;split at h
   ·rename_i ys ef hse;split at h
    ·rename_i hap;split at h
     ·rename_i hok;split at h
      ·split at h
       ·rename_i hro;cases h;rw [subS_ag hs0 (ha.sub fun κ hκ=>by simp [hκ])];simp only [hcl];rw [sealALx_ag hse (ha.sub fun κ hκ=>by simp [hκ])];simp only [hap,hok,hro]
       ·cases h
      ·split at h
       ·rename_i hk1;split at h
        ·rename_i hk2;cases h;rw [subS_ag hs0 (ha.sub fun κ hκ=>by simp [hκ])];simp only [hcl];rw [sealALx_ag hse (ha.sub fun κ hκ=>by simp [hκ])];have hk:∀ {α:Type} {l l':List (Nat×α)} {i:Nat},zan l i=zan l' i->zam l i=zam l' i:=fun e=>by rw [zf5,zf5,e]
         rw [zmv (o:=s.bx) (o':=s'.bx) fun p hp=>hk ((ha (1,p.1) (by simp only [S.keys,xax]; exact .inr (.inl (.inl (zms hp))))).2.1 rfl),
          zmv (o:=s.rw) (o':=s'.rw) fun p hp=>hk ((ha (2,p.1) (by simp only [S.keys,xax]; exact .inr (.inl (.inr (.inl (zms hp)))))).2.2.1 rfl),
          zmv (o:=s.mp) (o':=s'.mp) fun p hp=>hk ((ha (3,p.1) (by simp only [S.keys,xax]; exact .inr (.inl (.inr (.inr (.inl (zms hp))))))).2.2.2.1 rfl),
          zmv (o:=s.ar) (o':=s'.ar) fun p hp=>hk ((ha (4,p.1) (by simp only [S.keys,xax]; exact .inr (.inl (.inr (.inr (.inr (zms hp))))))).2.2.2.2 rfl)]
         simp only [hap,hok,hk1,hk2]
        ·cases h
       ·cases h
     ·cases h
    ·cases h
   ·cases h
  ·cases h
 ·cases h
theorem evalLent_agree {P:Program}{f:FuncId}{bs:List Nat}{zs:List AV}{r:AV}{an:List An}{xs:List AV}{res:Res}(h:evalLent P s f bs zs r an xs=some res)(ha:Agree res.rd s s'):evalLent P s' f bs zs r an xs=some res:=by
 unfold evalLent at h;cases h
theorem evalCall_agree {P:Program}{f:FuncId}{xs:List AV}{an:List An}{r:Res}(h:zol P s an f xs=some r)(ha:Agree r.rd s s'):zol P s' an f xs=some r:=by
 unfold zol at h ⊢;split at h
 ·split at h
  ·rename_i ys ef hse;split at h
   ·rename_i hp;split at h
    ·rename_i hpr;cases h;rw [sealAL_ag hse ha];simp only [hp,hpr]
    ·cases h
   ·cases h
  ·cases h
 ·split at h
  ·rename_i ys ef hse;split at h
   ·rename_i hp;split at h
    ·rename_i hpr;cases h;rw [sealAL_ag hse ha];simp only [hp,hpr]
    ·cases h
   ·cases h
  ·cases h
 ·exact evalLent_agree h ha
 ·exact callE_agree h ha
 ·exact callE_agree h ha
 ·cases h
theorem evalAny_agree {P:Program}{A:List (Nat×Bool)}{d:Option Nat}{an:List An}{op:Op}{r:Res}(h:evalAny τ P A s an d op=some r)(hv:∀ x∈za7 op,val s x=val s' x)(ha:Agree r.rd s s'):evalAny τ P A s' an d op=some r:=by
 unfold evalAny at h ⊢;split at h
 ·rename_i f ops tys;have e:vals s ops.toList=vals s' ops.toList:=vals_ag fun x hx=>hv x (by simp [za7,zbd]; right; simpa using hx);rw [<- e];split at h
  ·exact evalCall_agree h ha
  ·cases h
 ·rename_i t ops tys;have e:vals s ops.toList=vals s' ops.toList:=vals_ag fun x hx=>hv x (by simp [za7,zbd]; right; simpa using hx);have e2:zhy s (.tmp t)=zhy s' (.tmp t):=valW_ag (hv _ (by simp [za7,zbd]));rw [<- e,<- e2];split at h
  ·split at h
   ·exact evalCall_agree h ha
   ·cases h
  ·cases h
 ·exact evalOp_agree h hv ha
theorem needs_sub {op:Op}{x:Operand}(h:x∈zbd op):x∈za7 op:=by
 cases op <;> first | exact h | (simp [zbd] at h; simp [za7,h])
theorem evalG_agree {P:Program}{A:List (Nat×Bool)}{o:Oper}{an:List An}{r:Res}(h:evalG τ P A s an o=some r)(hv:∀ x∈za7 o.op,val s x=val s' x)(ha:Agree r.rd s s'):evalG τ P A s' an o=some r:=by
 unfold evalG at h ⊢;have e:obs A s' (zbd o.op)=obs A s (zbd o.op):=(obs_ag fun x hx=>hv x (needs_sub hx)).symm;rw [e];split at h
 ·rename_i es hes;split at h
  ·rename_i r0 hr0;have hrd:r.rd=r0.rd:=by
    split at h
    ·cases h; rfl
    ·split at h
     ·cases h; rfl
     ·cases h
   rw [hrd] at ha;rw [evalAny_agree hr0 hv ha];exact h
  ·cases h
 ·cases h
theorem gcond_agree {all:List Oper}{gd:Option (Nat×Bool)}(h:Agree (gdKeys all gd) s s'):gcond all s gd=gcond all s' gd:=by
 unfold gcond;cases gd with
 | none=>rfl
 | some p=>
  obtain ⟨j,want⟩:=p;simp only;cases hg:guardSlot all j with
  | none=>rfl
  | some d=>
   have:=(h (0,d) (by simp [gdKeys,hg])).1 rfl;simp only [this]
def runK (τ:zbn)(P:Program)(all:List Oper):List Oper->S->List An->Option (List Prop×List (Bool×Bool)×S×List (List Key×List Key))
 | [],s,an=>match an with
  | []=>some ([],[],s,[])
  | _::_=>none
 | o::os,s,an=>match gcond all s o.guard with
  | some c=>match evalG τ P c s an o with
   | some r=>match runK τ P all os (r.e.app o.dst s) r.an with
    | some (gs,es,s',ks)=>some (r.gs++gs,r.eq++es,s',(zot (za7 o.op)++(gdKeys all o.guard++r.rd),DE.writes ⟨o.dst,r.e⟩)::ks)
    | none=>none
   | none=>none
  | none=>none
def dstB (N:Nat):List Oper->Bool
 | []=>true
 | o::l=>match o.dst with
  | none=>dstB N l
  | some d=>match Nat.blt d N with
   | true=>dstB N l
   | false=>false
theorem dstB_get {N:Nat}:∀ {l:List Oper} {o:Oper},dstB N l=true->o∈l->∀ d,o.dst=some d->d<N
 | [],_,_,h=>by cases h
 | p::l,o,h,ho=>by
  simp only [dstB] at h;split at h
  ·rename_i hp
   rcases xaq.1 ho with e | ho
   ·subst e; intro d hd; rw [hp] at hd; cases hd
   ·exact dstB_get h ho
  ·rename_i e hp;split at h
   ·rename_i hlt
    rcases xaq.1 ho with e' | ho
    ·subst e'; intro d hd; rw [hp] at hd; cases hd; exact xap hlt
    ·exact dstB_get h ho
   ·cases h
theorem runK_text (hτ:zgl C.P τ){all:List Oper}:∀ {os:List Oper} {s s2:S} {an:List An} {gs:List Prop} {es:List (Bool×Bool)} {ks:List (List Key×List Key)},dstB C.N os=true->runK τ C.P all os s an=some (gs,es,s2,ks)->AllP gs->AllE es->
  Wk C k s2->∀ a w,H C.g C.N s a w->wpList C.P all.toArray (mean C k) os a w
 | [],s,s2,an,gs,es,ks,_,h,_,_,hk,a,w,hx=>by
  simp only [runK] at h;split at h
  ·cases h; exact wpList_nil (hk a w hx)
  ·cases h
 | o::os,s,s2,an,gs,es,ks,hd,h,hg,he,hk,a,w,hx=>by
  simp only [runK] at h;split at h
  ·rename_i c hc;split at h
   ·rename_i r hr;split at h
    ·rename_i gs' es' s' ks' hrest;cases h;obtain ⟨g1,g2⟩:=zn1.1 hg;obtain ⟨e1,e2⟩:=zhs.1 he;refine wpList_step fun K hK=>?_;have hd':dstB C.N os=true:=by
      simp only [dstB] at hd;split at hd
      ·exact hd
      ·split at hd
       ·exact hd
       ·cases hd
     exact evalG_sound hτ (dstB_get hd (by simp)) hc hr g1 e1 a w hx K _ fun a' w' hH=>hK _ _ (runK_text hτ hd' hrest g2 e2 hk a' w' hH)
    ·cases h
   ·cases h
  ·cases h
theorem runK_draw (hτ:zgl C.P τ){all:List Oper}:∀ {os:List Oper} {s s2:S} {an:List An} {gs:List Prop} {es:List (Bool×Bool)} {ks:List (List Key×List Key)} {n:Nat},os=all.drop n->dstB C.N os=true->runK τ C.P all os s an=some (gs,es,s2,ks)->AllP gs->AllE es->
  ∃ res,DRun C all n s res s2/\res.length=os.length/\keysOf res=ks
 | [],s,s2,an,gs,es,ks,n,_,_,h,_,_=>by
  simp only [runK] at h;split at h
  ·cases h; exact ⟨[],.nil _ _,rfl,rfl⟩
  ·cases h
 | o::os,s,s2,an,gs,es,ks,n,hdrop,hd,h,hg,he=>by
  have hlt:n<all.length:=by
   rcases Nat.lt_or_ge n all.length with h' | h'
   ·exact h'
   ·rw [xcq h'] at hdrop; cases hdrop
  rw [xcs hlt] at hdrop;simp only [List.cons.injEq] at hdrop;obtain ⟨ho,hos⟩:=hdrop;have hno:all[n]?=some o:=by rw [ho]; exact xag hlt
  simp only [runK] at h;split at h
  ·rename_i c hc;split at h
   ·rename_i r hr;split at h
    ·rename_i gs' es' s' ks' hrest;cases h;obtain ⟨g1,g2⟩:=zn1.1 hg;obtain ⟨e1,e2⟩:=zhs.1 he;have hd':dstB C.N os=true:=by
      simp only [dstB] at hd;split at hd
      ·exact hd
      ·split at hd
       ·exact hd
       ·cases hd
     obtain ⟨res,h1,h2,h3⟩:=runK_draw hτ hos hd' hrest g2 e2;refine ⟨(zot (za7 o.op)++(gdKeys all o.guard++r.rd),⟨o.dst,r.e⟩)::res,.cons ?_ h1,by simp [h2],by simp only [keysOf,xa9] at h3 ⊢; rw [h3]⟩;intro s' hag a w hx K Q hK;have hag1:Agree (zot (za7 o.op)) s s':=hag.sub fun κ hκ=>by simp [hκ]
     have hag2:Agree (gdKeys all o.guard) s s':=hag.sub fun κ hκ=>by simp [hκ]
     have hag3:Agree r.rd s s':=hag.sub fun κ hκ=>by simp [hκ]
     have hr':=evalG_agree hr (val_agree hag1) hag3;have hc':gcond all s' o.guard=some c:=by rw [<- gcond_agree hag2]; exact hc
     have hst:=evalG_sound hτ (dstB_get hd (by simp)) hc' hr' g1 e1 a w hx K Q hK;have hoo:all.toArray[n]?=some o:=by simpa using hno
     simp only [wpOp,hoo];split
     ·rename_i hw; rw [xad hw] at hst; exact .inl hst
     ·rename_i hw; rw [xab hw] at hst; exact hst
    ·cases h
   ·cases h
  ·cases h
end Go.Dm
namespace Go.Dm
open Go Go.RowKit
variable {C:Cx}{k:List It}{s s' t:S}{τ:zbn}
structure NvE where
 v:Nat
 c:Bool
 n:Bool
 e:Bool
abbrev NV:=List (Nat×NvE)
def vmI (nv:NV)(rw:List (Nat×Rw))(i vr:Nat):Option Nat:=
 match zan nv i with
 | none=>some vr
 | some n=>match zan rw i with
  | some r=>match Nat.beq vr r.ver with
   | true=>some n.v
   | false=>none
  | none=>none
mutual
def AV.vm (nv:NV)(rw:List (Nat×Rw)):AV->Option AV
 | .row i v=>match vmI nv rw i v with
  | some v'=>some (.row i v')
  | none=>none
 | .rowv i v o n=>match vmI nv rw i v with
  | some v'=>some (.rowv i v' o n)
  | none=>none
 | .ep i v o n=>match vmI nv rw i v with
  | some v'=>some (.ep i v' o n)
  | none=>none
 | .fn f caps=>match AV.vmL nv rw caps with
  | some l=>some (.fn f l)
  | none=>none
 | .popt b x=>match AV.vm nv rw x with
  | some y=>some (.popt b y)
  | none=>none
 | .agg cs=>match AV.vmL nv rw cs with
  | some l=>some (.agg l)
  | none=>none
 | .tup cs=>match AV.vmL nv rw cs with
  | some l=>some (.tup l)
  | none=>none
 | .when c x=>match AV.vm nv rw x with
  | some y=>some (.when c y)
  | none=>none
 | x=>some x
def AV.vmL (nv:NV)(rw:List (Nat×Rw)):List AV->Option (List AV)
 | []=>some []
 | x::l=>match AV.vm nv rw x with
  | some y=>match AV.vmL nv rw l with
   | some m=>some (y::m)
   | none=>none
  | none=>none
end
theorem vmL_get {nv:NV}{rw:List (Nat×Rw)}:∀ {l m:List AV},AV.vmL nv rw l=some m->m.length=l.length/\∀ (j:Nat) (x:AV),l[j]?=some x->∃ y,m[j]?=some y/\x.vm nv rw=some y
 | [],m,h=>by simp only [AV.vmL] at h; cases h; exact ⟨rfl,fun j x hx=>by simp at hx⟩
 | x::l,m,h=>by
  simp only [AV.vmL] at h;split at h
  ·rename_i y hy;split at h
   ·rename_i m' hm;cases h;obtain ⟨h1,h2⟩:=vmL_get hm;refine ⟨by simp [h1],fun j u hu=>?_⟩;cases j with
    | zero=>simp at hu; subst hu; exact ⟨y,rfl,hy⟩
    | succ j=>simp only [xbe] at hu ⊢; exact h2 j u hu
   ·cases h
  ·cases h
def vmF (nv:NV)(rw:List (Nat×Rw)):List (Nat×AV)->Option (List (Nat×AV))
 | []=>some []
 | (i,x)::l=>match AV.vm nv rw x with
  | some y=>match vmF nv rw l with
   | some m=>some ((i,y)::m)
   | none=>none
  | none=>none
def vmB (nv:NV)(rw:List (Nat×Rw)):List (Nat×List AV)->Option (List (Nat×List AV))
 | []=>some []
 | (i,x)::l=>match AV.vmL nv rw x with
  | some y=>match vmB nv rw l with
   | some m=>some ((i,y)::m)
   | none=>none
  | none=>none
def nvRw (nv:NV)(i:Nat)(r:Rw):Rw:=match zan nv i with
 | some n=>{ r with ver:=n.v,cm:=bif n.c then r.cm else 0,nl:=bif n.n then r.nl else false,k:=bif n.e then r.xs.length else r.k }
 | none=>r
def nvR (nv:NV):List (Nat×Rw)->List (Nat×Rw)
 | []=>[]
 | (i,r)::l=>(i,nvRw nv i r)::nvR nv l
def nvOk (rw:List (Nat×Rw)):NV->Bool
 | []=>true
 | (i,n)::l=>match zan rw i with
  | some r=>match Nat.blt i nB||(Nat.blt 0 n.v||Nat.beq r.ver 0) with
   | true=>nvOk rw l
   | false=>false
  | none=>false
def normV (nv:NV)(s:S):Option S:=
 match nvOk s.rw nv with
 | true=>match vmF nv s.rw s.fr with
  | some f=>match vmB nv s.rw s.bx with
   | some b=>some ⟨f,b,nvR nv s.rw,s.mp,s.ar⟩
   | none=>none
  | none=>none
 | false=>none
theorem vmF_get {nv:NV}{rw:List (Nat×Rw)}:∀ {l m:List (Nat×AV)},vmF nv rw l=some m->∀ {i:Nat} {y:AV},zan m i=some y->∃ x,zan l i=some x/\x.vm nv rw=some y
 | [],m,h,i,y,hi=>by simp only [vmF] at h; cases h; cases hi
 | (j,x)::l,m,h,i,y,hi=>by
  simp only [vmF] at h;split at h
  ·rename_i z hz;split at h
   ·rename_i m' hm;cases h;rw [zai] at hi ⊢;split at hi
    ·rename_i e; cases hi; rw [xad e]; exact ⟨x,rfl,hz⟩
    ·rename_i e; rw [xab e]; exact vmF_get hm hi
   ·cases h
  ·cases h
theorem vmB_get {nv:NV}{rw:List (Nat×Rw)}:∀ {l m:List (Nat×List AV)},vmB nv rw l=some m->∀ (i:Nat),(∀ y,zan m i=some y->∃ x,zan l i=some x/\AV.vmL nv rw x=some y)/\(zan m i=none->zan l i=none)
 | [],m,h,i=>by simp only [vmB] at h; cases h; exact ⟨fun y hy=>(by cases hy),fun _=>rfl⟩
 | (j,x)::l,m,h,i=>by
  simp only [vmB] at h;split at h
  ·rename_i z hz;split at h
   ·rename_i m' hm;cases h;simp only [zai];split
    ·exact ⟨fun y hy=>(by cases hy; exact ⟨x,rfl,hz⟩),fun h=>by cases h⟩
    ·exact vmB_get hm i
   ·cases h
  ·cases h
theorem nvR_get {nv:NV}:∀ (l:List (Nat×Rw)) (i:Nat),zan (nvR nv l) i=(zan l i).map (nvRw nv i)
 | [],i=>rfl
 | (j,r)::l,i=>by
  simp only [nvR,zai];split
  ·rename_i e; subst e; rfl
  ·exact nvR_get l i
theorem nvOk_get {rw:List (Nat×Rw)}:∀ {nv:NV},nvOk rw nv=true->∀ {i:Nat} {n:NvE},zan nv i=some n->∃ r,zan rw i=some r/\(nB<=i->n.v=0->r.ver=0)
 | [],_,i,n,hi=>by cases hi
 | (j,m)::l,h,i,n,hi=>by
  simp only [nvOk] at h;split at h
  ·rename_i r hr;split at h
   ·rename_i hc;rw [zai] at hi;split at hi
    ·rename_i e;cases hi;subst e;refine ⟨r,hr,fun h1 h2=>?_⟩;rw [xa0,xa0] at hc
     rcases hc with hc | hc | hc
     ·have:=xap hc; omega
     ·have:=xap hc; omega
     ·exact zbc hc
    ·exact nvOk_get h hi
   ·cases h
  ·cases h
def Env.nv (E:Env)(nv:NV):Env:={ E with rw:=fun i=>match zan nv i with
 | some n=>(E.rw i).map fun q=>{ q with ver:=n.v }
 | none=>E.rw i }
section
variable {M:Mem}{E:Env}{nv:NV}{rw:List (Nat×Rw)}
theorem vmI_ok (hv:∀ i r q,zan rw i=some r->E.rw i=some q->q.ver=r.ver){i vr vr':Nat}(h:vmI nv rw i vr=some vr'){q:RwE}(hq:E.rw i=some q) :
  ∃ q',(E.nv nv).rw i=some q'/\(vr<=q.ver->vr'<=q'.ver)/\(vr'=q'.ver->vr=q.ver)/\q'.a=q.a/\q'.n=q.n/\q'.c=q.c/\q'.sz=q.sz:=by
 unfold vmI at h;split at h
 ·rename_i hn;cases h;exact ⟨q,by simp only [Env.nv,hn]; exact hq,fun h=>h,fun h=>h,rfl,rfl,rfl,rfl⟩
 ·rename_i n hn;split at h
  ·rename_i r hr;split at h
   ·rename_i hb;cases h;refine ⟨{ q with ver:=n.v },by simp only [Env.nv,hn,hq,xbl],fun _=>xaf _,fun _=>?_,rfl,rfl,rfl,rfl⟩;rw [zbc hb]; exact (hv i r q hr hq).symm
   ·cases h
  ·cases h
theorem RelS.vm (hv:∀ i r q,zan rw i=some r->E.rw i=some q->q.ver=r.ver){v:Value}{x:AV}(h:RelS M E v x):∀ {y:AV},x.vm nv rw=some y->RelS M (E.nv nv) v y:=by
 induction h with
 | pure h=>intro y hy; cases h <;> (simp only [AV.vm] at hy; cases hy; exact .pure (by constructor <;> assumption))
 | any h=>intro y hy; simp only [AV.vm] at hy; cases hy; exact .any h
 | ptr i off b h=>intro y hy; simp only [AV.vm] at hy; cases hy; exact .ptr i off b h
 | row i vr n c a q hq hver hh=>
  intro y hy;simp only [AV.vm] at hy;split at hy
  ·rename_i v' hv';cases hy;obtain ⟨q',h1,h2,h3,e1,e2,e3,e4⟩:=vmI_ok hv hv' hq;refine .row i v' n c a q' h1 (h2 hver) fun e=>?_;obtain ⟨f1,f2,f3⟩:=hh (h3 e);exact ⟨by rw [e1]; exact f1,by rw [e2]; exact f2,by rw [e3]; exact f3⟩
  ·cases hy
 | rowv i vr off m n c a q hq hver hh=>
  intro y hy;simp only [AV.vm] at hy;split at hy
  ·rename_i v' hv';cases hy;obtain ⟨q',h1,h2,h3,e1,e2,e3,e4⟩:=vmI_ok hv hv' hq;refine .rowv i v' off m n c a q' h1 (h2 hver) fun e=>?_;have:=hh (h3 e);unfold viewA at this ⊢;rw [e1,e3,e4];exact this
  ·cases hy
 | ep i vr kk off ad q hq hver hh=>
  intro y hy;simp only [AV.vm] at hy;split at hy
  ·rename_i v' hv';cases hy;obtain ⟨q',h1,h2,h3,e1,e2,e3,e4⟩:=vmI_ok hv hv' hq;refine .ep i v' kk off ad q' h1 (h2 hver) fun e=>?_;have:=hh (h3 e);rw [e1,e4];exact this
  ·cases hy
 | aptr i kk off bs b h hk=>intro y hy; simp only [AV.vm] at hy; cases hy; exact .aptr i kk off bs b h hk
 | mp i r h=>intro y hy; simp only [AV.vm] at hy; cases hy; exact .mp i r h
 | popt b x ht hf ih=>
  intro y hy;simp only [AV.vm] at hy;split at hy
  ·rename_i z hz;cases hy;exact .popt b z (fun hb=>ih hb hz) hf
  ·cases hy
 | fn f vs cs hl h ih=>
  intro y hy;simp only [AV.vm] at hy;split at hy
  ·rename_i l hl';cases hy;obtain ⟨h1,h2⟩:=vmL_get hl';refine .fn f vs l (hl.trans h1.symm) fun j v c hv' hc=>?_;have hj:=(xac.1 hv').1;have hcs:cs[j]?=some cs[j]:=xag (by omega);obtain ⟨y,hy,hvm⟩:=h2 j _ hcs;rw [hc] at hy; cases hy;exact ih j v _ hv' hcs hvm
  ·cases hy
theorem Rel.vm (hv:∀ i r q,zan rw i=some r->E.rw i=some q->q.ver=r.ver){v:Value}{x:AV}(h:Rel M E v x):∀ {y:AV},x.vm nv rw=some y->Rel M (E.nv nv) v y:=by
 induction h with
 | cell h=>intro y hy; exact .cell (h.vm hv hy)
 | agg vs cs hl h=>
  intro y hy;simp only [AV.vm] at hy;split at hy
  ·rename_i l hl';cases hy;obtain ⟨h1,h2⟩:=vmL_get hl';refine .agg vs l (hl.trans h1.symm) fun j v c hv' hc=>?_;have hj:=(xac.1 hv').1;have hcs:cs[j]?=some cs[j]:=xag (by omega);obtain ⟨y,hy,hvm⟩:=h2 j _ hcs;rw [hc] at hy; cases hy;exact (h j v _ hv' hcs).vm hv hvm
  ·cases hy
 | tup vs cs hl h ih=>
  intro y hy;simp only [AV.vm] at hy;split at hy
  ·rename_i l hl';cases hy;obtain ⟨h1,h2⟩:=vmL_get hl';refine .tup vs l (hl.trans h1.symm) fun j v c hv' hc=>?_;have hj:=(xac.1 hv').1;have hcs:cs[j]?=some cs[j]:=xag (by omega);obtain ⟨y,hy,hvm⟩:=h2 j _ hcs;rw [hc] at hy; cases hy;exact ih j v _ hv' hcs hvm
  ·cases hy
 | any v=>intro y hy; simp only [AV.vm] at hy; cases hy; exact .any v
 | when v c x h hu ih=>
  intro y hy;simp only [AV.vm] at hy;split at hy
  ·rename_i z hz;cases hy;exact .when v c z (fun hc=>ih hc hz) hu
  ·cases hy
end
theorem normV_St {nv:NV}(h:normV nv s=some t)(h2:p2R s.rw=true){g:Gh}{N:Nat}{M:Mem}{E:Env}{tmps:Array Value}{w:World}(hs:St g N M E s tmps w) :
  St g N M (E.nv nv) t tmps w/\∀ E0,Env.p0 E0 E->Env.p0 E0 (E.nv nv):=by
 unfold normV at h;split at h
 ·rename_i hok;split at h
  ·rename_i f hf;split at h
   ·rename_i b hb
    ·cases h;have hv:∀ i r q,zan s.rw i=some r->E.rw i=some q->q.ver=r.ver:=fun i r q h1 h2=>by
      obtain ⟨q',hq',ho⟩:=hs.rw i r h1;rw [h2] at hq'; cases hq';exact ho.ver
     refine ⟨?_,fun E0 hp=>⟨hp.bx,fun i q hi he h0=>?_,hp.mp,hp.ar⟩⟩
     ·refine hs.weak (fun i y hi=>?_) (fun i cs hi=>?_) (fun i hi=>?_) (fun i r hi=>?_) (fun i hi=>?_) (fun i es hi=>?_) (fun i hi=>?_)
       (fun i r hi=>⟨hi,rfl,fun b p h=>h,fun b p h=>h,zin (E:=E) (E':=E.nv nv) rfl _,fun _ _ _ h=>h⟩) hs.arn (fun b o ho=>⟨o,ho,fun j hj=>?_⟩)
      ·obtain ⟨x,h1,h2⟩:=vmF_get hf hi;exact ⟨x,h1,fun v hr=>hr.vm hv h2⟩
      ·obtain ⟨x,h1,h2⟩:=(vmB_get hb i).1 cs hi;obtain ⟨h3,h4⟩:=vmL_get h2;refine ⟨i,x,h1,fun b h=>h,fun b h=>h,h3,fun j c c' v hc hc' hr=>?_⟩;obtain ⟨y,hy,hvm⟩:=h4 j c hc;rw [hc'] at hy; cases hy;exact hr.vm hv hvm
      ·exact hs.bxn i ((vmB_get hb i).2 hi)
      ·have hi:zan (nvR nv s.rw) i=some r:=hi;rw [nvR_get] at hi;obtain ⟨r0,hr0,rfl⟩:=xay.1 hi;refine ⟨i,r0,hr0,fun q hq=>?_,fun b h=>h,fun b p h=>h,?_,?_,?_,?_,?_,?_,?_,?_,fun _=>Env.arP_of (p2R_get h2 hr0) (zin (E:=E) (E':=E.nv nv) rfl _)⟩
       ·have:=hv i r0 q hr0 hq;unfold nvRw;simp only [Env.nv];cases hn:zan nv i with
        | none=>simp only [<- this]; exact hq
        | some n=>simp only [hq,xbl]
       all_goals unfold nvRw
       all_goals cases hn:zan nv i with
        | none=>simp
        | some n=>first | rfl | (obtain ⟨v,c,n,e⟩:=n; cases c <;> cases n <;> cases e <;> simp)
      ·have hi:zan (nvR nv s.rw) i=none:=hi;rw [nvR_get,xe2] at hi;have:=hs.rwn i hi;simp only [Env.nv,this];cases zan nv i <;> rfl
      ·refine ⟨i,es,hi,fun b h=>h,fun b h=>h,rfl,fun j c c' hc hc'=>?_⟩;rw [hc] at hc'; cases hc';exact ⟨rfl,fun v hr=>hr.monoE (zin (E:=E) (E':=E.nv nv) rfl _)⟩
      ·exact hs.mpn i hi
      ·obtain ⟨kd,i,p⟩:=o;simp only [zcs,nvR_get] at hj ⊢;split
       ·rename_i hc;rw [xad hc] at hj;cases hr:zan s.rw i with
        | none=>rw [hr] at hj; exact hj
        | some r=>
         rw [hr] at hj;simp only [xbl] at hj ⊢;obtain ⟨q,_,hrok⟩:=hs.rw i r hr;refine xbi hj ?_;unfold nvRw;cases hn:zan nv i with
         | none=>exact xaf _
         | some n=>
          simp only;refine xa6 _ ?_;cases n.e
          ·exact xaf _
          ·exact hrok.k
       ·rename_i hc;rw [xab hc] at hj;split
        ·rename_i hc5;rw [xad hc5] at hj;cases hr:zan s.rw i with
         | none=>rw [hr] at hj; exact hj
         | some r=>
          rw [hr] at hj;simp only [xbl] at hj ⊢;have:(nvRw nv i r).xs=r.xs:=by
           unfold nvRw;cases zan nv i <;> rfl
          rw [this]; exact hj
        ·rename_i hc5;rw [xab hc5] at hj;exact hj
     ·simp only [Env.nv] at he;split at he
      ·rename_i n hn;obtain ⟨q0,hq0,rfl⟩:=xay.1 he;obtain ⟨r,hr,hz⟩:=nvOk_get hok hn;have h1:=hv i r q0 hr hq0;have h2:=hz hi h0;have:({ q0 with ver:=n.v }:RwE)=q0:=by
        have e:n.v=q0.ver:=by rw [h1,h2]; exact h0
        rw [e]
       rw [this];exact hp.rw i q0 hi hq0 (by rw [h1,h2])
      ·exact hp.rw i q hi he h0
   ·cases h
  ·cases h
 ·cases h
def trimS (fs bs rs ms aa:List Nat)(nv:NV)(s:S):Option S:=
 match selF fs s.fr with
 | some f=>match selF bs s.bx with
  | some b=>match selF rs s.rw with
   | some r=>match selF ms s.mp with
    | some m=>match selF aa s.ar with
     | some a=>match zmg ⟨f,b,r,m,a⟩ with
      | true=>match nv with
       | []=>some ⟨f,b,r,m,a⟩
       | _::_=>normV nv ⟨f,b,r,m,a⟩
      | false=>none
     | none=>none
    | none=>none
   | none=>none
  | none=>none
 | none=>none
theorem trimS_St {fs bs rs ms aa:List Nat}{nv:NV}(h:trimS fs bs rs ms aa nv s=some t){g:Gh}{N:Nat}{M:Mem}{E:Env}{tmps:Array Value}{w:World}(hs:St g N M E s tmps w) :
  ∃ E',St g N M E' t tmps w/\∀ E0,Env.p0 E0 E->Env.p0 E0 E':=by
 unfold trimS at h;split at h
 ·rename_i f hf;split at h
  ·rename_i b hb;split at h
   ·rename_i r hr;split at h
    ·rename_i m hm;split at h
     ·rename_i a haa;split at h
      ·rename_i hc;have h1:=hs.sub (t:=⟨f,b,r,m,a⟩) (fun i v=>zf2 hf) (fun i v=>zf2 hb) (fun i v=>zf2 hr) (fun i v=>zf2 hm) (fun i v=>zf2 haa) hc;split at h
       ·cases h;exact ⟨_,h1,fun E0 hp=>Env.keep_p0 hp _ _ _ _⟩
       ·obtain ⟨h2,h3⟩:=normV_St h (okR_p2 (closedB_ok hc).2.2.1) h1;exact ⟨_,h2,fun E0 hp=>h3 E0 (Env.keep_p0 hp _ _ _ _)⟩
      ·cases h
     ·cases h
    ·cases h
   ·cases h
  ·cases h
 ·cases h
theorem trimS_H {fs bs rs ms aa:List Nat}{nv:NV}(h:trimS fs bs rs ms aa nv s=some t){g:Gh}{N:Nat}{a:Act}{w:World}(hx:H g N s a w):H g N t a w:=by
 obtain ⟨hd,M,E,hs,hp⟩:=hx;obtain ⟨E',h1,h2⟩:=trimS_St h hs;exact ⟨hd,M,E',h1,h2 _ hp⟩
theorem zd9 {fs bs rs ms aa:List Nat}{nv:NV}(h:trimS fs bs rs ms aa nv s=some t)(hw:Wk C k t):Wk C k s:=fun a w hx=>hw a w (trimS_H h hx)
theorem Wk_met {fs bs rs ms aa:List Nat}{nv:NV}(h:trimS fs bs rs ms aa nv s=some t):Wk C (.cut (fun s'=>s'=t)::k) s:=Wk_cut (fun a w hx=>trimS_H h hx) rfl
def fsts:List (Bool×Bool)->List Bool
 | []=>[]
 | (a,_)::l=>a::fsts l
def snds:List (Bool×Bool)->List Bool
 | []=>[]
 | (_,a)::l=>a::snds l
theorem AllE_of:∀ {l:List (Bool×Bool)},fsts l=snds l->AllE l
 | [],_=>trivial
 | (a,b)::l,h=>by
  simp only [fsts,snds,List.cons.injEq] at h;exact ⟨h.1,AllE_of h.2⟩
def runT (τ:zbn)(P:Program)(N:Nat)(drw:Bool)(ops:List Oper)(an:List An)(fs bs rs ms aa:List Nat)(nv:NV)(s:S):Option (List Prop×List (Bool×Bool)×S):=
 match dstB N ops with
 | true=>match runK τ P ops ops s an with
  | some (gs,es,s1,ks)=>match (match drw with | true=>indepB ops 0 ks&&backB 0 ops | false=>true) with
   | true=>match trimS fs bs rs ms aa nv s1 with
    | some t=>some (gs,es,t)
    | none=>none
   | false=>none
  | none=>none
 | false=>none
def outL:Option (List Prop×List (Bool×Bool)×S)->Option (List Prop×S×List Bool)
 | some (gs,es,t)=>some (gs,t,fsts es)
 | none=>none
def outR:Option (List Prop×List (Bool×Bool)×S)->List Bool
 | some (_,es,_)=>snds es
 | none=>[]
theorem Wk_run (hτ:zgl C.P τ){id:Nat}{ops:List Oper}{an:List An}{fs bs rs ms aa:List Nat}{nv:NV}{gs:List Prop}(h:outL (runT τ C.P C.N false ops an fs bs rs ms aa nv s)=some (gs,t,outR (runT τ C.P C.N false ops an fs bs rs ms aa nv s)))(hg:AllP gs)(hk:Wk C k t):Wk C (.code (.region id ops.toArray false)::k) s:=by
 cases hr:runT τ C.P C.N false ops an fs bs rs ms aa nv s with
 | none=>rw [hr] at h; cases h
 | some p=>
  obtain ⟨gs',es,t'⟩:=p;rw [hr] at h;simp only [outL,outR,Option.some.injEq,Prod.mk.injEq] at h;obtain ⟨rfl,rfl,he⟩:=h;unfold runT at hr;split at hr
  ·rename_i hd;split at hr
   ·rename_i gs1 es1 s1 ks hrk;split at hr
    ·split at hr
     ·rename_i t1 ht;cases hr;exact fun a w hx=>wp_region_lit (runK_text hτ hd hrk hg (AllE_of he) (zd9 ht hk) a w hx)
     ·cases hr
    ·cases hr
   ·cases hr
  ·cases hr
theorem Wk_runD (hτ:zgl C.P τ)(hm:C.P.follows .mixedOrders=true){id:Nat}{ops:List Oper}{an:List An}{fs bs rs ms aa:List Nat}{nv:NV}{gs:List Prop}(h:outL (runT τ C.P C.N true ops an fs bs rs ms aa nv s)=some (gs,t,outR (runT τ C.P C.N true ops an fs bs rs ms aa nv s)))(hg:AllP gs)(hk:Wk C k t):Wk C (.code (.region id ops.toArray true)::k) s:=by
 cases hr:runT τ C.P C.N true ops an fs bs rs ms aa nv s with
 | none=>rw [hr] at h; cases h
 | some p=>
  obtain ⟨gs',es,t'⟩:=p;rw [hr] at h;simp only [outL,outR,Option.some.injEq,Prod.mk.injEq] at h;obtain ⟨rfl,rfl,he⟩:=h;unfold runT at hr;split at hr
  ·rename_i hd;split at hr
   ·rename_i gs1 es1 s1 ks hrk;split at hr
    ·rename_i hib;split at hr
     ·rename_i t1 ht;cases hr;simp only [xaw] at hib;obtain ⟨res,h1,h2,h3⟩:=runK_draw hτ (n:=0) rfl hd hrk hg (AllE_of he);exact draw_region hm h1 h2 (by rw [h3]; exact hib.1) hib.2 (zd9 ht hk)
     ·cases hr
    ·cases hr
   ·cases hr
  ·cases hr
end Go.Dm
