/- The machine over the model's code, part EmF. -/
import Derived.Test.YtgcndnddgajekaaGreatDoorEmD
import Derived.Deep.CondSized
import Derived.OpenShut
set_option linter.unusedVariables false
set_option linter.unusedSimpArgs false
set_option linter.unusedSectionVars false
set_option linter.constructorNameAsVariable false
namespace Go.Dm
open Go Go.RowKit Go.ChangeShapes Go.WideShapes Go.Deep
structure Bk where
 b:(H:Type)->DataW H->Nat
 all:(H:Type)->List (DataW H)->Nat
 str:∀ H (s:List UInt8),s.length+1<=b H (.lit (.string s))
 one:∀ H d,1<=b H d
 slice:∀ H e s,all H e+1<=b H (.slice e s)
 agg:∀ H e,all H e+1<=b H (.agg e)
 cons:∀ H d r,b H d+all H r<=all H (d::r)
def Small {H:Type}(P:Program)(t:TypeId)(d:DataW H):Prop:=∀ n∈d.weights P t,n<=reachBytes
def SmallA {H:Type}(P:Program)(ts:List TypeId)(ds:List (DataW H)):Prop:=∀ n∈DataW.weightsEach P ts ds,n<=reachBytes
def Rz (K:Bk)(P:Program)(t:TypeId){α:Type}(enc:α->AV)(ok:α->Prop)(sz:α->Nat):Prop:=
 ∀ (H:Type) (en:TypeId×Value->H) (W:World) (base:Nat) (spare:Nat->Bool) (held:Bool) (fuel:Nat) (cs:List Value) (y:DataW H×List MemPlace),
  DataW.trod en P W base spare held fuel t cs=some y->∃ x:α,(Small P t y.1->ok x)/\sz x<=K.b H y.1/\AllR (RelP (memOf W)) cs (enc x).cells
variable {K:Bk}{P:Program}
theorem Rz.of {t:TypeId}{α:Type}{enc:α->AV}{ok:α->Prop}(h:Rd P t enc ok):Rz K P t enc ok (fun _=>1):=by
 intro H en W base spare held fuel cs y ht;obtain ⟨x,hx,hr⟩:=h H en W base spare held fuel cs y ht;exact ⟨x,fun _=>hx,K.one H y.1,hr⟩
theorem rz_str {t:TypeId}(ht:P.underlying t=some .string):Rz K P t (fun s=>.str s) (fun s=>s.length<=140737488351232) (fun s=>s.length+1):=by
 intro H en W base spare held fuel cs y h;obtain ⟨s,rfl,rfl,hs⟩:=DataW.trod_string ht h;refine ⟨s.data.toList,fun hw=>?_,K.str H _,allR_one ?_⟩
 ·exact hw _ (by simp [DataW.weights])
 ·have:(Value.string s) = .string ⟨s.data.toList.toArray⟩:=by simp
  rw [this]; exact .str _
theorem small_all {H:Type}{e:TypeId}:∀ {l:List (DataW H)} {i:Nat} {d:DataW H},l[i]?=some d->∀ n∈d.weights P e,n∈DataW.weightsAll P e l
 | x::l,0,d,h,n,hn=>by
  simp only [xe1,Option.some.injEq] at h;subst h;simp only [DataW.weightsAll,xax]; exact .inl hn
 | x::l,i+1,d,h,n,hn=>by
  simp only [xbe] at h;simp only [DataW.weightsAll,xax]; exact .inr (small_all h n hn)
 | [],_,_,h,_,_=>by simp at h
theorem sum_all {H:Type}{α:Type}(sz:α->Nat):∀ (l:List α) (ds:List (DataW H)),l.length=ds.length->(∀ (i:Nat) x d,l[i]?=some x->ds[i]?=some d->sz x<=K.b H d)->(l.map sz).sum<=K.all H ds
 | [],ds,hl,h=>by simp
 | x::l,[],hl,h=>by simp at hl
 | x::l,d::ds,hl,h=>by
  have h1:=h 0 x d rfl rfl;have h2:=sum_all sz l ds (by simpa using hl) (fun i a b h3 h4=>h (i+1) a b (by simpa using h3) (by simpa using h4));have h3:=K.cons H d ds;simp only [xa9,List.sum_cons]; omega
theorem rz_slice {t e:TypeId}{α:Type}{enc:α->AV}{ok:α->Prop}{so:α->Nat}{sz by':Nat}(ht:P.underlying t=some (.slice e))(hsz:P.cellsOf e=sz)(hpos:0<sz)(hby:P.bytesOf e=by')(he:Rz K P e enc ok so)(hc:∀ x,(enc x).cells.length=sz) :
  Rz K P t (fun l:List α=>.sl sz (l.map enc)) (fun l=>(∀ x∈l,ok x)/\l.length*by'<=140737488351232) (fun l=>(l.map so).sum+1):=by
 intro H en W base spare held fuel cs y h
 rcases open_slice ht h with ⟨rfl,rfl⟩ | ⟨a,len,cap,m,n,D,Pl,rfl,hb,hl,hcap,hm,rfl,hcell⟩
 ·refine ⟨[],fun _=>⟨by simp,by simp⟩,?_,allR_one ?_⟩
  ·simpa using K.one H _
  ·exact .sl none 0 0 sz [] (fun _=>undef) rfl (xaf _) (by decide) (by simp) (fun h=>absurd rfl h) (fun j u hu=>by simp [zc0] at hu)
 ·have hlm:len<=m:=by rw [hm]; split <;> omega
  obtain ⟨l,hll,hp⟩:=choose_list len (fun i (x:α)=>((Small P e (D i)->ok x)/\so x<=K.b H (D i))/\∀ j c,(enc x).cells[j]?=some c->∃ v,W.cell? (a.add (i*sz+j))=some v/\RelP (memOf W) v c) (fun i hi=>by
   obtain ⟨cs',h1,h2⟩:=hcell i (by omega);obtain ⟨x,hx,hs,hr⟩:=he H en W base spare held n cs' _ h2;obtain ⟨_,hcl,hat⟩:=World.cells?_some h1;rw [hsz] at hcl hat;refine ⟨x,⟨hx,hs⟩,fun j c hjc=>?_⟩;have hj:=(xac.1 hjc).1;rw [hc] at hj;have hv:cs'[j]?=some cs'[j]:=xag (by omega);refine ⟨_,?_,hr.2 j _ c hv hjc⟩;have:=hat j hj;rw [<- hv,<- this,Go.Deep.add_add])
  have hdl:((List.range len).map D).length=len:=by simp
  have hdi:∀ i,i<len->((List.range len).map D)[i]?=some (D i):=fun i hi=>by simp [hi]
  refine ⟨l,fun hw=>⟨fun x hx=>?_,?_⟩,?_,allR_one ?_⟩
  ·obtain ⟨i,hi,rfl⟩:=xdc.1 hx;refine (hp i _ (xag hi)).1.1 fun n hn=>hw n ?_;simp only [DataW.weights,ht,xaq,xax];exact .inr (.inl (small_all (hdi i (by omega)) n hn))
  ·have:=hw ((((List.range len).map D).length+((List.range (m - len)).map fun j=>D (len+j)).length)*P.bytesOf e) (by simp only [DataW.weights,ht,xaq,true_or]);rw [hby,hdl] at this;have h2:l.length*by'<=(len+((List.range (m - len)).map fun j=>D (len+j)).length)*by':=xa6 _ (by omega)
   unfold reachBytes at this;omega
  ·have:=sum_all (K:=K) so l ((List.range len).map D) (by rw [hdl,hll]) (fun i x d h1 h2=>by
    have hi:i<len:=by have:=(xac.1 h1).1; omega
    rw [hdi i hi] at h2;cases h2;exact (hp i x h1).1.2)
   have h2:=K.slice H ((List.range len).map D) ((List.range (m - len)).map fun j=>D (len+j));dsimp only;omega
  ·have hz:∀ x∈l.map enc,x.cells.length=sz:=by
    intro x hx;obtain ⟨y,_,rfl⟩:=xb1.1 hx;exact hc y
   have hfl:∀ j u,(zc0 (l.map enc))[j]?=some u->∃ v,W.cell? (a.add j)=some v/\RelP (memOf W) v u:=by
    intro j u hu;have hj:=(xac.1 hu).1;rw [zex hz,xa5] at hj;have hd:j / sz<l.length:=by
     rw [Nat.div_lt_iff_lt_mul hpos]; exact hj
    have hmod:j % sz<sz:=xdh _ hpos;have hx:(l.map enc)[j / sz]?=some (enc l[j / sz]):=by simp [hd]
    have hcj:(enc l[j / sz]).cells[j % sz]?=some ((enc l[j / sz]).cells[j % sz]'(by rw [hc]; exact hmod)):=xag _;have h1:=flat_at hz hx hcj;have e1:j / sz*sz+j % sz=j:=by rw [xe6]; exact xe7 j sz
    rw [e1,hu] at h1;cases h1;obtain ⟨v,hv,hr⟩:=(hp (j / sz) _ (xag hd)).2 _ _ hcj;rw [e1] at hv;exact ⟨v,hv,hr⟩
   refine .sl (some a) len cap sz (l.map enc) (fun j=>(W.cell? (a.add j)).getD undef) (by simp [hll]) hl hcap hz (fun hne=>?_) (fun j u hu=>?_)
   ·have hlen:0<(zc0 (l.map enc)).length:=by
     rw [zex hz];have:0<(l.map enc).length:=xa4.2 hne;exact Nat.mul_pos this hpos
    obtain ⟨v,hv,_⟩:=hfl 0 _ (xag hlen);have hs:a.spot=none:=cell_spot (a:=a) (by simpa [Addr.add] using hv);obtain ⟨blk,off,sp⟩:=a;simp only at hs;subst hs;refine ⟨blk,off,rfl,fun j hj=>?_⟩;obtain ⟨v,hv,_⟩:=hfl j _ (xag hj);simp only [hv,xb8];rw [zf4] at hv;exact hv
   ·obtain ⟨v,hv,hr⟩:=hfl j u hu;simp only [hv,xb8];exact hr
def RzF (K:Bk)(P:Program)(off:Nat)(fs:List (TypeId×Nat)){α:Type}(enc:α->List AV)(ok:α->Prop)(sz:α->Nat):Prop:=
 ∀ (H:Type) (en:TypeId×Value->H) (W:World) (base:Nat) (spare:Nat->Bool) (held:Bool) (n:Nat) (cs:List Value) (ys:List (DataW H×List MemPlace)),
  ys.length=fs.length->(∀ (i:Nat) (f:TypeId×Nat),fs[i]?=some f->DataW.trod en P W base spare held n f.1 ((cs.drop f.2).take (P.cellsOf f.1))=ys[i]?)->
  ∃ x:α,(SmallA P (fs.map (·.1)) (ys.map (·.1))->ok x)/\sz x<=K.all H (ys.map (·.1))/\AllR (RelP (memOf W)) ((cs.drop off).take (enc x).length) (enc x)
theorem rzf_nil {off:Nat}:RzF K P off [] (fun _:Unit=>[]) (fun _=>True) (fun _=>0):=by
 intro H en W base spare held n cs ys _ _;exact ⟨(),fun _=>trivial,xbm _,by simp,fun j v c hv hc=>by simp at hc⟩
theorem rzf_cons {off:Nat}{t:TypeId}{fs:List (TypeId×Nat)}{α β:Type}{encA:α->AV}{okA:α->Prop}{szA:α->Nat}{encB:β->List AV}{okB:β->Prop}{szB:β->Nat}{sz:Nat}(hsz:P.cellsOf t=sz)(hA:Rz K P t encA okA szA)(hB:RzF K P (off+sz) fs encB okB szB)(hc:∀ x,(encA x).cells.length=sz) :
  RzF K P off ((t,off)::fs) (fun x:α×β=>(encA x.1).cells++encB x.2) (fun x=>okA x.1/\okB x.2) (fun x=>szA x.1+szB x.2):=by
 intro H en W base spare held n cs ys hl h
 match ys,hl with
 | [],hl=>simp at hl
 | y::ys,hl=>
 have hy:=h 0 (t,off) rfl;simp only [xe1] at hy;obtain ⟨a,ha,hsa,hra⟩:=hA H en W base spare held n _ y hy;obtain ⟨b,hb,hsb,hrb⟩:=hB H en W base spare held n cs ys (by simpa using hl) (fun i f hf=>by
  have:=h (i+1) f (by simpa using hf);simpa using this)
 refine ⟨(a,b),fun hs=>⟨ha fun n hn=>hs n (by simp only [xa9,DataW.weightsEach,xax]; exact .inl hn),hb fun n hn=>hs n (by simp only [xa9,DataW.weightsEach,xax]; exact .inr hn)⟩,?_,?_⟩
 ·have:=K.cons H y.1 (ys.map (·.1));simp only [xa9]; omega
 simp only at hra hrb ⊢;rw [hsz] at hra;have hla:=hra.1;rw [hc] at hla;have e1:(cs.drop off).take ((encA a).cells++encB b).length=((cs.drop off).take sz)++((cs.drop (off+sz)).take (encB b).length):=by
  rw [xaa,hc,List.take_add,xcm]
 rw [e1];refine ⟨by simp only [xaa,hra.1,hrb.1],fun j v c hv hc'=>?_⟩;rw [xb7] at hv hc';rw [hra.1] at hv;split at hv
 ·rename_i hj; rw [xad hj] at hc'; exact hra.2 j v c hv hc'
 ·rename_i hj; rw [xab hj] at hc'; exact hrb.2 _ v c hv hc'
theorem rz_struct {t:TypeId}{fl:List (TypeId×Nat)}{α β:Type}{encF:β->List AV}{okF:β->Prop}{szF:β->Nat}(f:β->α)(enc:α->AV)(ok:α->Prop)(so:α->Nat)
  (ht:(match P.underlying t with | some (.struct fs)=>some (fs.toList.map fun f=>(f.type,f.offset)) | _=>none)=some fl)(hF:RzF K P 0 fl encF okF szF){sz:Nat}(hsz:P.cellsOf t=sz)
  (hlen:∀ b,(encF b).length=sz)(henc:∀ b,enc (f b) = .agg (encF b))(hok:∀ b,okF b->ok (f b))(hso:∀ b,so (f b)<=szF b+1):Rz K P t enc ok so:=by
 intro H en W base spare held fuel cs y h;split at ht
 ·rename_i fs hu;cases ht;obtain ⟨xs,n,_,rfl,hcl,hxl,hat⟩:=DataW.trod_struct hu h;obtain ⟨b,hb,hs,hr⟩:=hF H en W base spare held n cs xs (by simp [hxl]) (fun i p hp=>by
   rw [xbf,xay] at hp;obtain ⟨fd,hfd,rfl⟩:=hp;have hfd':fs[i]?=some fd:=by simpa using hfd
   exact hat i fd hfd')
  refine ⟨f b,fun hw=>hok b (hb fun n hn=>hw n ?_),?_,?_⟩
  ·simp only [DataW.weights,hu];have e:(fs.toList.map fun f=>(f.type,f.offset)).map (·.1)=fs.toList.map (·.type):=by simp
   rwa [e] at hn
  ·have h1:=hso b;have h2:=K.agg H (xs.map (·.1));dsimp only;omega
  ·rw [henc];simp only [AV.cells];rw [xce,hlen,<- hsz,<- hcl,xco] at hr;exact hr
 ·cases ht
def ArgZ (K:Bk)(P:Program)(t:TypeId){α:Type}(enc:α->AV)(ok:α->Prop)(sz:α->Nat):Prop:=
 ∀ (H:Type) (en:TypeId×Value->H) (W:World) (base:Nat) (v:Value) (d:DataW H) (p:List MemPlace),
  Value.okWide P W .any base t v->DataW.Trod en P W 0 (fun _=>true) true t v d p->∃ x,(Small P t d->ok x)/\sz x<=K.b H d/\Rel (memOf W) Env.none v (enc x)
theorem Rz.argC {t:TypeId}{α:Type}{enc:α->AV}{ok:α->Prop}{sz:α->Nat}(h:Rz K P t enc ok sz)
  (ht:(match P.underlying t with | some (.int _) | some .bool | some .string | some (.slice _)=>true | _=>false)=true)(hc:∀ x,(enc x).cells=[enc x]):ArgZ K P t enc ok sz:=by
 intro H en W base v d p hv hd;have hna:∀ cs,v≠.agg cs:=fun cs e=>by
  subst e;unfold Value.okWide at hv;split at ht
  all_goals first | (cases ht; done) | (rename_i hu; simp [hu,Cell.okWide,Cell.ok] at hv)
 obtain ⟨fuel,hf⟩:=hd;obtain ⟨x,hx,hs,hr⟩:=h H en W 0 (fun _=>true) true fuel _ _ hf;refine ⟨x,hx,hs,?_⟩;rw [hc] at hr;have:v.cells=#[v]:=by cases v <;> first | rfl | exact absurd rfl (hna _)
 rw [this] at hr;exact .cell (.pure (hr.2 0 v (enc x) rfl rfl))
theorem Rz.argS {t:TypeId}{α:Type}{enc:α->AV}{ok:α->Prop}{sz:α->Nat}(h:Rz K P t enc ok sz)
  (ht:(match P.underlying t with | some (.struct _)=>true | _=>false)=true)(hc:∀ x,∃ cs,enc x = .agg cs):ArgZ K P t enc ok sz:=by
 intro H en W base v d p hv hd;unfold Value.okWide at hv;split at ht
 ·rename_i hu;rw [hu] at hv;obtain ⟨vs,rfl,_⟩:=hv;obtain ⟨fuel,hf⟩:=hd;obtain ⟨x,hx,hs,hr⟩:=h H en W 0 (fun _=>true) true fuel _ _ hf;refine ⟨x,hx,hs,?_⟩;obtain ⟨cs,hcs⟩:=hc x;rw [hcs] at hr ⊢;have:(Value.agg vs) = .agg vs.toList.toArray:=by simp
  rw [this];exact .agg _ _ hr.1 fun j v c hv hc=>.pure (hr.2 j v c hv hc)
 ·cases ht
def ArgsZ (K:Bk)(P:Program)(ts:List TypeId){α:Type}(enc:α->List AV)(ok:α->Prop)(sz:α->Nat):Prop:=
 ∀ (H:Type) (en:TypeId×Value->H) (W:World) (base:Nat) (vs:List Value) (ds:List (DataW H)) (p:List MemPlace),
  (∀ (j:Nat) (t:TypeId) (v:Value),ts[j]?=some t->vs[j]?=some v->Value.okWide P W .any base t v)->
  DataW.TrodAll en P W 0 (fun _=>true) true ts vs ds p->∃ x,(SmallA P ts ds->ok x)/\sz x<=K.all H ds/\RelL (memOf W) Env.none vs (enc x)
theorem argsZ_nil:ArgsZ K P [] (fun _:Unit=>[]) (fun _=>True) (fun _=>0):=by
 intro H en W base vs ds p _ h;obtain ⟨rfl,_,_⟩:=trodAll_nil h;exact ⟨(),fun _=>trivial,xbm _,relL_nil⟩
theorem argsZ_cons {t:TypeId}{ts:List TypeId}{α β:Type}{encA:α->AV}{okA:α->Prop}{szA:α->Nat}{encB:β->List AV}{okB:β->Prop}{szB:β->Nat}
  (hA:ArgZ K P t encA okA szA)(hB:ArgsZ K P ts encB okB szB):ArgsZ K P (t::ts) (fun x:α×β=>encA x.1::encB x.2) (fun x=>okA x.1/\okB x.2) (fun x=>szA x.1+szB x.2):=by
 intro H en W base vs ds p hv h;obtain ⟨v,vs',d,ds',p1,p2,rfl,rfl,rfl,h1,h2⟩:=trodAll_cons h;obtain ⟨a,ha,hsa,hra⟩:=hA H en W base v d p1 (hv 0 t v rfl rfl) h1;obtain ⟨b,hb,hsb,hrb⟩:=hB H en W base vs' ds' p2 (fun j t' v' h1 h2=>hv (j+1) t' v' (by simpa using h1) (by simpa using h2)) h2;refine ⟨(a,b),fun hs=>⟨ha fun n hn=>hs n (by simp only [DataW.weightsEach,xax]; exact .inl hn),hb fun n hn=>hs n (by simp only [DataW.weightsEach,xax]; exact .inr hn)⟩,?_,relL_cons hra hrb⟩;have:=K.cons H d ds';dsimp only;omega
theorem each_app {H:Type}{vt:List TypeId}{gs:List (DataW H)}:∀ {ts:List TypeId} {ds:List (DataW H)},ds.length=ts.length->∀ n∈DataW.weightsEach P ts ds,n∈DataW.weightsEach P (ts++vt) (ds++gs)
 | [],ds,hl,n,hn=>by simp [DataW.weightsEach] at hn
 | t::ts,[],hl,n,hn=>by simp at hl
 | t::ts,d::ds,hl,n,hn=>by
  simp only [DataW.weightsEach,xbn,xax] at hn ⊢
  rcases hn with hn | hn
  ·exact .inl hn
  ·exact .inr (each_app (by simpa using hl) n hn)
theorem trod_len {H:Type}{enc:TypeId×Value->H}{W:World}:∀ {ts:List TypeId} {vs:List Value} {ds:List (DataW H)} {ps:List MemPlace},DataW.TrodAll enc P W 0 (fun _=>true) true ts vs ds ps->ds.length=ts.length:=by
 intro ts
 induction ts with
 | nil=>intro vs ds ps h; obtain ⟨_,rfl,_⟩:=trodAll_nil h; rfl
 | cons t ts ih=>
  intro vs ds ps h;obtain ⟨v,vs',d,ds',p1,p2,rfl,rfl,rfl,h1,h2⟩:=trodAll_cons h;simp [ih h2]
end Go.Dm
