/- The interpreter of closed runs, part CmC. -/
import Derived.Test.YtgcndnddgajekaaGreatDoorCmB
set_option linter.unusedVariables false
set_option linter.unusedSimpArgs false
set_option linter.unusedSectionVars false
set_option linter.unnecessarySimpa false
namespace Go.Cm
open Go
structure WfH (H:Hp):Prop where
 lt:∀ i B,H.t.get i=some B->i<H.nx/\B.fam i<H.nx
 mem:∀ i f cs,H.t.get i=some (.cells f cs)->∃ m,H.fm.get f=some m/\i∈m
def Fresh (E:Env)(lo hi:Nat):Prop:=∀ i,lo<=i->i<hi->E i=none
def Dom (E E':Env)(lo hi:Nat):Prop:=∀ i,E' i≠none->E i≠none\/(lo<=i/\i<hi)
theorem Dom.refl (E:Env)(lo hi:Nat):Dom E E lo hi:=fun _ h=>.inl h
theorem Dom.trans {A B C:Env}{l m h:Nat}(a:Dom A B l m)(b:Dom B C m h)(h1:l<=m)(h2:m<=h):Dom A C l h:=fun i hi=>by
 rcases b i hi with hb | hb
 ·rcases a i hb with ha | ha
  ·exact .inl ha
  ·exact .inr ⟨ha.1,by omega⟩
 ·exact .inr ⟨by omega,hb.2⟩
theorem Dom.add (E:Env)(n:Nat)(x:Nat×Nat×Nat):Dom E (E.add n x) n (n+1):=fun i hi=>by
 unfold Env.add at hi;split at hi
 ·rename_i e; subst e; exact .inr ⟨xaf _,xc6 _⟩
 ·exact .inl hi
theorem Fresh.sub {E:Env}{l h l' h':Nat}(a:Fresh E l h)(h1:l<=l')(h2:h'<=h):Fresh E l' h':=fun i a1 a2=>a i (by omega) (by omega)
theorem Fresh.next {E E':Env}{l m h:Nat}(a:Fresh E l h)(d:Dom E E' l m)(h1:l<=m):Fresh E' m h:=fun i a1 a2=>by
 cases he:E' i with
 | none=>rfl
 | some x=>
  rcases d i (by rw [he]; simp) with hd | hd
  ·exact absurd (a i (by omega) a2) hd
  ·omega
structure St (E:Env)(H:Hp)(w:World):Prop where
 ok:HOk E H.t.get w
theorem dropL_get:∀ (m:List Nat) (t:Tr Blk) (i j:Nat),(dropL t m i).get j=if j∈m/\j≠i then none else t.get j
 | [],t,i,j=>by simp [dropL]
 | k::m,t,i,j=>by
  simp only [dropL];split
  ·rename_i h;have h:=xam h;subst h;rw [dropL_get m];by_cases hj:j=k
   ·subst hj; simp
   ·simp [hj]
  ·rename_i h;have h:=xcp h;rw [dropL_get m,Tr.get_set];by_cases hj:j=k
   ·subst hj; simp [h]
   ·simp [hj]
theorem wr_ok {H H':Hp}{i f:Nat}{cs cs0:List CV}(h:wr H i f cs=some H')(hw:WfH H)(h0:H.t.get i=some (.cells f cs0)) :
  WfH H'/\H'.nx=H.nx/\H'.t.get i=some (.cells f cs)/\H'.fm.get f=some [i]/\(∀ g,g≠f->H'.fm.get g=H.fm.get g)/\
   ∀ j C,j≠i->H'.t.get j=some C->H.t.get j=some C/\Apart i (.cells f cs0) j C:=by
 unfold wr at h;split at h
 ·rename_i m hm;generalize hT:(dropL H.t m i).set i (some (.cells f cs))=T at h;split at h
  ·cases h
  ·rename_i a b c;generalize hF:H.fm.set f (some [i])=F at h;split at h
   ·cases h
   ·rename_i x y z;cases h;have gT:∀ j,(Tr.nd a b c).get j=if j=i then some (.cells f cs) else if j∈m/\j≠i then none else H.t.get j:=fun j=>by
     rw [<- hT,Tr.get_set];split
     ·rfl
     ·rw [dropL_get]
    have gF:∀ j,(Tr.nd x y z).get j=if j=f then some [i] else H.fm.get j:=fun j=>by rw [<- hF,Tr.get_set]
    have key:∀ j C,j≠i->(Tr.nd a b c).get j=some C->H.t.get j=some C/\Apart i (.cells f cs0) j C:=fun j C hj hg=>by
     rw [gT,xab hj] at hg;split at hg
     ·cases hg
     ·rename_i hn;refine ⟨hg,?_⟩;cases C with
      | cells g ds=>
       intro e;subst e;obtain ⟨m',h1,h2⟩:=hw.mem j f ds hg;rw [hm] at h1; cases h1;exact hn ⟨h2,hj⟩
      | mp es=>exact fun e=>hj e.symm
      | it s p=>exact fun e=>hj e.symm
    refine ⟨⟨fun j B hj=>?_,fun j g ds hj=>?_⟩,rfl,by rw [gT,xad rfl],by rw [gF,xad rfl],fun g hg=>by rw [gF,xab hg],key⟩
    ·by_cases e:j=i
     ·subst e;rw [gT,xad rfl] at hj; cases hj;have:=hw.lt _ _ h0;exact ⟨this.1,this.2⟩
     ·exact hw.lt j B (key j B e hj).1
    ·by_cases e:j=i
     ·subst e;rw [gT,xad rfl] at hj; cases hj;exact ⟨[j],by rw [gF,xad rfl],by simp⟩
     ·obtain ⟨h1,h2⟩:=key j _ e hj;obtain ⟨m',h3,h4⟩:=hw.mem j g ds h1;exact ⟨m',by rw [gF,xab (fun e=>h2 e.symm)]; exact h3,h4⟩
 ·cases h
theorem ziz {H H':Hp}{B:Blk}(h:newB H B=some H')(hw:WfH H)(hf:B.fam H.nx=H.nx):WfH H'/\H'.nx=H.nx+1/\H'.t.get H.nx=some B/\∀ j,j≠H.nx->H'.t.get j=H.t.get j:=by
 unfold newB at h;rw [fN_eq] at h;generalize hT:H.t.set H.nx (some B)=T at h;split at h
 ·cases h
 ·rename_i a b c;generalize hF:H.fm.set H.nx (some [H.nx])=F at h;split at h
  ·cases h
  ·rename_i x y z;rw [fN_eq] at h;cases h;have gT:∀ j,(Tr.nd a b c).get j=if j=H.nx then some B else H.t.get j:=fun j=>by rw [<- hT,Tr.get_set]
   have gF:∀ j,(Tr.nd x y z).get j=if j=H.nx then some [H.nx] else H.fm.get j:=fun j=>by rw [<- hF,Tr.get_set]
   refine ⟨⟨fun j C hj=>?_,fun j g ds hj=>?_⟩,rfl,by rw [gT,xad rfl],fun j hj=>by rw [gT,xab hj]⟩
   ·rw [gT] at hj;split at hj
    ·rename_i e; cases hj; subst e; rw [hf]; simp
    ·have:=hw.lt j C hj; simp only; omega
   ·rw [gT] at hj;split at hj
    ·rename_i e;cases hj; subst e;have hf:g=H.nx:=hf;subst hf;exact ⟨_,by rw [gF,xad rfl],by simp⟩
    ·obtain ⟨m,h1,h2⟩:=hw.mem j g ds hj;have:=(hw.lt j _ hj).2;simp only [Blk.fam] at this;exact ⟨m,by rw [gF,xab (by omega)]; exact h1,h2⟩
theorem setT_ok {H H':Hp}{i:Nat}{B B0:Blk}(h:setT H i B=some H')(hw:WfH H)(h0:H.t.get i=some B0)(hc0:B0.isC=false)(hc:B.isC=false) :
  WfH H'/\H'.nx=H.nx/\H'.t.get i=some B/\∀ j,j≠i->H'.t.get j=H.t.get j:=by
 unfold setT at h;generalize hT:H.t.set i (some B)=T at h;split at h
 ·cases h
 ·rename_i a b c;cases h;have gT:∀ j,(Tr.nd a b c).get j=if j=i then some B else H.t.get j:=fun j=>by rw [<- hT,Tr.get_set]
  refine ⟨⟨fun j C hj=>?_,fun j g ds hj=>?_⟩,rfl,by rw [gT,xad rfl],fun j hj=>by rw [gT,xab hj]⟩
  ·rw [gT] at hj;split at hj
   ·rename_i e;cases hj; subst e;have:=hw.lt j B0 h0;refine ⟨this.1,?_⟩;cases B with
    | cells f cs=>cases hc
    | mp es=>exact this.1
    | it s p=>exact this.1
   ·exact hw.lt j C hj
  ·rw [gT] at hj;split at hj
   ·cases hj; cases hc
   ·exact hw.mem j g ds hj
section
variable {P:Program}{L:Lo}{H H':Hp}{E:Env}{a:Act}{w:World}
theorem Turned.row (w:World)(b:Nat)(cs:Array Value):Turned w (w.setRow b cs) b:=⟨by simp [World.setRow],fun k hk=>setRow_other w b k cs hk,rfl,rfl,rfl⟩
theorem zmk {n:Nat}(g o:Nat)(t:TypeId)(fr:Nat×Nat)(hth:Thaw fr n):∀ (vs:List Value) (i:Nat) (cur:Array Value) (w:World),w.heap[g]?=some (.cells cur t fr)->cur.size=n->o+i+vs.length<=cur.size->(∀ v∈vs,v.oneCell'=true)->
  (storeCells ⟨g,o,none⟩ vs i).run P w = .ok () (w.setRow g (cur.toList.take (o+i)++vs++cur.toList.drop (o+i+vs.length)).toArray)
 | [],i,cur,w,hg,_,_,_=>by
  simp only [storeCells,xbh,xa3,xcu,xbp,xec];rw [setRow_self w g cur t fr hg];rfl
 | v::rest,i,cur,w,hg,hn,hl,h1=>by
  have hi:o+i<cur.size:=by simp at hl; omega
  have hcell:w.cell? ⟨g,o+i,none⟩=some cur[o+i]:=by simp [World.cell?,hg,hi]
  have hfro:w.frozen? ⟨g,o+i,none⟩=false:=by
   have:=hth (o+i) (by omega);simp only [World.frozen?,hg];rw [Bool.and_eq_false_iff];simp only [xbd];by_cases h:fr.1<=o+i
   ·exact .inr fun h2=>this ⟨h,h2⟩
   ·exact .inl h
  have hst:(store ((⟨g,o,none⟩:Addr).add i) v).run P w = .ok () (w.setRow g (cur.setIfInBounds (o+i) v)):=by
   rw [add_at,run_store P w _ v _ (h1 v (by simp)),hcell];simp [hfro,setCell_eq_setRow w g (o+i) cur t fr v hg]
  have ih:=zmk g o t fr hth rest (i+1) (cur.setIfInBounds (o+i) v) (w.setRow g (cur.setIfInBounds (o+i) v)) (xdj w g cur _ t _ hg) (by simpa using hn) (by simp at hl ⊢; omega) (fun x hx=>h1 x (by simp [hx]));simp only [storeCells,xao,hst,xae,ih];congr 1;have:∀ (w:World) (x y:Array Value),(w.setRow g x).setRow g y=w.setRow g y:=fun w x y=>by
   unfold World.setRow;simp only;congr 1;apply Array.ext_getElem?;intro k;simp only [Array.getElem?_modify];by_cases hk:g=k
   ·simp only [hk,xc1,Option.map_map];congr 1;funext ob;cases ob <;> rfl
   ·simp [hk]
  rw [this];congr 1;apply congrArg;simp only [Array.toList_setIfInBounds,xal];apply xbz;intro j;simp only [xaj,xb7,xau,xbb,xcr,xar,xcn,xd0,xbv]
  grind
theorem CellsOk_set {vs:Array Value}{β off:Nat}{cs cs' ds:List CV}{us:List Value}(h:CellsOk E vs β cs)(hl:β+cs.length<=vs.size)(hu:RCs E us ds)(hc:zat ds=true)(hs:zjv cs off ds=some cs')(hne:ds≠[]) :
  CellsOk E (vs.toList.take (β+off)++us++vs.toList.drop (β+off+us.length)).toArray β cs'/\cs'.length=cs.length/\β+off+us.length<=vs.size:=by
 obtain ⟨l⟩:=vs;simp only [xaz] at hl ⊢;obtain ⟨e,hb⟩:=zfh _ _ _ _ hs;have hb:=hb hne;have hlen:=hu.1;refine ⟨fun j c hj=>?_,by rw [e]; simp; omega,by omega⟩;rw [e] at hj;have hjl:j<cs.length:=by
  have:=(xac.1 hj).1;simp at this; omega
 rw [xa1];by_cases h1:j<off
 ·rw [xaj,xak (by simp; omega),xau,xad h1] at hj;obtain ⟨v,g1,g2,g3⟩:=h j c hj;rw [xa1] at g1;refine ⟨v,?_,g2,g3⟩;rw [xaj,xak (by rw [xar]; omega),xau,xad (by omega)];exact g1
 ·by_cases h2:j<off+ds.length
  ·rw [xaj,xas (by rw [xar]; omega),xar,xca (by omega),xak (by omega)] at hj;obtain ⟨v,g1,g2⟩:=hu.get hj;refine ⟨v,?_,g2,zeu hc hj⟩;rw [xaj,xas (by rw [xar]; omega),xar,xca (by omega),xak (by omega)];rw [show β+j - (β+off)=j - off by omega]; exact g1
  ·rw [xaj,xas (by rw [xar]; omega),xar,xca (by omega),xas (by omega),xbb] at hj;rw [show off+ds.length+(j - off - ds.length)=j by omega] at hj;obtain ⟨v,g1,g2,g3⟩:=h j c hj;rw [xa1] at g1;refine ⟨v,?_,g2,g3⟩;rw [xaj,xas (by rw [xar]; omega),xar,xca (by omega),xas (by omega),xbb];rw [show β+off+us.length+(β+j - (β+off) - us.length)=β+j by omega];exact g1
theorem write_ok (hS:St E H w)(hw:WfH H){i f off b β n:Nat}{cs cs' ds:List CV}{us:List Value}(hi:H.t.get i=some (.cells f cs))(hE:E i=some (b,β,n))(hu:RCs E us ds)(hc:zat ds=true)(hs:zjv cs off ds=some cs')(hne:ds≠[])(hwr:wr H i f cs'=some H') :
  ∃ w',(∀ (P:Program),(storeCells ⟨b,β+off,none⟩ us).run P w = .ok () w')/\Stp E H.t.get w E H'.t.get w'/\St E H' w':=by
 obtain ⟨b',β',n',ty,fr,vs,e1,e2,e3,e4,e5,e6⟩:=hS.ok.blk i _ hi;rw [hE] at e1; cases e1;obtain ⟨c1,c2,c3⟩:=CellsOk_set e6 (by omega) hu hc hs hne;obtain ⟨w1,w2,w3,_,_,w4⟩:=wr_ok hwr hw hi;have h1:∀ u∈us,u.oneCell'=true:=fun u hu'=>by
  obtain ⟨j,hj⟩:=xcc hu';have hjl:=(xac.1 hj).1;obtain ⟨d,hdj⟩:∃ d,ds[j]?=some d:=⟨_,xag (by rw [<- hu.1]; exact hjl)⟩;exact (hu.2 j _ _ hj hdj).one (zeu hc hdj)
 have hsize:(vs.toList.take (β+off)++us++vs.toList.drop (β+off+us.length)).toArray.size=n:=by
  obtain ⟨l⟩:=vs;simp only [xaz] at e4 c3;simp only [xaz,xaa,xar,xa8];omega
 have hrow:=xdj w b vs (vs.toList.take (β+off)++us++vs.toList.drop (β+off+us.length)).toArray ty fr e2;obtain ⟨t1,t2⟩:=hS.ok.turn (B':=.cells f cs') hi hE (Turned.row w b _)
  ⟨b,β,n,ty,fr,_,hE,hrow,e3,hsize,by omega,c1⟩ (fun _ C=>by cases C <;> exact Iff.rfl) (fun _ C=>by cases C <;> exact Iff.rfl)
  (fun C hC=>by rw [w3] at hC; exact (Option.some.inj hC).symm) w4
 refine ⟨_,fun P=>?_,t2,⟨t1⟩⟩;have:=zmk (P:=P) b (β+off) ty fr e3 us 0 vs w e2 e4 (by omega) h1;simpa using this
def Did (P:Program)(o:Oper)(a:Act)(w:World)(v:Value)(w':World):Prop:=(execOp a.eval o).run P w = .ok (.value v) w'\/((execOp a.eval o).run P w = .ok .skip w'/\v=undef)
theorem zib:RC E undef (.tup []):=.tup [] [] rfl fun j v c h=>by simp at h
def TurnOk (P:Program)(o:Oper)(E:Env)(H:Hp)(a:Act)(w:World)(x:CV)(H':Hp):Prop:=
 ∃ v E' w',Did P o a w v w'/\Stp E H.t.get w E' H'.t.get w'/\Dom E E' H.nx H'.nx/\St E' H' w'/\RC E' v x
end
end Go.Cm
namespace Go.Cm
open Go
section
variable {P:Program}{L:Lo}{H H':Hp}{E:Env}{a:Act}{w:World}
structure SrcA (P:Program)(w:World)(t2:TypeId)(inf:TypeInfo)(x:Value)(m:Nat)(news:List Value):Prop where
 alt:(((∃ e,P.underlying t2=some (.slice e))\/P.underlying t2=some .string)/\(∀ w',(Builtin.lenOf x).run P w' = .ok m w')/\(Builtin.firstCells inf.size m x).run P w = .ok news.toArray w/\(Builtin.firstCells inf.size m x).run P w.drew = .ok news.toArray w.drew)\/
  ((∃ k,P.underlying t2=some (.int k))/\(∃ k,x = .int k (m:Int))/\m<=9223372036854775807/\m*inf.bytes<=281474976710656/\inf.size≠0/\∃ z,inf.zero=some z/\news.toArray=Builtin.zeroCells z.cells m)
 n:news.length=m*inf.size
 one:∀ u∈news,u.oneCell'=true
variable {t t2 ty e:TypeId}{inf:TypeInfo}{x:Value}{m:Nat}{news:List Value}
theorem zeroCells_nil (z:Array Value):Builtin.zeroCells z 0=#[]:=by simp [Builtin.zeroCells]
theorem app_none (ht:P.underlying t=some (.slice e))(hi:P.info? e=some inf)(hx:SrcA P w t2 inf x m news){base:Option Addr}{n0 c:Nat}(hm:m=0)(hn:n0<=c) :
  (Builtin.append_ #[t,t2] ty #[.slice base n0 c,x]).run P w = .ok (.slice base n0 c) w:=by
 have hz:news=[]:=xai (by rw [hx.n,hm,xei])
 rcases hx.alt with ⟨hd,h2,h1,_⟩ | ⟨⟨k,hd⟩,⟨k',rfl⟩,h1,h2,hs0,z,h3,h4⟩
 ·rw [hz,hm] at h1;have h2:=h2 w;rw [hm] at h2
  rcases hd with ⟨e2,hd⟩ | hd <;> cases base <;> simp [Builtin.append_,xah ht,xah hd,sizeOf,typeInfo,hi,h2,h1,hn,storeCells]
 ·subst hm;have wn:IntKind.i64.wrap 0=0:=by rw [xc7]; omega
  cases base <;> simp [Builtin.append_,xah ht,xah hd,asInt,asIntOf,sizeOf,typeInfo,hi,wn,hn,storeCells]
theorem app_room {w':World}(ht:P.underlying t=some (.slice e))(hi:P.info? e=some inf)(hx:SrcA P w t2 inf x m news){b o n0 c:Nat}(hm:m≠0)(hroom:n0+m<=c)
  (hst:(storeCells ⟨b,o+n0*inf.size,none⟩ news).run P w = .ok () w') :
  (Builtin.append_ #[t,t2] ty #[.slice (some ⟨b,o,none⟩) n0 c,x]).run P w = .ok (.slice (some ⟨b,o,none⟩) (n0+m) c) w':=by
 rcases hx.alt with ⟨hd,h2,h1,_⟩ | ⟨⟨k,hd⟩,⟨k',rfl⟩,h1,h2,hs0,z,h3,h4⟩
 ·rcases hd with ⟨e2,hd⟩ | hd <;> simp [Builtin.append_,xah ht,xah hd,sizeOf,typeInfo,hi,h2,hroom,h1,add_at,hst]
 ·have wn:IntKind.i64.wrap (m:Int)=m:=by rw [xc7]; omega
  have n1:¬ ((m:Int)<0):=by omega
  have n2:¬ (281474976710656<(m:Int)*(inf.bytes:Int)):=by rw [<- xc3]; omega
  have h4':(Builtin.zeroCells z.cells m).toList=news:=by rw [<- h4]
  have h0:¬ (m*inf.size=0):=fun h=>by rcases Nat.mul_eq_zero.1 h with h | h; exact hm h; exact hs0 h
  simp [Builtin.append_,xah ht,xah hd,asInt,asIntOf,sizeOf,typeInfo,zeroValue,hi,h3,wn,n1,n2,hroom,hm,hs0,h0,h4',add_at,hst]
theorem app_grow {z:Value}(ht:P.underlying t=some (.slice e))(hi:P.info? e=some inf)(hz:inf.zero=some z)(hx:SrcA P w t2 inf x m news){base:Option Addr}{n0 c:Nat}{olds:List Value}
  (hold:(Builtin.firstCells inf.size n0 (.slice base n0 c)).run P w.drew = .ok olds.toArray w.drew)(hm:m≠0)(hg:c<n0+m)(h63:n0+m<=9223372036854775807)(hb:(n0+m)*inf.bytes<=140737488355328) :
  (Builtin.append_ #[t,t2] ty #[.slice base n0 c,x]).run P w =
   .ok (.slice (some ⟨w.heap.size,0,none⟩) (n0+m) (grownCap w (n0+m) c e))
    (w.drew.alloc (.cells (olds++news++(Builtin.zeroCells z.cells (grownCap w (n0+m) c e - (n0+m))).toList).toArray e)):=by
 have hn:¬ (n0+m<=c):=by omega
 have h63':¬ (9223372036854775807<((n0:Int)+(m:Int))):=by omega
 have h48:=growslice_fits hg hb;have h48':¬ (281474976710656<Builtin.nextslicecap (n0+m) c*inf.bytes):=by omega
 rcases hx.alt with ⟨hd,h2,_,h1⟩ | ⟨⟨k,hd⟩,⟨k',rfl⟩,h1,h2,hs0,z',h3,h4⟩
 ·rcases hd with ⟨e2,hd⟩ | hd <;> simp [Builtin.append_,xah ht,xah hd,sizeOf,typeInfo,zeroValue,hi,hz,h2,hn,h63',h48',Question.forced,h1,hold,newRow,grownCap]
  all_goals (congr 2; apply Array.ext'; simp [xaj])
 ·rw [hz] at h3; cases h3;have wn:IntKind.i64.wrap (m:Int)=m:=by rw [xc7]; omega
  have n1:¬ ((m:Int)<0):=by omega
  have n2:¬ (281474976710656<(m:Int)*(inf.bytes:Int)):=by rw [<- xc3]; omega
  have h0:¬ (m*inf.size=0):=fun h=>by rcases Nat.mul_eq_zero.1 h with h | h; exact hm h; exact hs0 h
  simp [Builtin.append_,xah ht,xah hd,asInt,asIntOf,sizeOf,typeInfo,zeroValue,hi,hz,wn,n1,n2,hn,h63',h48',Question.forced,hm,hs0,h0,hold,newRow,grownCap,<- h4]
  try (congr 2; apply Array.ext'; simp [xaj])
end
section
variable {P:Program}{L:Lo}{H H':Hp}{E:Env}{a:Act}{w:World}
theorem zoa {P:Program}(w:World){size n:Nat}{b o len c:Nat}{us:List Value}(hl:us.length=n*size)(h:∀ j u,us[j]?=some u->w.cell? ⟨b,o+j,none⟩=some u) :
  (Builtin.firstCells size n (.slice (some ⟨b,o,none⟩) len c)).run P w = .ok us.toArray w:=
 run_firstCells_some (P:=P) w size n ⟨b,o,none⟩ len c us hl fun j v hv=>by rw [add_at]; exact h j v hv
theorem one_of {us:List Value}{ds:List CV}(h:RCs E us ds)(hc:zat ds=true):∀ u∈us,u.oneCell'=true:=fun u hu=>by
 obtain ⟨j,hj⟩:=xcc hu;have hjl:=(xac.1 hj).1;obtain ⟨d,hd⟩:∃ d,ds[j]?=some d:=⟨_,xag (by rw [<- h.1]; exact hjl)⟩;exact (h.2 j _ _ hj hd).one (zeu hc hd)
theorem seqT_eq {t2:TypeId}(h:seqT P t2=true):(∃ e,P.underlying t2=some (.slice e))\/P.underlying t2=some .string:=by
 unfold seqT at h;split at h
 ·rename_i e he; exact .inl ⟨e,he⟩
 ·rename_i he; exact .inr he
 ·cases h
theorem src_ok {sz m:Nat}{news:List CV}{x:CV}{v:Value}{inf:TypeInfo}{t2:TypeId}(h:src H sz x=some (m,news))(hv:RC E v x)(hH:HOk E H.t.get w)(hs:inf.size=sz)(ht:seqT P t2=true) :
  ∃ us,RCs E us news/\zat news=true/\SrcA P w t2 inf v m us:=by
 have hd:=seqT_eq ht;unfold src at h;split at h
 ·cases h;rw [hv.nils_inv];exact ⟨[],.nil,rfl,.inl ⟨hd,fun _=>rfl,rfl,rfl⟩,by simp,by simp⟩
 ·cases h;obtain ⟨ad,c,rfl,_⟩:=hv.se_inv;have h0:∀ w:World,(Builtin.firstCells inf.size 0 (.slice ad 0 c)).run P w = .ok #[] w:=by
   intro w;cases ad with
   | none=>rfl
   | some ad=>simp [Builtin.firstCells,loadCells,loadCellsFrom]
  exact ⟨[],.nil,rfl,.inl ⟨hd,fun _=>rfl,h0 w,h0 _⟩,by simp,by simp⟩
 ·rename_i l;split at h
  ·rename_i hz;have hz:=xam hz;subst hz;cases h;obtain ⟨rfl,hb⟩:=hv.str_inv;have hex:(ByteArray.mk (l.map UInt8.ofNat).toArray).extract 0 l.length=⟨(l.map UInt8.ofNat).toArray⟩:=by
    apply ByteArray.ext;simp [xe4,List.take_of_length_le]
   have hval:∀ b∈l,((UInt8.ofNat b).toNat:Int)=(b:Int):=fun b hbm=>by
    have:=hb b hbm;simp [xbw,xb9 this]
   have hf:∀ w:World,(Builtin.firstCells inf.size l.length (.string ⟨(l.map UInt8.ofNat).toArray⟩)).run P w = .ok (l.map fun (b:Nat)=>Value.int .u8 (b:Int)).toArray w:=by
    intro w;simp only [Builtin.firstCells,hex,xat];congr 1;apply Array.ext';simp only [xc0,xdd];refine xff fun b hbm=>?_;simp only [Function.comp,hval b hbm]
   refine ⟨l.map fun (b:Nat)=>Value.int .u8 (b:Int),⟨by simp,fun j v c h1 h2=>?_⟩,?_,.inl ⟨hd,fun w'=>by simp [Builtin.lenOf,ByteArray.size],hf w,hf _⟩,by simp [hs],fun u hu=>?_⟩
   ·rw [xbf] at h1 h2;obtain ⟨b,hb1,rfl⟩:=xay.1 h1;rw [hb1] at h2;cases h2;exact .int _ _
   ·have:∀ l:List Nat,zat (l.map fun b=>CV.int .u8 (.ofNat b))=true:=by
     intro l
     induction l with
     | nil=>rfl
     | cons x l ih=>simp only [xa9,zat,isCell,ih]
    exact this l
   ·obtain ⟨b,_,rfl⟩:=xb1.1 hu; rfl
  ·cases h
 ·rename_i i off len cap ex z;split at h
  ·rename_i f cs hc;split at h
   ·rename_i r hr;cases h;obtain ⟨c,b,β,n,hE,rfl,_⟩:=hv.sl_inv;obtain ⟨b',β',n',ty,fr,vs,e1,e2,e3,e4,e5,e6⟩:=hH.blk i _ (zcw hc);rw [hE] at e1; cases e1;obtain ⟨us,u1,u2,u3,u4,u5⟩:=zm8 e2 e6 hr;refine ⟨us,u2,u4,.inl ⟨hd,fun _=>rfl,zoa w (by rw [u1,hs]) u5,zoa w.drew (by rw [u1,hs]) u5⟩,by rw [u1,hs],u3⟩
   ·cases h
  ·cases h
 ·cases h
theorem zero_src {e t2:TypeId}{z:List CV}{sz by' m:Nat}{b:CV}{v:Value}{inf:TypeInfo}(hz:zeroOf P e=some z)(hi:P.info? e=some inf)(hs:inf.size=sz)(hzl:z.length=sz)(h0:0<sz)(hb:inf.bytes=by')(hc:capOk by' m=true)
  (ht:intT P t2=true)(hn:natOf b=some m)(hv:RC E v b):∃ us,RCs E us (rep z m)/\zat (rep z m)=true/\SrcA P w t2 inf v m us:=by
 obtain ⟨inf',zv,hi',hzv,hzr,hzc⟩:=zhv (P:=P) (E:=E) hz;rw [hi] at hi'; cases hi';obtain ⟨k,rfl⟩:=natOf_eq hn hv;obtain ⟨c1,c2⟩:=xa2.1 hc;have c1:=xap c1;have c2:=xap c2;have hrep:=rep_rel hzr m;have hd:∃ k,P.underlying t2=some (.int k):=by
  unfold intT at ht;split at ht
  ·rename_i k hk; exact ⟨k,hk⟩
  ·cases ht
 refine ⟨_,hrep,rep_all hzc m,.inr ⟨hd,⟨k,rfl⟩,c2,by rw [hb]; omega,by omega,zv,hzv,?_⟩,by rw [hrep.1,rep_len,hzl,hs],one_of hrep (rep_all hzc m)⟩;have:zv.cells.size=z.length:=by simpa using hzr.1
 apply Array.ext';simp [Builtin.zeroCells,this]
theorem also_ok {H1 H2:Hp}{i f:Nat}{cs c0:List CV}(h:also H1 i f cs=some H2)(hw:WfH H1)(hi:H1.t.get i=some (.cells f c0))(hm:H1.fm.get f=some [i]) :
  WfH H2/\H2.nx=H1.nx+1/\H2.t.get H1.nx=some (.cells f cs)/\∀ j,j≠H1.nx->H2.t.get j=H1.t.get j:=by
 unfold also at h;rw [fN_eq] at h;generalize hT:H1.t.set H1.nx (some (.cells f cs))=T at h;split at h
 ·cases h
 ·rename_i a b c;generalize hF:H1.fm.set f (some [i,H1.nx])=F at h;split at h
  ·cases h
  ·rename_i x y z;rw [fN_eq] at h;cases h;have gT:∀ j,(Tr.nd a b c).get j=if j=H1.nx then some (.cells f cs) else H1.t.get j:=fun j=>by rw [<- hT,Tr.get_set]
   have gF:∀ j,(Tr.nd x y z).get j=if j=f then some [i,H1.nx] else H1.fm.get j:=fun j=>by rw [<- hF,Tr.get_set]
   refine ⟨⟨fun j C hj=>?_,fun j g ds hj=>?_⟩,rfl,by rw [gT,xad rfl],fun j hj=>by rw [gT,xab hj]⟩
   ·rw [gT] at hj;split at hj
    ·rename_i e;cases hj; subst e;have:=(hw.lt i _ hi).2;simp only [Blk.fam] at this ⊢;omega
    ·have:=hw.lt j C hj; simp only; omega
   ·rw [gT] at hj;split at hj
    ·rename_i e;cases hj;exact ⟨_,by rw [gF,xad rfl],by simp [e]⟩
    ·obtain ⟨m,h1,h2⟩:=hw.mem j g ds hj;by_cases e:g=f
     ·subst e;rw [hm] at h1; cases h1;exact ⟨_,by rw [gF,xad rfl],by simp at h2 ⊢; exact .inl h2⟩
     ·exact ⟨m,by rw [gF,xab e]; exact h1,h2⟩
theorem evalApp_wf {by' sz m:Nat}{news:List CV}{x y:CV}(h:evalApp H by' sz m news x=some (y,H'))(hw:WfH H):WfH H'/\H.nx<=H'.nx:=by
 unfold evalApp at h;split at h
 ·split at h
  ·cases h; exact ⟨hw,xaf _⟩
  ·split at h
   ·rw [fS_eq] at h;split at h
    ·rename_i hn;cases h;obtain ⟨h1,h2,_⟩:=ziz hn hw rfl;exact ⟨h1,by omega⟩
    ·cases h
   ·cases h
 ·split at h
  ·split at h
   ·cases h; exact ⟨hw,xaf _⟩
   ·rw [fN_eq] at h;split at h
    ·rename_i f cs hc;split at h
     ·split at h
      ·rw [fS_eq] at h;split at h
       ·rename_i hn;cases h;obtain ⟨h1,h2,_⟩:=wr_ok hn hw (zcw hc);exact ⟨h1,by omega⟩
       ·cases h
      ·cases h
     ·split at h
      ·rw [fS_eq] at h;split at h
       ·split at h
        ·rename_i hn;cases h;obtain ⟨h1,h2,_⟩:=ziz hn hw rfl;exact ⟨h1,by omega⟩
        ·cases h
       ·split at h
        ·rename_i H1 hn;split at h
         ·rename_i H2 ha;cases h;obtain ⟨h1,h2,h3,h4,_⟩:=wr_ok hn hw (zcw hc);obtain ⟨g1,g2,_⟩:=also_ok ha h1 h3 h4;exact ⟨g1,by omega⟩
         ·cases h
        ·cases h
      ·cases h
    ·cases h
  ·cases h
 ·cases h
theorem Apart.symm {i j:Nat}{B C:Blk}(h:Apart i B j C):Apart j C i B:=by
 cases B <;> cases C <;> exact fun e=>h e.symm
theorem apart_live {h:Hf}{i l f:Nat}{cs:List CV}{B2:Blk}(hi:h i=some (.cells f cs))(hl:h l=some B2)(hne:∀ g ds,B2 = .cells g ds->f≠g):Apart i (.cells f cs) l B2:=by
 cases B2 with
 | cells g ds=>exact hne g ds rfl
 | mp es=>intro e; subst e; rw [hi] at hl; cases hl
 | it s p=>intro e; subst e; rw [hi] at hl; cases hl
theorem HOk.alias {h h':Hf}(hs:HOk E h w){i n f b β β' k:Nat}{cs cs2:List CV}(hi:h i=some (.cells f cs))(he:E i=some (b,β,k))(hn:E n=none)
  (hB:BOk (E.add n (b,β',k)) w n (.cells f cs2))(h1:∀ C,h' n=some C->C = .cells f cs2)(h2:∀ j C,j≠n->h' j=some C->h j=some C) :
  HOk (E.add n (b,β',k)) h' w/\Stp E h w (E.add n (b,β',k)) h' w:=by
 have hle:=Env.le_add (x:=(b,β',k)) hn;have hnew:(E.add n (b,β',k)) n=some (b,β',k):=xad rfl;have hold:∀ j C,j≠n->h' j=some C->∃ x,E j=some x/\(E.add n (b,β',k)) j=some x:=fun j C hj hc=>by
  obtain ⟨b1,β1,k1,e1,_⟩:=(hs.blk j C (h2 j C hj hc)).env;exact ⟨_,e1,hle _ _ e1⟩
 have key:∀ l B2,l≠n->h' l=some B2->Apart n (.cells f cs2) l B2->∀ β2 n2,E l=some (b,β2,n2)->False:=fun l B2 el hl ha β2 n2 e2=>
  hs.dis i _ l B2 _ _ _ _ _ hi (h2 l B2 el hl) (apart_live hi (h2 l B2 el hl) fun g ds e=>by subst e; exact ha) he e2
 refine ⟨⟨fun j C hj=>?_,fun j B1 l B2 b1 β1 n1 β2 n2 hj hl ha e1 e2=>?_⟩,hle,xaf _,fun _ _ _=>rfl,?_,rfl,rfl,rfl⟩
 ·by_cases e:j=n
  ·subst e; rw [h1 C hj]; exact hB
  ·exact (hs.blk j C (h2 j C e hj)).mono hle fun _ _ _ _=>rfl
 ·by_cases ej:j=n
  ·subst ej;rw [hnew] at e1; cases e1;rw [h1 B1 hj] at ha;by_cases el:l=j
   ·subst el;rw [h1 B2 hl] at ha;exact ha rfl
   ·obtain ⟨x,g1,g2⟩:=hold l B2 el hl;rw [g2] at e2; cases e2;exact key l B2 el hl ha _ _ g1
  ·obtain ⟨x,f1,f2⟩:=hold j B1 ej hj;rw [f2] at e1; cases e1;by_cases el:l=n
   ·subst el;rw [hnew] at e2; cases e2;rw [h1 B2 hl] at ha;exact key j B1 ej hj ha.symm _ _ f1
   ·obtain ⟨y,g1,g2⟩:=hold l B2 el hl;rw [g2] at e2; cases e2;exact hs.dis j B1 l B2 _ _ _ _ _ (h2 j B1 ej hj) (h2 l B2 el hl) ha f1 g1
 ·rintro b' ⟨j,C,β1,n1,hj,e1⟩;by_cases e:j=n
  ·subst e; rw [hnew] at e1; cases e1; exact .inl ⟨i,_,_,_,hi,he⟩
  ·obtain ⟨x,g1,g2⟩:=hold j C e hj;rw [g2] at e1; cases e1;exact .inl ⟨j,C,_,_,h2 j C e hj,g1⟩
theorem Pushed.drew (w:World)(o:Obj):Pushed w (w.drew.alloc o) o:=⟨rfl,rfl,rfl,rfl⟩
theorem grow_ok {t t2 ty e:TypeId}{inf:TypeInfo}{z:Value}{v:Value}{m sz:Nat}{us olds:List Value}{news oldc:List CV}{base:Option Addr}{n0 c:Nat}
  (hS:St E H w)(hw:WfH H)(hfr:E H.nx=none)(ht:P.underlying t=some (.slice e))(hi:P.info? e=some inf)(hs:inf.size=sz)(hz:inf.zero=some z)(hzl:z.cells.size=sz)
  (hx:SrcA P w t2 inf v m us)(hr:RCs E us news)(hac:zat news=true)(hm:m≠0)(ho:RCs E olds oldc)(hoc:zat oldc=true)(hol:olds.length=n0*sz)
  (hold:(Builtin.firstCells inf.size n0 (.slice base n0 c)).run P w.drew = .ok olds.toArray w.drew)(hg:c<n0+m)(hcap:capOk inf.bytes (n0+m)=true)
  {g:Nat}(n2:H'.nx=H.nx+1)(n3:H'.t.get H.nx=some (.cells g (oldc++news)))(n4:∀ j,j≠H.nx->H'.t.get j=H.t.get j) :
  ∃ r E' w',(Builtin.append_ #[t,t2] ty #[.slice base n0 c,v]).run P w = .ok r w'/\Stp E H.t.get w E' H'.t.get w'/\Dom E E' H.nx H'.nx/\St E' H' w'/\RC E' r (.sl H.nx 0 (n0+m) (n0+m) false sz):=by
 obtain ⟨c1,c2⟩:=xa2.1 hcap;have c1:=xap c1;have c2:=xap c2;have hrun:=app_grow (ty:=ty) ht hi hz hx hold hm hg c2 c1;have hGm:=xdz w (n0+m) c e (by unfold maxLen; omega);have hGl:=xfc w (n0+m) c e;generalize grownCap w (n0+m) c e=G at hrun hGm hGl;have hp:=Pushed.drew w (.cells (olds++us++(Builtin.zeroCells z.cells (G - (n0+m))).toList).toArray e);have hsz:(olds++us++(Builtin.zeroCells z.cells (G - (n0+m))).toList).length=G*sz:=by
  have e1:(Builtin.zeroCells z.cells (G - (n0+m))).toList.length=(G - (n0+m))*sz:=by simp [Builtin.zeroCells,hzl]
  rw [xaa,xaa,e1,hol,hx.n,hs,<- xcj,<- xcj];congr 1; omega
 have hle:=Env.le_add (x:=(w.heap.size,0,G*sz)) hfr;have hall:=ho.append hr;have hB:BOk (E.add H.nx (w.heap.size,0,G*sz)) (w.drew.alloc (.cells (olds++us++(Builtin.zeroCells z.cells (G - (n0+m))).toList).toArray e)) H.nx (.cells g (oldc++news)):=by
  refine ⟨_,_,_,e,(0,0),_,xad rfl,hp.new,thaw0 _,by simpa using hsz,?_,fun j c hj=>?_⟩
  ·rw [<- hsz]; simp only [xaa]; rw [<- ho.1,<- hr.1]; omega
  ·obtain ⟨u,g1,g2⟩:=hall.get hj;refine ⟨u,?_,g2.mono hle,zeu (zmj hoc hac) hj⟩;have hjl:=(xac.1 g1).1;rw [xbr,xa1,xak hjl];exact g1
 obtain ⟨h1,h2⟩:=hS.ok.new (h':=H'.t.get) hfr hp hB (fun C hC=>by rw [n3] at hC; exact (Option.some.inj hC).symm) (fun j C hj hC=>by rw [n4 j hj] at hC; exact hC);refine ⟨_,_,_,hrun,h2,by rw [n2]; exact .add _ _ _,⟨h1⟩,?_⟩;have:=RC.sl (E:=E.add H.nx (w.heap.size,0,G*sz)) H.nx 0 (n0+m) (n0+m) false sz G _ _ _ (xad rfl) hGl (fun h=>by cases h) (by omega) hGm (xaf _);simpa using this
theorem app_both {t t2 ty e:TypeId}{inf:TypeInfo}{z:Value}{v:Value}{m' sz':Nat}{us os:List Value}{news olds:List CV}{H1:Hp}{i f off len cap c b β n:Nat}{cs:List CV}{ty':TypeId}{fr:Nat×Nat}{vs:Array Value}
  (hS:St E H w)(hw:WfH H)(hfr:E H.nx=none)(ht:P.underlying t=some (.slice e))(hi:P.info? e=some inf)(hs:inf.size=sz')(hz:inf.zero=some z)(hzl:z.cells.size=sz')
  (hx:SrcA P w t2 inf v (m'+1) us)(hr:RCs E us news)(hac:zat news=true)(hcell:H.t.get i=some (.cells f cs))(hE:E i=some (b,β,n))
  (e2:w.heap[b]?=some (.cells vs ty' fr))(e3:Thaw fr n)(e4:vs.size=n)(e5:β+cs.length<=n)(e6:CellsOk E vs β cs)(hc1:cap<=c)(hc3:β+off+c*sz'<=n)(hc4:c<=maxLen)(hle:¬ len+(m'+1)<=cap)
  (hcap:capOk inf.bytes (len+(m'+1))=true)(hold:zgi cs off (len*sz')=some olds)(o1:os.length=len*sz')(o2:RCs E os olds)(o4:zat olds=true)(o5:∀ j u,os[j]?=some u->w.cell? ⟨b,β+off+j,none⟩=some u)
  (hfc:∀ k,(Builtin.firstCells inf.size len (.slice (some ⟨b,β+off,none⟩) len k)).run P w.drew = .ok os.toArray w.drew)
  (hwr:wr H i f (cs.take (off+len*sz'))=some H1)(hal:also H1 i f (olds++news)=some H') :
  ∃ r E' w',(Builtin.append_ #[t,t2] ty #[.slice (some ⟨b,β+off,none⟩) len c,v]).run P w = .ok r w'/\Stp E H.t.get w E' H'.t.get w'/\Dom E E' H.nx H'.nx/\St E' H' w'/\RC E' r (.sl H1.nx 0 (len+(m'+1)) (len+(m'+1)) false sz'):=by
 obtain ⟨w1,w2,w3,w4,_,w5⟩:=wr_ok hwr hw hcell;obtain ⟨a1,a2,a3,a4⟩:=also_ok hal w1 w3 w4;obtain ⟨k1,k2⟩:=zge _ _ _ _ hold;have hk2:off+len*sz'<=cs.length\/len*sz'=0:=by
  by_cases h:0<len*sz'
  ·exact .inl (k2 h)
  ·exact .inr (by omega)
 have hpre:∀ j c,(cs.take (off+len*sz'))[j]?=some c->j<off+len*sz'/\cs[j]?=some c:=fun j c hj=>by
  rw [xau] at hj;split at hj
  ·rename_i h; exact ⟨h,hj⟩
  ·cases hj
 have hSame:∀ j C,Apart i (.cells f (cs.take (off+len*sz'))) j C↔Apart i (.cells f cs) j C:=fun _ C=>by cases C <;> exact Iff.rfl
 have hSame':∀ j C,Apart j C i (.cells f (cs.take (off+len*sz')))↔Apart j C i (.cells f cs):=fun _ C=>by cases C <;> exact Iff.rfl
 by_cases hroom:len+(m'+1)<=c
 ·
  have husl:us.length=(m'+1)*sz':=by rw [hx.n,hs]
  have hfit:β+off+len*sz'+us.length<=vs.size:=by
   have:(len+(m'+1))*sz'<=c*sz':=xa6 _ hroom;rw [xcj] at this;omega
  have hst:=zmk (P:=P) b (β+off+len*sz') ty' fr e3 us 0 vs w e2 e4 (by omega) hx.one;simp only [xcu] at hst;have hrow:=xdj w b vs (vs.toList.take (β+off+len*sz')++us++vs.toList.drop (β+off+len*sz'+us.length)).toArray ty' fr e2;have hTu:=Turned.row w b (vs.toList.take (β+off+len*sz')++us++vs.toList.drop (β+off+len*sz'+us.length)).toArray;generalize hvs':(vs.toList.take (β+off+len*sz')++us++vs.toList.drop (β+off+len*sz'+us.length)).toArray=vs' at hst hrow hTu;have hlow:∀ j,j<β+off+len*sz'->vs'[j]?=vs[j]?:=fun j hj=>by
   obtain ⟨l⟩:=vs;simp only [xaz] at hfit;rw [<- hvs',xa1,xa1,xaj,xak (by rw [xar]; simp only; omega),xau,xad hj]
  have hmid:∀ j u,us[j]?=some u->vs'[β+off+len*sz'+j]?=some u:=fun j u hj=>by
   obtain ⟨l⟩:=vs;simp only [xaz] at hfit;have hjl:=(xac.1 hj).1;rw [<- hvs',xa1,xaj,xas (by rw [xar]; simp only; omega),xar];simp only;rw [xca (by omega),xak (by omega),xd1]; exact hj
  have hsz':vs'.size=n:=by
   obtain ⟨l⟩:=vs;simp only [xaz] at hfit e4;rw [<- hvs'];simp only [xaz,xaa,xar,xa8];omega
  obtain ⟨t1,t2⟩:=hS.ok.turn (h':=H1.t.get) (B':=.cells f (cs.take (off+len*sz'))) hcell hE hTu
   ⟨b,β,n,ty',fr,vs',hE,hrow,e3,hsz',by rw [xar]; omega,fun j c hj=>by
    obtain ⟨g1,g2⟩:=hpre j c hj;obtain ⟨u,u1,u2,u3⟩:=e6 j c g2;exact ⟨u,by rw [hlow _ (by omega)]; exact u1,u2,u3⟩⟩ hSame hSame' (fun C hC=>by rw [w3] at hC; exact (Option.some.inj hC).symm) w5
  have hnew:E H1.nx=none:=by rw [w2]; exact hfr
  have hle2:=Env.le_add (x:=(b,β+off,n)) hnew;obtain ⟨s1,s2⟩:=t1.alias (h':=H'.t.get) (β':=β+off) (cs2:=olds++news) w3 hE hnew
   ⟨b,β+off,n,ty',fr,vs',xad rfl,hrow,e3,hsz',by rw [xaa,<- o2.1,o1,<- hr.1]; omega,fun j c hj=>by
    by_cases hjo:j<olds.length
    ·rw [xak hjo] at hj;have hjo':j<len*sz':=by rw [<- o2.1,o1] at hjo; exact hjo
     rw [k1,xau,xad hjo',xbb] at hj;obtain ⟨u,u1,u2,u3⟩:=e6 _ c hj;exact ⟨u,by rw [hlow _ (by omega),xcf]; exact u1,u2.mono hle2,u3⟩
    ·rw [xas (by omega)] at hj;obtain ⟨u,u1,u2⟩:=hr.get hj;have hol:olds.length=len*sz':=by rw [<- o2.1,o1]
     refine ⟨u,?_,u2.mono hle2,zeu hac hj⟩;have:=hmid _ u u1;rw [hol] at this hjo;rw [show β+off+len*sz'+(j - len*sz')=β+off+j by omega] at this;exact this⟩ (fun C hC=>by rw [a3] at hC; exact (Option.some.inj hC).symm) (fun j C hj hC=>by rw [a4 j hj] at hC; exact hC)
  have hst':(storeCells ⟨b,(β+off)+len*inf.size,none⟩ us).run P w = .ok () (w.setRow b vs'):=by rw [hs]; exact hst
  refine ⟨_,_,_,app_room (ty:=ty) ht hi hx (xdg m') hroom hst',t2.trans s2,by rw [a2,w2]; exact .add _ _ _,⟨s1⟩,?_⟩
  ·have:=RC.sl (E:=E.add H1.nx (b,β+off,n)) H1.nx 0 (len+(m'+1)) (len+(m'+1)) false sz' c _ _ _ (xad rfl) hroom (fun h=>by cases h) (by omega) hc4 (xaf _);simpa using this
 ·obtain ⟨t1,t2⟩:=hS.ok.turn (h':=H1.t.get) (B':=.cells f (cs.take (off+len*sz'))) (w':=w) hcell hE ⟨rfl,fun _ _=>rfl,rfl,rfl,rfl⟩
   ⟨b,β,n,ty',fr,vs,hE,e2,e3,e4,by rw [xar]; omega,fun j c hj=>by
    obtain ⟨g1,g2⟩:=hpre j c hj;exact e6 j c g2⟩ hSame hSame' (fun C hC=>by rw [w3] at hC; exact (Option.some.inj hC).symm) w5
  have hS1:St E H1 w:=⟨t1⟩;have hfr1:E H1.nx=none:=by rw [w2]; exact hfr
  obtain ⟨r,E',w',g1,g2,g5,g3,g4⟩:=grow_ok (H':=H') (base:=some ⟨b,β+off,none⟩) (n0:=len) (c:=c) hS1 w1 hfr1 ht hi hs hz hzl (ty:=ty) hx hr hac (xdg m') o2 o4 o1 (hfc _) (by omega) hcap a2 a3 a4;exact ⟨r,E',w',g1,t2.trans g2,by rw [<- w2]; exact g5,g3,g4⟩
theorem evalApp_ok {t t2 ty e:TypeId}{inf:TypeInfo}{z:Value}{v base:Value}{m sz:Nat}{us:List Value}{news:List CV}{x y:CV}(h:evalApp H inf.bytes sz m news x=some (y,H'))
  (hS:St E H w)(hw:WfH H)(hfr:Fresh E H.nx H'.nx)(hb:RC E base x)(ht:P.underlying t=some (.slice e))(hi:P.info? e=some inf)(hs:inf.size=sz)(h0:0<sz)(hz:inf.zero=some z)(hzl:z.cells.size=sz)
  (hx:SrcA P w t2 inf v m us)(hr:RCs E us news)(hac:zat news=true) :
  ∃ r E' w',(Builtin.append_ #[t,t2] ty #[base,v]).run P w = .ok r w'/\Stp E H.t.get w E' H'.t.get w'/\Dom E E' H.nx H'.nx/\St E' H' w'/\RC E' r y:=by
 unfold evalApp at h;split at h
 ·have:=hb.nils_inv;subst this;split at h
  ·cases h;exact ⟨_,E,w,app_none ht hi hx rfl (xaf _),.refl _ _ _,.refl _ _ _,hS,.nils⟩
  ·rename_i m';split at h
   ·rename_i hcap;rw [fS_eq] at h;split at h
    ·rename_i hnb;cases h;obtain ⟨_,n2,n3,n4⟩:=ziz hnb hw rfl;have:=grow_ok (n0:=0) (c:=0) (olds:=[]) (oldc:=[]) (base:=none) hS hw (hfr _ (xaf _) (by omega)) ht hi hs hz hzl (ty:=ty) hx hr hac (xdg m') .nil rfl (by simp) rfl (by omega) (by rw [xbr]; exact hcap) n2 n3 n4;simpa using this
    ·cases h
   ·cases h
 ·rename_i i off len cap ex sz';obtain ⟨c,b,β,n,hE,rfl,hc1,hc2,hc3,hc4,hc5⟩:=hb.sl_inv;split at h
  ·rename_i hzz;have hzz:=xam hzz;subst hzz;split at h
   ·cases h;exact ⟨_,E,w,app_none ht hi hx rfl (by omega),.refl _ _ _,.refl _ _ _,hS,hb⟩
   ·rename_i m';rw [fN_eq] at h;split at h
    ·rename_i f cs hcs;have hcell:=zcw hcs;have hne:news≠[]:=by
      intro hn;have h1:=hx.n;rw [hr.1,hn,hs] at h1;have h2:0<(m'+1)*sz':=Nat.mul_pos (by omega) h0;rw [<- h1] at h2;simp at h2
     split at h
     ·rename_i hle;have hle:=xap hle;split at h
      ·rename_i cs' hset;rw [fS_eq] at h;split at h
       ·rename_i hwr;cases h;obtain ⟨w',w1,w2,w3⟩:=write_ok hS hw hcell hE hr hac hset hne hwr;have hst:(storeCells ⟨b,(β+off)+len*inf.size,none⟩ us).run P w = .ok () w':=by
         rw [hs,xcf]; exact w1 P
        refine ⟨_,E,w',app_room (ty:=ty) ht hi hx (xdg m') (by omega) hst,w2,.refl _ _ _,w3,?_⟩;exact .sl _ _ _ _ _ _ _ _ _ _ hE (by omega) hc2 hc3 hc4 (by omega)
       ·cases h
      ·cases h
     ·rename_i hle;have hle:¬ len+(m'+1)<=cap:=fun hh=>by rw [xd7 hh] at hle; cases hle
      split at h
      ·rename_i olds hold;rw [fS_eq] at h;split at hold
       ·rename_i hcap;obtain ⟨b',β',n',ty',fr,vs,e1,e2,e3,e4,e5,e6⟩:=hS.ok.blk i _ hcell;rw [hE] at e1; cases e1;obtain ⟨os,o1,o2,o3,o4,o5⟩:=zm8 e2 e6 hold;have hfc:∀ k,(Builtin.firstCells inf.size len (.slice (some ⟨b,β+off,none⟩) len k)).run P w.drew = .ok os.toArray w.drew:=fun k=>zoa w.drew (by rw [o1,hs]) o5;split at h
        ·rename_i hex;have:=hc2 rfl;subst this;split at h
         ·rename_i hnb;cases h;obtain ⟨_,n2,n3,n4⟩:=ziz hnb hw rfl;exact grow_ok hS hw (hfr _ (xaf _) (by omega)) ht hi hs hz hzl (ty:=ty) hx hr hac (xdg m') o2 o4 o1 (hfc _) (by omega) hcap n2 n3 n4
         ·cases h
        ·split at h
         ·rename_i H1 hwr;split at h
          ·rename_i H2 hal;cases h;obtain ⟨q1,q2,q3,q4,_⟩:=wr_ok hwr hw hcell;obtain ⟨_,q5,_⟩:=also_ok hal q1 q3 q4;exact app_both hS hw (hfr _ (xaf _) (by omega)) ht hi hs hz hzl hx hr hac hcell hE e2 e3 e4 e5 e6 hc1 hc3 hc4 hle hcap hold o1 o2 o4 o5 hfc hwr hal
          ·cases h
         ·cases h
       ·cases hold
      ·cases h
    ·cases h
  ·cases h
 ·cases h
end
end Go.Cm
namespace Go.Cm
open Go
section
variable {P:Program}{L:Lo}{H H':Hp}{E:Env}{a:Act}{w:World}
theorem updV_ok {kt:TypeId}{k z:CV}{u v:Value}(hk:keyT P kt k=true)(hu:RC E u k)(hv:RC E v z){d:TypeDesc}(hd:P.underlying kt=some d):∀ {es es':List (CV×CV)} {ms:List MapEntry} {i:Nat},updV k z es=some es'->All2 (EntR E) ms es->
  ∃ q,Instr.findNow d u ms i=some q/\match q with
   | some (j,_)=>∃ j' m,j=i+j'/\ms[j']?=some m/\m.key=u/\All2 (EntR E) (ms.set j' { m with key:=u,val:=v }) es'
   | none=>∀ c,All2 (EntR E) (ms++[{ key:=u,val:=v,born:=c }]) es'
 | [],es',ms,i,h,hm=>by
  cases h;rw [hm.inv0];exact ⟨none,rfl,fun c=>All2.cons ⟨hu,hv⟩ .nil⟩
 | (x,c)::es,es',ms,i,h,hm=>by
  obtain ⟨m,ms',rfl,hr,ht⟩:=hm.inv;simp only [updV] at h;split at h
  ·rename_i hs;cases h;obtain ⟨d',hd',he⟩:=sameNow_ok hk hs hu hr.1;rw [hd] at hd'; cases hd';refine ⟨some (i,m.val),by simp only [Instr.findNow,he],0,m,rfl,rfl,?_,?_⟩
   ·have h1:=hr.1;unfold sameV at hs;split at hs
    ·split at hs
     ·rename_i hkk;have:=sameK_eq hkk;subst this;simp only [Option.some.injEq] at hs;have:=sameI_iff.1 hs;subst this;cases hu;generalize m.key=q at h1;cases h1; rfl
     ·cases hs
    ·simp only [Option.some.injEq] at hs;have:=sameL_iff.1 hs;subst this;rw [hu.str_inv.1,h1.str_inv.1]
    ·cases hs
   ·refine All2.cons ⟨?_,hv⟩ ht;have h1:=hr.1;have hs':=hs;unfold sameV at hs;split at hs
    ·split at hs
     ·rename_i hkk;have:=sameK_eq hkk;subst this;simp only [Option.some.injEq] at hs;have:=sameI_iff.1 hs;subst this;exact hu
     ·cases hs
    ·simp only [Option.some.injEq] at hs;have:=sameL_iff.1 hs;subst this;exact hu
    ·cases hs
  ·rename_i hs;split at h
   ·rename_i r hr';cases h;obtain ⟨d',hd',he⟩:=sameNow_ok hk hs hu hr.1;rw [hd] at hd'; cases hd';obtain ⟨q,h1,h2⟩:=updV_ok hk hu hv hd (i:=i+1) hr' ht;refine ⟨q,by simp only [Instr.findNow,he]; exact h1,?_⟩;cases q with
    | none=>exact fun c=>All2.cons hr (h2 c)
    | some p=>
     obtain ⟨j,y⟩:=p;obtain ⟨j',m',e1,e2,e3,e4⟩:=h2;exact ⟨j'+1,m',by omega,by simpa using e2,e3,All2.cons hr e4⟩
   ·cases h
  ·cases h
theorem sameBits_self {kt:TypeId}{k:CV}{u:Value}(hk:keyT P kt k=true)(hu:RC E u k):Instr.sameBits 10000 u u=true:=by
 unfold keyT at hk;split at hk
 ·cases hu; simp [Instr.sameBits]
 ·obtain ⟨rfl,_⟩:=hu.str_inv;have hbq:∀ x y:Array UInt8,(ByteArray.mk x == ByteArray.mk y)=(x == y):=fun _ _=>rfl;simp only [Instr.sameBits];rw [hbq]; exact beq_self_eq_true _
 ·cases hk
theorem setObj_ok (hS:St E H w)(hw:WfH H){i b β n:Nat}{B0 B:Blk}{ob ob0:Obj}(hi:H.t.get i=some B0)(hc0:B0.isC=false)(hc:B.isC=false)(hE:E i=some (b,β,n))(hh:w.heap[b]?=some ob0)(hb0:(match ob0 with | .cells ..=>false | _=>true)=true)
  (hB:∀ w':World,w'.heap[b]?=some ob->BOk E w' i B)(hset:setT H i B=some H') :
  (setObj b ob).run P w = .ok () { w with heap:=w.heap.setIfInBounds b ob }/\Stp E H.t.get w E H'.t.get { w with heap:=w.heap.setIfInBounds b ob }/\St E H' { w with heap:=w.heap.setIfInBounds b ob }:=by
 obtain ⟨s1,s2,s3,s4⟩:=setT_ok hset hw hi hc0 hc;have hlt:=zky hh;have hnew:({ w with heap:=w.heap.setIfInBounds b ob }:World).heap[b]?=some ob:=by simp [xb4 hlt]
 have hT:Turned w { w with heap:=w.heap.setIfInBounds b ob } b:=⟨by simp,fun k hk=>by simp [xch (Ne.symm hk)],rfl,rfl,rfl⟩;have hap:∀ (j:Nat) (C:Blk),Apart i B0 j C↔i≠j:=fun j C=>by
  cases B0 with
  | cells f cs=>cases hc0
  | mp es=>exact Iff.rfl
  | it s p=>exact Iff.rfl
 have hap':∀ (j:Nat) (C:Blk),Apart i B j C↔i≠j:=fun j C=>by
  cases B with
  | cells f cs=>cases hc
  | mp es=>exact Iff.rfl
  | it s p=>exact Iff.rfl
 obtain ⟨t1,t2⟩:=hS.ok.turn (h':=H'.t.get) (B':=B) hi hE hT (hB _ hnew) (fun j C=>by rw [hap,hap'])
  (fun j C=>⟨fun h=>(by have:=(hap' j C).1 h.symm; exact ((hap j C).2 this).symm),fun h=>(by have:=(hap j C).1 h.symm; exact ((hap' j C).2 this).symm)⟩)
  (fun C hC=>by rw [s3] at hC; exact (Option.some.inj hC).symm) (fun j C hj hC=>by rw [s4 j hj] at hC; exact ⟨hC,(hap j C).2 (Ne.symm hj)⟩)
 refine ⟨?_,t2,⟨t1⟩⟩;cases ob0 <;> simp at hb0 <;> simp [setObj,Sem.run,hh]
theorem store_run {t:TypeId}{v:Value}{b o:Nat}{w':World}{n:Nat}(hn:szOf P t=some n)(hl:v.cells.toList.length=n)(h:(storeCells ⟨b,o,none⟩ v.cells.toList).run P w = .ok () w'):(Instr.storeAt t (.pointer (some ⟨b,o,none⟩)) v).run P w = .ok () w':=by
 unfold Instr.storeAt storeVar;have hne:¬ v.cells.size≠n:=by rw [<- hl]; simp
 simp only [xao,Instr.sureAddr,xat,xae,zgt hn,xab hne,h]
theorem evalTurn_wf {o:Oper}{x:CV}(h:zou P L H o=some (x,H'))(hw:WfH H):WfH H'/\H.nx<=H'.nx:=by
 unfold zou zmi zip zny znq at h;split at h
 ·split at h
  ·split at h
   ·rename_i f cs hc;split at h
    ·split at h
     ·split at h
      ·split at h
       ·rw [fS_eq] at h;split at h
        ·rename_i hn;cases h;obtain ⟨h1,h2,_⟩:=wr_ok hn hw (zcw hc);exact ⟨h1,by omega⟩
        ·cases h
       ·cases h
      ·cases h
     ·cases h
    ·cases h
   ·cases h
  ·cases h
 ·split at h
  ·split at h
   ·split at h
    ·split at h
     ·split at h
      ·split at h
       ·rename_i es hes;split at h
        ·split at h
         ·rename_i hn;cases h;obtain ⟨h1,h2,_⟩:=setT_ok hn hw hes rfl rfl;exact ⟨h1,by omega⟩
         ·cases h
        ·cases h
       ·cases h
      ·cases h
     ·cases h
    ·cases h
   ·cases h
  ·cases h
 ·split at h
  ·split at h
   ·rename_i s p hit;split at h
    ·split at h
     ·split at h
      ·rw [fN_eq] at h;split at h
       ·rename_i hn;cases h;obtain ⟨h1,h2,_⟩:=setT_ok hn hw hit rfl rfl;exact ⟨h1,by omega⟩
       ·cases h
      ·cases h
     ·cases h
    ·cases h; exact ⟨hw,xaf _⟩
   ·cases h
  ·cases h
 ·split at h
  ·split at h
   ·split at h
    ·split at h
     ·split at h
      ·split at h
       ·split at h
        ·split at h
         ·split at h
          ·split at h
           ·split at h
            ·split at h
             ·split at h
              ·exact evalApp_wf h hw
              ·cases h
             ·cases h
            ·split at h
             ·split at h
              ·exact evalApp_wf h hw
              ·cases h
             ·cases h
           ·cases h
          ·cases h
         ·cases h
        ·cases h
       ·cases h
      ·cases h
     ·cases h
    ·cases h
   ·cases h
  ·split at h
   ·split at h
    ·split at h
     ·split at h
      ·split at h
       ·cases h; exact ⟨hw,xaf _⟩
       ·cases h; exact ⟨hw,xaf _⟩
       ·split at h
        ·cases h; exact ⟨hw,xaf _⟩
        ·split at h
         ·rename_i f cs hc;split at h
          ·rw [fS_eq] at h;split at h
           ·rename_i hn;cases h;obtain ⟨h1,h2,_⟩:=wr_ok hn hw (zcw hc);exact ⟨h1,by omega⟩
           ·cases h
          ·cases h
         ·cases h
       ·cases h
      ·cases h
     ·cases h
    ·cases h
   ·cases h
  ·cases h
 ·cases h
theorem setAt_nil {α:Type}{l r:List α}{o:Nat}(h:zjv l o []=some r):r=l:=by
 have:=(zfh _ _ _ _ h).1; simpa using this
theorem evalTurn_ok {o:Oper}{x:CV}(h:zou P L H o=some (x,H'))(hL:Loc E L.get a)(hS:St E H w)(hw:WfH H)(hfr:Fresh E H.nx H'.nx):TurnOk P o E H a w x H':=by
 unfold zou zmi zip zny znq at h;split at h
 ·rename_i t y z ho;split at h
  ·rename_i i off hy;split at h
   ·rename_i f cs hc;split at h
    ·rename_i v hv;split at h
     ·rename_i n hn;split at h
      ·rename_i hck;split at h
       ·rename_i cs' hset;rw [fS_eq] at h;split at h
        ·rename_i hwr;cases h;obtain ⟨hc1,hc2⟩:=xa2.1 hck;have hc1:=xam hc1;obtain ⟨b,β,k,hE,ev⟩:=(zba hL hy).ptr_inv;obtain ⟨hr,hac⟩:=cellsOk_of (zba hL hv) hc2;have hlen:(a.eval z).cells.toList.length=n:=by rw [hr.1,hc1]
         by_cases hne:v.cells=[]
         ·have hz:(a.eval z).cells.toList=[]:=xai (by rw [hr.1,hne]; rfl);rw [hne] at hset;have:=setAt_nil hset;rw [this] at hwr;obtain ⟨b',β',n',ty',fr,vs,e1,e2,e3,e4,e5,e6⟩:=hS.ok.blk i _ (zcw hc);rw [hE] at e1; cases e1;obtain ⟨w1,w2,w3,_,_,w4⟩:=wr_ok hwr hw (zcw hc);obtain ⟨t1,t2⟩:=hS.ok.turn (h':=H'.t.get) (w':=w) (B':=.cells f cs) (zcw hc) hE ⟨rfl,fun _ _=>rfl,rfl,rfl,rfl⟩ ⟨b,β,k,ty',fr,vs,hE,e2,e3,e4,e5,e6⟩ (fun _ _=>Iff.rfl) (fun _ _=>Iff.rfl)
           (fun C hC=>by rw [w3] at hC; exact (Option.some.inj hC).symm) w4
          refine ⟨undef,E,w,.inr ⟨?_,rfl⟩,t2,.refl _ _ _,⟨t1⟩,zib⟩;have hst:=store_run (P:=P) (w:=w) (w':=w) (v:=a.eval z) (b:=b) (o:=β+off) hn hlen (by rw [hz]; rfl);simp [execOp,ho,ev,hst]
         ·obtain ⟨w',g1,g2,g3⟩:=write_ok hS hw (zcw hc) hE hr hac hset hne hwr;refine ⟨undef,E,w',.inr ⟨?_,rfl⟩,g2,.refl _ _ _,g3,zib⟩;have hst:=store_run (v:=a.eval z) hn hlen (g1 P);simp [execOp,ho,ev,hst]
        ·cases h
       ·cases h
      ·cases h
     ·cases h
    ·cases h
   ·cases h
  ·cases h
 ·rename_i t y z u ho;split at h
  ·rename_i i hy;split at h
   ·rename_i k hk;split at h
    ·rename_i v hv;split at h
     ·rename_i kt et hu;split at h
      ·rename_i hkt;split at h
       ·rename_i es hes;split at h
        ·rename_i es' hupd;split at h
         ·rename_i hset;cases h;obtain ⟨b,β,n,hE,ev⟩:=(zba hL hy).mp_inv;obtain ⟨b',β',n',ents,clock,e1,e2,e3⟩:=hS.ok.blk i _ hes;rw [hE] at e1; cases e1;have hkr:=zba hL hk;have hvr:=zba hL hv;obtain ⟨d,hd⟩:=keyT_und hkt;obtain ⟨q,q1,q2⟩:=updV_ok hkt hkr hvr hd (i:=0) hupd e3;have hget:(getObj b).run P w = .ok (.map ents clock) w:=by simp [getObj,Sem.run,e2]
          have hck:=checkKey_ok (w:=w) hkt hkr false;have hfk:(Instr.findKey kt (a.eval z) ents.toList).run P w = .ok q w:=by
           simp only [Instr.findKey,xao,xah hd,xae,q1,xat]
          have main:∀ (ents':Array MapEntry) (clock':Nat),All2 (EntR E) ents'.toList es'->(Instr.mapUpdate t (.map (some b)) (a.eval z) (a.eval u)).run P w=(setObj b (.map ents' clock')).run P w->
            TurnOk P o E H a w (.tup []) H':=fun ents' clock' hall hrun=>by
           obtain ⟨g1,g2,g3⟩:=setObj_ok (P:=P) hS hw (B:=.mp es') (ob:=.map ents' clock') hes rfl rfl hE e2 rfl (fun w' hw'=>⟨_,_,_,ents',clock',hE,hw',hall⟩) hset;refine ⟨undef,E,_,.inr ⟨?_,rfl⟩,g2,.refl _ _ _,g3,zib⟩;rw [g1] at hrun;simp [execOp,ho,ev,hrun]
          cases q with
          | none=>
           refine main (ents.push { key:=a.eval z,val:=a.eval u,born:=clock }) (clock+1) (by simpa using q2 clock) ?_;simp only [Instr.mapUpdate,xao,xah hu,xae,hget,hck,hfk]
          | some p=>
           obtain ⟨j,y'⟩:=p;obtain ⟨j',m,e1',e2',e3',e4'⟩:=q2;have hj:j=j':=by omega
           subst hj;have hmj:ents[j]?=some m:=by simpa using e2'
           have hkey:(Instr.keyThatStays (((ents[j]?).map (·.key)).getD (a.eval z)) (a.eval z)).run P w = .ok (a.eval z) w:=by
            rw [hmj];simp only [xbl,xb8,e3'];simp [Instr.keyThatStays,sameBits_self hkt hkr]
           refine main (ents.modify j fun e=>{ e with key:=a.eval z,val:=a.eval u }) clock ?_ ?_
           ·have:(ents.modify j fun e=>{ e with key:=a.eval z,val:=a.eval u }).toList=ents.toList.set j { m with key:=a.eval z,val:=a.eval u }:=by
             apply xbz;intro l;rw [xd9,Array.getElem?_modify,xcr,xd9];by_cases hl:j=l
             ·subst hl;have hlt:=(xcb.1 hmj).1;have hm2:=(xcb.1 hmj).2;simp [hmj,hlt]
              try rw [hm2]
             ·simp [hl]
            rw [this]; exact e4'
           ·simp only [Instr.mapUpdate,xao,xah hu,xae,hget,hck,hfk,hkey]
         ·cases h
        ·cases h
       ·cases h
      ·cases h
     ·cases h
    ·cases h
   ·cases h
  ·cases h
 ·rename_i y ho;split at h
  ·rename_i i hy;split at h
   ·rename_i s p hit;obtain ⟨b,β,n,hE,ev⟩:=(zba hL hy).ptr_inv;obtain ⟨b',n',e1,e2,e3⟩:=hS.ok.blk i _ hit;rw [hE] at e1; cases e1;have hget:(getObj b).run P w = .ok (.stringIter ⟨(s.map UInt8.ofNat).toArray⟩ p) w:=by simp [getObj,Sem.run,e2]
    have hsz:(ByteArray.mk (s.map UInt8.ofNat).toArray).size=s.length:=by simp [ByteArray.size]
    split at h
    ·rename_i hlt;have hlt:p<s.length:=by simpa [xcx] using hlt
     split at h
     ·rename_i c hcc;split at h
      ·rename_i hc128;have hc128:c<128:=by simpa [xcx] using hc128
       rw [fN_eq] at h;split at h
       ·rename_i hset;cases h;rw [zf9] at hcc;have hlt':p<(ByteArray.mk (s.map UInt8.ofNat).toArray).size:=by rw [hsz]; exact hlt
        have hat:(ByteArray.mk (s.map UInt8.ofNat).toArray)[p]'hlt'=UInt8.ofNat c:=by
         have h1:=(xac.1 hcc).2;show (s.map UInt8.ofNat).toArray[p]'_=_;simp [h1]
        have hnat:(UInt8.ofNat c).toNat=c:=by
         rw [xbw,xb9 (by omega)]
        have hdec:=decode_ascii (ByteArray.mk (s.map UInt8.ofNat).toArray) p hlt' (by rw [hat,hnat]; exact hc128);rw [hat,hnat] at hdec;obtain ⟨g1,g2,g3⟩:=setObj_ok (P:=P) hS hw (B:=.it s (p+1)) (ob:=.stringIter ⟨(s.map UInt8.ofNat).toArray⟩ (p+1)) hit rfl rfl hE e2 rfl (fun w' hw'=>⟨_,_,hE,hw',e3⟩) hset;refine ⟨.tuple #[.bool true,goInt p,.int .i32 c],E,_,.inl ?_,g2,.refl _ _ _,g3,?_⟩
        ·have hr:(Instr.next (.pointer (some ⟨b,0+0,none⟩)) true o.type).run P w = .ok (.tuple #[.bool true,goInt p,.int .i32 c]) { w with heap:=w.heap.setIfInBounds b (.stringIter ⟨(s.map UInt8.ofNat).toArray⟩ (p+1)) }:=by
          simp only [Instr.next,xao,hget,xae,xad hlt',hdec,g1,xat]
         simp [execOp,ho,ev,hr]
        ·exact .tup [.bool true,goInt p,.int .i32 c] _ rfl (All2.cons (.bool true) (All2.cons (.int _ _) (All2.cons (.int _ _) .nil))).2
       ·cases h
      ·cases h
     ·cases h
    ·rename_i hlt;cases h;have hlt:¬ p<s.length:=by
      intro hh;have:Nat.blt p s.length=true:=by simpa [xcx] using hh
      rw [this] at hlt; cases hlt
     have hlt':¬ p<(ByteArray.mk (s.map UInt8.ofNat).toArray).size:=by rw [hsz]; exact hlt
     refine ⟨.tuple #[.bool false],E,w,.inl ?_,.refl _ _ _,.refl _ _ _,hS,?_⟩
     ·have hr:(Instr.next (.pointer (some ⟨b,0+0,none⟩)) true o.type).run P w = .ok (.tuple #[.bool false]) w:=by
       simp only [Instr.next,xao,hget,xae,xab hlt',xat]
      simp [execOp,ho,ev,hr]
     ·exact .tup [.bool false] _ rfl (All2.cons (.bool false) .nil).2
   ·cases h
  ·cases h
 ·rename_i c ho;split at h
  ·rename_i hc;split at h
   ·rename_i y z hargs;split at h
    ·rename_i t t2 htys;split at h
     ·rename_i e he;split at h
      ·rename_i sz hsz;split at h
       ·rename_i av hav;split at h
        ·rename_i bv hbv;split at h
         ·rename_i by' hby
          split at h
          ·rename_i zc hz;split at h
           ·rename_i hok;obtain ⟨hz1,hz2⟩:=xa2.1 hok;have hz1:=xam hz1;have hz2:0<sz:=by simpa [xcx] using hz2
            obtain ⟨inf,zv,hi,hzv,hzr,_⟩:=zhv (P:=P) (E:=E) hz;have hbi:inf.bytes=by':=by unfold bytesT at hby; rw [hi] at hby; cases hby; rfl
            have hsi:inf.size=sz:=by unfold szOf at hsz; rw [hi] at hsz; cases hsz; rfl
            have hzl:zv.cells.size=sz:=by rw [<- hz1,<- hzr.1]; simp
            have fin:∀ (m:Nat) (news:List CV) (us:List Value),RCs E us news->zat news=true->SrcA P w t2 inf (a.eval z) m us->evalApp H by' sz m news av=some (x,H')->TurnOk P o E H a w x H':=fun m news us hr hac hx happ=>by
             rw [<- hbi] at happ;obtain ⟨r,E',w',g1,g2,g5,g3,g4⟩:=evalApp_ok (ty:=o.type) happ hS hw hfr (zba hL hav) (zhf he) hi hsi hz2 hzv hzl hx hr hac;refine ⟨r,E',w',.inl (zdp ho hc _ w w' ?_),g2,g5,g3,g4⟩;rw [toList_two hargs,toList_two htys];simp only [builtin,xds,xa9,xd6,xao,g1,xae,xat]
            split at h
            ·rename_i hint;split at h
             ·rename_i m hm;split at h
              ·rename_i hcap;obtain ⟨us,u1,u2,u3⟩:=zero_src (w:=w) hz hi hsi hz1 hz2 hbi hcap hint hm (zba hL hbv);exact fin m _ us u1 u2 u3 h
              ·cases h
             ·cases h
            ·split at h
             ·rename_i hseq;split at h
              ·rename_i m news hsrc;obtain ⟨us,u1,u2,u3⟩:=src_ok (P:=P) hsrc (zba hL hbv) hS.ok hsi hseq;exact fin m news us u1 u2 u3 h
              ·cases h
             ·cases h
           ·cases h
          ·cases h
         ·cases h
        ·cases h
       ·cases h
      ·cases h
     ·cases h
    ·cases h
   ·cases h
  ·rename_i hc;split at h
   ·rename_i y hargs;split at h
    ·rename_i t htys;split at h
     ·rename_i e he;have hu:=zhf he;split at h
      ·rename_i zc hz;obtain ⟨inf,zv,hi,hzv,hzr,hzc⟩:=zhv (P:=P) (E:=E) hz;have fin:∀ (w':World) (E':Env),(Builtin.clear_ #[t] o.type #[a.eval y]).run P w = .ok (.tuple #[]) w'->Did P o a w (.tuple #[]) w':=fun w' E' hr=>by
        refine .inl (zdp ho hc _ w w' ?_);rw [zee hargs,zee htys];simp only [builtin,xds,xa9,xd6,xao,hr,xae,xat]
       split at h
       ·rename_i hy;cases h;have ev:=(zba hL hy).nils_inv;exact ⟨_,E,w,fin w E (by simp [Builtin.clear_,xah hu,ev]),.refl _ _ _,.refl _ _ _,hS,zib⟩
       ·rename_i hy;cases h;obtain ⟨ad,cc,ev,_⟩:=(zba hL hy).se_inv;refine ⟨_,E,w,fin w E ?_,.refl _ _ _,.refl _ _ _,hS,zib⟩;cases ad <;> simp [Builtin.clear_,xah hu,ev]
       ·rename_i i off len cap ex sz hy;obtain ⟨cc,b,β,n,hE,ev,hrest⟩:=(zba hL hy).sl_inv;split at h
        ·cases h;exact ⟨_,E,w,fin w E (by simp [Builtin.clear_,xah hu,ev]),.refl _ _ _,.refl _ _ _,hS,zib⟩
        ·rename_i len';split at h
         ·rename_i f cs hcs;split at h
          ·rename_i cs' hset;rw [fS_eq] at h;split at hset
           ·rename_i hz0;have hz0:0<zc.length:=by simpa [xcx] using hz0
            split at h
            ·rename_i hwr;cases h;have hrep:=rep_rel hzr (len'+1);have hne:rep zc (len'+1)≠[]:=by
              intro h;have h1:=rep_len zc (len'+1);rw [h] at h1;have h2:0<(len'+1)*zc.length:=Nat.mul_pos (by omega) hz0;rw [<- h1] at h2; simp at h2
             obtain ⟨w',g1,g2,g3⟩:=write_ok hS hw (zcw hcs) hE hrep (rep_all hzc _) hset hne hwr;refine ⟨_,E,w',fin w' E ?_,g2,.refl _ _ _,g3,zib⟩;have hzs:zc.length=zv.cells.size:=by rw [<- hzr.1]; simp
             have hzz:(Builtin.zeroCells zv.cells (len'+1)).toList=(List.range ((len'+1)*zc.length)).map fun x=>zv.cells.toList.toArray[x % zv.cells.toList.toArray.size]!:=by
              rw [hzs]; simp [Builtin.zeroCells]
             rw [<- hzz] at g1;simp [Builtin.clear_,xah hu,ev,zeroValue,typeInfo,hi,hzv,g1 P]
            ·cases h
           ·cases hset
          ·cases h
         ·cases h
       ·cases h
      ·cases h
     ·cases h
    ·cases h
   ·cases h
  ·cases h
 ·cases h
end
end Go.Cm
namespace Go.Cm
open Go
def zj4 (call:zob):Prop:=∀ f xs H x H',call f xs H=some (x,H')->WfH H->WfH H'/\H.nx<=H'.nx
def CallOk (P:Program)(call:zob):Prop:=∀ f xs H x H',call f xs H=some (x,H')->WfH H->∀ E w (vs:List Value),St E H w->Fresh E H.nx H'.nx->RCs E vs xs->
 Calls P f vs.toArray w fun e w'=>∃ v E',e = .returned v/\Stp E H.t.get w E' H'.t.get w'/\Dom E E' H.nx H'.nx/\St E' H' w'/\RC E' v x
def NoNum (P:Program):Prop:=∀ (f:Nat) (fn:Func),P.funcs[f]?=some fn->(fn.name == "runtime.NumGoroutine")=false
section
variable {P:Program}{call:zob}{L L':Lo}{H H':Hp}{E:Env}{a:Act}{w:World}
theorem evalCalc_ok {o:Oper}{x:CV}(h:zl2 P L o=some x)(hL:Loc E L.get a)(w:World):∃ v,(execOp a.eval o).run P w = .ok (.value v) w/\RC E v x:=by
 unfold zl2 at h;split at h
 ·rename_i y hy;rw [zn9] at h;cases h;exact evalAddr_ok hy hL w
 ·exact evalPure_ok h hL w
def OpOk (P:Program)(o:Oper)(E:Env)(h:Hf)(a:Act)(w:World)(R:Env->Value->World->Prop):Prop:=
 ∀ (K:Act->World->Prop) (Q:Exit->Act->World->Prop),(∀ E' v w',R E' v w'->K (a.put o.dst v) w')->o.wp P a w K Q
theorem znc {o:Oper}{R:Env->Value->World->Prop}{v:Value}{w':World}{E':Env}{h:Hf}(hr:(execOp a.eval o).run P w = .ok (.value v) w')(hR:R E' v w'):OpOk P o E h a w R:=fun K Q hK=>by
 unfold Oper.wp;rw [hr];exact hK E' v w' hR
theorem OpOk_did {o:Oper}{R:Env->Value->World->Prop}{v:Value}{w':World}{E':Env}{h:Hf}(hr:Did P o a w v w')(hR:R E' v w'):OpOk P o E h a w R:=fun K Q hK=>by
 unfold Oper.wp
 rcases hr with hr | ⟨hr,rfl⟩
 ·rw [hr]; exact hK E' v w' hR
 ·rw [hr]; exact hK E' _ w' hR
abbrev After (E:Env)(H:Hp)(w:World)(x:CV)(H':Hp):Env->Value->World->Prop:=fun E' v w'=>Stp E H.t.get w E' H'.t.get w'/\Dom E E' H.nx H'.nx/\St E' H' w'/\RC E' v x
theorem run_callAny {o:Oper}{c:Call}{x:Operand}{f:FuncId}{cs:List Value}(ho:o.op = .call c)(hc:c.callee = .value x)(hv:a.eval x = .func (.func f) #[] cs.toArray)(w:World) :
  (execOp a.eval o).run P w=(callFunc f ((c.args.toList.map a.eval++cs).toArray)).run P w:=by
 have e:(List.map a.eval c.args.toList).toArray=Array.map a.eval c.args:=by rw [<- xc0]
 have e2:(c.args.toList.map a.eval++cs).toArray=Array.map a.eval c.args++cs.toArray:=by rw [<- e]; simp
 rw [e2];simp [execOp,ho,resolve,hc,hv,Deferred.ofValue,xao,xat,xae,invoke]
theorem bodied_eq {f:FuncId}{b:Bool}(h:bodied P f=some b):∃ fn,P.funcs[f]?=some fn/\fn.body.isNone = !b:=by
 unfold bodied at h;split at h
 ·rename_i fn hf;split at h
  ·rename_i c hb; cases h; exact ⟨fn,hf,by simp [hb]⟩
  ·rename_i hb; cases h; exact ⟨fn,hf,by simp [hb]⟩
 ·cases h
theorem evalHeavy_wf (hC:zj4 call){o:Oper}{x:CV}(h:zlc P call L H o=some (x,H'))(hw:WfH H):WfH H'/\H.nx<=H'.nx:=by
 unfold zlc at h;split at h
 ·split at h
  ·split at h
   ·split at h
    ·exact hC _ _ _ _ _ h hw
    ·cases h
   ·split at h
    ·cases h; exact ⟨hw,xaf _⟩
    ·cases h
   ·cases h
  ·exact evalTurn_wf h hw
 ·exact evalTurn_wf h hw
theorem evalHeavy_ok (hN:NoNum P)(hC:CallOk P call){o:Oper}{x:CV}(h:zlc P call L H o=some (x,H'))(hL:Loc E L.get a)(hS:St E H w)(hw:WfH H)(hfr:Fresh E H.nx H'.nx):OpOk P o E H.t.get a w (After E H w x H'):=by
 have turn:zou P L H o=some (x,H')->OpOk P o E H.t.get a w (After E H w x H'):=fun h=>by
  obtain ⟨v,E',w',h1,h2,h5,h3,h4⟩:=evalTurn_ok h hL hS hw hfr;exact OpOk_did h1 ⟨h2,h5,h3,h4⟩
 unfold zlc at h;split at h
 ·rename_i c ho;split at h
  ·rename_i f cs hf;split at h
   ·rename_i hb;split at h
    ·rename_i xs hxs;have hfx:∃ y,c.callee = .value y/\val L y=some (.fn f cs):=by
      unfold fnOf at hf;split at hf
      ·rename_i y hy;split at hf
       ·rename_i hv; cases hf; exact ⟨y,hy,hv⟩
       ·cases hf
      ·cases hf
     obtain ⟨y,hy,hyv⟩:=hfx;obtain ⟨ws,e1,e2⟩:=(zba hL hyv).fn_inv;obtain ⟨fn,f1,f2⟩:=bodied_eq hb;have hr:=run_callAny (P:=P) ho hy e1 w;have hargs:=(zl7 hL hxs).append e2;have hcall:=hC _ _ _ _ _ h hw E w _ hS hfr hargs;intro K Q hK;unfold Oper.wp;have hcf:(callFunc f ((c.args.toList.map a.eval++ws).toArray)).run P w = .ok (.enter f ((c.args.toList.map a.eval++ws).toArray)) w:=by
      simp only [callFunc,xao,xew,xae,f1,hN f fn f1,f2,xez,xby,xcw,xat]
     rw [hr,hcf];refine hcall.mono ?_;rintro e w' ⟨v,E',rfl,h1,h4,h2,h3⟩;exact hK E' v w' ⟨h1,h4,h2,h3⟩
    ·cases h
   ·split at h
    ·rename_i y hy;cases h;obtain ⟨v,h1,h2⟩:=evalPure_ok hy hL w;exact znc h1 (E':=E) ⟨.refl _ _ _,.refl _ _ _,hS,h2⟩
    ·cases h
   ·cases h
  ·exact turn h
 ·exact turn h
theorem make_ok {o:Oper}{n:Nat}{x:CV}{B:Blk}(h:Makes P E a w H.nx o x B)(hS:St E H w)(hw:WfH H)(hfr:E H.nx=none)(hf:B.fam H.nx=H.nx)(hn:newB H B=some H'):∃ v E' w',(execOp a.eval o).run P w = .ok (.value v) w'/\After E H w x H' E' v w':=by
 obtain ⟨v,w',ob,m,h1,h2,h3⟩:=h hfr;obtain ⟨n1,n2,n3,n4⟩:=ziz hn hw hf;obtain ⟨h4,h5⟩:=h3 (E.add H.nx (w.heap.size,0,m)) (Env.le_add hfr) (xad rfl);obtain ⟨g1,g2⟩:=hS.ok.new (h':=H'.t.get) hfr h2 h5 (fun C hC=>by rw [n3] at hC; exact (Option.some.inj hC).symm) (fun j C hj hC=>by rw [n4 j hj] at hC; exact hC);exact ⟨v,_,w',h1,g2,by rw [n2]; exact .add _ _ _,⟨g1⟩,h4⟩
theorem zgk {o:Oper}{n:Nat}{x:CV}{B:Blk}(h:zom P L n o=some (x,B)):B.fam n=n:=by
 unfold zom zmh evalMake_box zhp zh5 zl9 zjw at h;split at h
 ·split at h
  ·cases h; rfl
  ·cases h
 ·split at h
  ·split at h
   ·cases h; rfl
   ·cases h
  ·cases h
 ·split at h
  ·split at h
   ·cases h
   ·split at h
    ·split at h
     ·split at h
      ·split at h
       ·cases h; rfl
       ·cases h
      ·cases h
     ·cases h
    ·cases h
   ·cases h
  ·cases h
 ·split at h
  ·split at h
   ·split at h
    ·split at h
     ·split at h
      ·split at h
       ·split at h
        ·split at h
         ·split at h
          ·split at h
           ·cases h; rfl
           ·cases h
          ·cases h
         ·cases h
        ·cases h
       ·cases h
      ·cases h
     ·cases h
    ·cases h
   ·cases h
  ·cases h
 ·cases h; rfl
 ·split at h
  ·split at h
   ·cases h; rfl
   ·cases h
  ·cases h
 ·split at h
  ·split at h
   ·split at h
    ·split at h
     ·cases h; rfl
     ·cases h
    ·cases h
   ·cases h
  ·cases h
 ·cases h
theorem evalOp_wf (hC:zj4 call){o:Oper}{x:CV}(h:zh0 P call L H o=some (x,H'))(hw:WfH H):WfH H'/\H.nx<=H'.nx:=by
 unfold zh0 at h;split at h
 ·split at h
  ·cases h; exact ⟨hw,xaf _⟩
  ·cases h
 ·split at h
  ·rw [zn9] at h; cases h; exact ⟨hw,xaf _⟩
  ·split at h
   ·cases h; exact ⟨hw,xaf _⟩
   ·cases h
 ·split at h
  ·rename_i hm;rw [zn9,fS_eq] at h;split at h
   ·rename_i hn;cases h;obtain ⟨h1,h2,_⟩:=ziz hn hw (zgk hm);exact ⟨h1,by omega⟩
   ·cases h
  ·rename_i hm;rw [zn9] at h;split at h
   ·rename_i hn;cases h;obtain ⟨h1,h2,_⟩:=ziz hn hw (zgk hm);exact ⟨h1,by omega⟩
   ·cases h
  ·cases h
 ·split at h
  ·rename_i hv;rw [zn9] at h;cases h;exact evalHeavy_wf hC hv hw
  ·cases h
theorem evalOp_ok (hN:NoNum P)(hC:CallOk P call){o:Oper}{x:CV}(h:zh0 P call L H o=some (x,H'))(hL:Loc E L.get a)(hS:St E H w)(hw:WfH H)(hfr:Fresh E H.nx H'.nx):OpOk P o E H.t.get a w (After E H w x H'):=by
 have clc:∀ {y:CV},zl2 P L o=some y->OpOk P o E H.t.get a w (After E H w y H):=fun h=>by
  obtain ⟨v,h1,h2⟩:=evalCalc_ok h hL w;exact znc h1 (E':=E) ⟨.refl _ _ _,.refl _ _ _,hS,h2⟩
 unfold zh0 at h;split at h
 ·split at h
  ·rename_i hy; cases h; exact clc hy
  ·cases h
 ·split at h
  ·rename_i hy;rw [zn9] at h; cases h;obtain ⟨v,h1,h2⟩:=evalRead_ok hy hL hS.ok;exact znc h1 (E':=E) ⟨.refl _ _ _,.refl _ _ _,hS,h2⟩
  ·split at h
   ·rename_i hy; cases h; exact clc hy
   ·cases h
 ·split at h
  ·rename_i hm;rw [zn9,fS_eq] at h;split at h
   ·rename_i hn;cases h;obtain ⟨_,n2,_⟩:=ziz hn hw (zgk hm);obtain ⟨v,E',w',h1,h2⟩:=make_ok (n:=0) (evalMake_ok hm hL w) hS hw (hfr _ (xaf _) (by omega)) (zgk hm) hn;exact znc h1 h2
   ·cases h
  ·rename_i hm;rw [zn9] at h;split at h
   ·rename_i hn;cases h;obtain ⟨_,n2,_⟩:=ziz hn hw (zgk hm);obtain ⟨v,E',w',h1,h2⟩:=make_ok (n:=0) (evalMake_ok hm hL w) hS hw (hfr _ (xaf _) (by omega)) (zgk hm) hn;exact znc h1 h2
   ·cases h
  ·cases h
 ·split at h
  ·rename_i hv;rw [zn9] at h;cases h;exact evalHeavy_ok hN hC hv hL hS hw hfr
  ·cases h
theorem put_get {d:Option Nat}{x:CV}(h:put L d x=some L')(t:Nat):L'.get t=if d=some t then some x else L.get t:=by
 unfold put at h;split at h
 ·cases h; simp
 ·rename_i i;generalize hT:L.set i (some x)=T at h;split at h
  ·cases h
  ·cases h;rw [<- hT,Tr.get_set];by_cases e:t=i
   ·subst e; simp
   ·simp [e,Ne.symm e]
theorem put_size (a:Act)(d:Option Nat)(v:Value):(a.put d v).tmps.size=a.tmps.size:=by cases d <;> simp [Act.put]
theorem put_loc {d:Option Nat}{x:CV}{v:Value}(h:put L d x=some L')(hL:Loc E L.get a)(hv:RC E v x)(hd:∀ i,d=some i->i<a.tmps.size):Loc E L'.get (a.put d v):=fun t c hc=>by
 rw [put_get h] at hc;cases d with
 | none=>simp at hc; exact hL t c hc
 | some i=>
  simp only [Option.some.injEq] at hc;simp only [Act.put];by_cases e:i=t
  ·subst e;rw [xad rfl] at hc; cases hc;rw [xan,xb4 (hd i rfl)]; exact hv
  ·rw [xab e] at hc;rw [xan,xch e,<- xan];exact hL t c hc
theorem wants_ok {ops:List Oper}{o:Oper}{b:Bool}(h:wants ops L o.guard=some b)(hL:Loc E L.get a):Region.wanted o (yielded ops.toArray a.tmps)=b:=by
 unfold wants at h;unfold Region.wanted;split at h
 ·rename_i hg; rw [hg]; cases h; rfl
 ·rename_i j want hg;rw [hg];split at h
  ·rename_i q hq;rw [zf9] at hq;split at h
   ·rename_i d hd;split at h
    ·rename_i c hc;cases h;have:=(hL d _ hc).bool_inv;have hy:yielded ops.toArray a.tmps j=some c:=by
      unfold yielded;simp only [xa1,hq,xdf,hd];rw [xan] at this;cases ht:a.tmps[d]? with
      | none=>rw [ht] at this; cases this
      | some v=>rw [ht] at this; simp only [xb8] at this; rw [this]
     simp only [hy];cases c <;> cases want <;> rfl
    ·rename_i c hc hnb;cases h;have hr:=hL d _ hnb;have hy:yielded ops.toArray a.tmps j=none:=by
      unfold yielded;simp only [xa1,hq,xdf,hd];rw [xan] at hr;cases ht:a.tmps[d]? with
      | none=>rfl
      | some v=>
       rw [ht] at hr;simp only [xb8] at hr;cases v <;> first | rfl | skip
       rename_i b;exfalso;generalize hx:Value.bool b=u at hr;cases hr <;> cases hx;exact hc _ rfl
     simp only [hy];cases want <;> rfl
    ·cases h
   ·cases h
  ·cases h
theorem dstLt_get {n:Nat}:∀ {l:List Oper} {o:Oper} {d:Nat},dstLt n l=true->o∈l->o.dst=some d->d<n
 | [],_,_,_,h,_=>by cases h
 | p::l,o,d,h,ho,hd=>by
  simp only [dstLt] at h
  rcases xaq.1 ho with rfl | ho
  ·rw [hd] at h;simp only at h;split at h
   ·rename_i hb; simpa [xcx] using hb
   ·cases h
  ·split at h
   ·exact dstLt_get h ho hd
   ·split at h
    ·exact dstLt_get h ho hd
    ·cases h
structure Gd (E:Env)(L:Lo)(H:Hp)(N:Nat)(a:Act)(w:World):Prop where
 loc:Loc E L.get a
 st:St E H w
 df:a.defers=[]
 sz:N<=a.tmps.size
theorem zfx (a:Act)(d:Option Nat)(v:Value):(a.put d v).defers=a.defers:=by cases d <;> rfl
theorem evalOps_wf (hC:zj4 call){all:List Oper}:∀ {os:List Oper} {L L':Lo} {H H':Hp},evalOps P call all os L H=some (L',H')->WfH H->WfH H'/\H.nx<=H'.nx
 | [],L,L',H,H',h,hw=>by cases h; exact ⟨hw,xaf _⟩
 | o::os,L,L',H,H',h,hw=>by
  simp only [evalOps] at h;split at h
  ·split at h
   ·rename_i x H1 hop;split at h
    ·obtain ⟨h1,h2⟩:=evalOp_wf hC hop hw;obtain ⟨h3,h4⟩:=evalOps_wf hC h h1;exact ⟨h3,by omega⟩
    ·cases h
   ·cases h
  ·split at h
   ·exact evalOps_wf hC h hw
   ·cases h
  ·cases h
theorem evalOps_ok (hN:NoNum P)(hW:zj4 call)(hC:CallOk P call){all:List Oper}{N:Nat}{Q:Exit->Act->World->Prop}:∀ {os:List Oper} {L L':Lo} {H H':Hp} {E:Env} {a:Act} {w:World},evalOps P call all os L H=some (L',H')->dstLt N os=true->WfH H->Gd E L H N a w->Fresh E H.nx H'.nx->
  (∀ E' a' w',Stp E H.t.get w E' H'.t.get w'->Dom E E' H.nx H'.nx->Gd E' L' H' N a' w'->Q .normal a' w')->wpList P all.toArray Q os a w
 | [],L,L',H,H',E,a,w,h,hd,hw,hg,hf,hQ=>by cases h; exact hQ E a w (.refl _ _ _) (.refl _ _ _) hg
 | o::os,L,L',H,H',E,a,w,h,hd,hw,hg,hf,hQ=>by
  have hdo:∀ i,o.dst=some i->i<a.tmps.size:=fun i hi=>xbi (dstLt_get hd (by simp) hi) hg.sz;have hdl:dstLt N os=true:=by
   simp only [dstLt] at hd;split at hd
   ·exact hd
   ·split at hd
    ·exact hd
    ·cases hd
  simp only [evalOps] at h;split at h
  ·rename_i hwant;have hwant:=wants_ok hwant hg.loc;split at h
   ·rename_i x H1 hop;split at h
    ·rename_i L1 hput;unfold wpList;rw [xad hwant];obtain ⟨k1,k2⟩:=evalOp_wf hW hop hw;obtain ⟨k3,k4⟩:=evalOps_wf hW h k1;refine .inl (evalOp_ok hN hC hop hg.loc hg.st hw (hf.sub (xaf _) k4) _ _ ?_);rintro E1 v w1 ⟨h1,h4,h2,h3⟩;refine evalOps_ok hN hW hC h hdl k1 ⟨put_loc hput (hg.loc.mono h1.le) h3 hdo,h2,by rw [zfx]; exact hg.df,by rw [put_size]; exact hg.sz⟩ (hf.next h4 k2) fun E' a' w' g1 g3 g2=>hQ E' a' w' (h1.trans g1) (h4.trans g3 k2 k4) g2
    ·cases h
   ·cases h
  ·rename_i hwant;have hwant:=wants_ok hwant hg.loc;split at h
   ·rename_i L1 hput;unfold wpList;rw [xab (by rw [hwant]; simp)];exact evalOps_ok hN hW hC h hdl hw ⟨put_loc hput hg.loc zib hdo,hg.st,by rw [zfx]; exact hg.df,by rw [put_size]; exact hg.sz⟩ hf hQ
   ·cases h
  ·cases h
end
end Go.Cm
