/- The interpreter of closed runs, part CmD. -/
import Derived.Test.YtgcndnddgajekaaGreatDoorCmC
import Derived.Test.YtgcndnddgajekaaGreatDoorEmP
set_option linter.unusedVariables false
set_option linter.unusedSimpArgs false
set_option linter.unusedSectionVars false
set_option linter.unnecessarySimpa false
namespace Go.Cm
open Go
theorem eqL_eq {α:Type}{f:α->α->Bool}(hf:∀ x y,f x y=true->x=y):∀ {a b:List α},eqL f a b=true->a=b
 | [],[],_=>rfl
 | [],_::_,h=>by cases h
 | _::_,[],h=>by cases h
 | x::l,y::r,h=>by
  simp only [eqL] at h;split at h
  ·rename_i hx; rw [hf x y hx,eqL_eq hf h]
  ·cases h
theorem eqI_eq {a b:Int}(h:eqI a b=true):a=b:=by
 cases a <;> cases b <;> simp only [eqI] at h <;> first | (cases h; done) | (rw [xam h])
theorem eqK_eq {a b:IntKind}(h:eqK a b=true):a=b:=by cases a <;> cases b <;> first | rfl | cases h
theorem eqBo_eq {a b:Bool}(h:eqBo a b=true):a=b:=by cases a <;> cases b <;> first | rfl | cases h
theorem eqV_eq:∀ {d:Nat} {x y:CV},eqV d x y=true->x=y
 | 0,_,_,h=>by cases h
 | d+1,x,y,h=>by
  have ih:=fun a b=>@eqV_eq d a b;unfold eqV at h;split at h
  all_goals first
   | rfl
   | (cases h; done)
   | skip
  ·obtain ⟨h1,h2⟩:=xa2.1 h; rw [eqK_eq h1,eqI_eq h2]
  ·rw [eqBo_eq h]
  ·rw [eqL_eq (fun x y h=>xam h) h]
  ·obtain ⟨h1,h2⟩:=xa2.1 h; rw [xam h1,xam h2]
  ·obtain ⟨h,h6⟩:=xa2.1 h;obtain ⟨h,h5⟩:=xa2.1 h;obtain ⟨h,h4⟩:=xa2.1 h;obtain ⟨h,h3⟩:=xa2.1 h;obtain ⟨h1,h2⟩:=xa2.1 h;rw [xam h1,xam h2,xam h3,xam h4,eqBo_eq h5,xam h6]
  ·rw [xam h]
  ·obtain ⟨h1,h2⟩:=xa2.1 h; rw [xam h1,eqL_eq ih h2]
  ·obtain ⟨h1,h2⟩:=xa2.1 h; rw [xam h1,ih _ _ h2]
  ·rw [eqL_eq ih h]
  ·rw [eqL_eq ih h]
theorem has_eq (m i:Nat):has m i=m.testBit i:=by
 rw [Nat.testBit_eq_decide_div_mod_eq,has,xb0,Nat.beq_eq,xav]
theorem has_or (a b i:Nat):has (Nat.lor a b) i=(has a i||has b i):=by
 rw [has_eq,has_eq,has_eq]; exact Nat.testBit_or a b i
theorem has_pow (i j:Nat):has (2 ^ i) j=decide (i=j):=by rw [has_eq,Nat.testBit_two_pow]
theorem has_zero (j:Nat):has 0 j=false:=by rw [has_eq]; exact Nat.zero_testBit j
theorem has_sub {m d i:Nat}(h:Nat.land m d=m)(hi:has m i=true):has d i=true:=by
 rw [has_eq] at *
 have h':m &&& d=m:=h;rw [<- h',Nat.testBit_and,xaw] at hi;exact hi.2
theorem zl4 {acc:List Nat}{j:Nat}:∀ {l:List Edge},has (zjd acc l) j=true->∃ e∈l,Region.binds .any e=true/\(j=e.on\/∃ m,nth acc e.on=some m/\has m j=true)
 | [],h=>by simp [zjd,has_zero] at h
 | e::l,h=>by
  simp only [zjd] at h;split at h
  ·rename_i hb;split at h
   ·rename_i m hm;rw [has_or,has_or,has_pow] at h;simp only [xa0,xav] at h
    rcases h with (h | h) | h
    ·exact ⟨e,by simp,hb,.inl h.symm⟩
    ·exact ⟨e,by simp,hb,.inr ⟨m,hm,h⟩⟩
    ·obtain ⟨e',h1,h2⟩:=zl4 h;exact ⟨e',by simp [h1],h2⟩
   ·rw [has_or,has_pow] at h;simp only [xa0,xav] at h
    rcases h with h | h
    ·exact ⟨e,by simp,hb,.inl h.symm⟩
    ·obtain ⟨e',h1,h2⟩:=zl4 h;exact ⟨e',by simp [h1],h2⟩
  ·obtain ⟨e',h1,h2⟩:=zl4 h;exact ⟨e',by simp [h1],h2⟩
theorem masks_pre:∀ {l:List Oper} {acc:List Nat} {k m:Nat},nth acc k=some m->nth (zk9 l acc) k=some m
 | [],acc,k,m,h=>h
 | o::l,acc,k,m,h=>by
  simp only [zk9];refine masks_pre ?_;rw [zf9] at *
  rw [xak (xac.1 h).1]; exact h
theorem masks_has:∀ {l:List Oper} {acc:List Nat} {i:Nat} {o:Oper} {m j:Nat},nth l i=some o->nth (zk9 l acc) (acc.length+i)=some m->has m j=true->
  ∃ e∈o.after.toList,Region.binds .any e=true/\(j=e.on\/∃ m',nth (zk9 l acc) e.on=some m'/\has m' j=true)
 | [],_,_,_,_,_,h,_,_=>by cases h
 | p::l,acc,0,o,m,j,ho,hm,hj=>by
  have ho:p=o:=Option.some.inj ho;subst ho;simp only [zk9] at hm ⊢;have:nth (zk9 l (acc++[zjd acc p.after.toList])) (acc.length+0)=some (zjd acc p.after.toList):=masks_pre (by rw [zf9]; simp);rw [this] at hm; cases hm;obtain ⟨e,h1,h2,h3⟩:=zl4 hj;refine ⟨e,h1,h2,?_⟩
  rcases h3 with h3 | ⟨m',h3,h4⟩
  ·exact .inl h3
  ·refine .inr ⟨m',masks_pre ?_,h4⟩;rw [zf9] at *
   rw [xak (xac.1 h3).1]; exact h3
 | p::l,acc,i+1,o,m,j,ho,hm,hj=>by
  have ho:nth l i=some o:=ho;simp only [zk9] at hm ⊢;refine masks_has (acc:=acc++[zjd acc p.after.toList]) (i:=i) ho ?_ hj;rw [<- hm]; congr 1; simp; omega
def Closed (ops:List Oper)(D:Nat->Bool):Prop:=∀ j o e,ops[j]?=some o->D j=true->e∈o.after.toList->Region.binds .any e=true->D e.on=true
theorem zlz:∀ {l:List Oper} {i k:Nat} {o:Oper} {e:Edge},zkm l i=true->l[k]?=some o->e∈o.after.toList->Region.binds .any e=true->e.on<i+k
 | [],_,_,_,_,_,h,_,_=>by simp at h
 | p::l,i,0,o,e,h,ho,he,hb=>by
  simp at ho; subst ho;simp only [zkm] at h;split at h
  ·rename_i hall;have:=(xcl.1 hall) e he;simpa [hb,xcx] using this
  ·cases h
 | p::l,i,k+1,o,e,h,ho,he,hb=>by
  simp only [zkm] at h;split at h
  ·have:=zlz (i:=i+1) h (by simpa using ho) he hb;omega
  ·cases h
section
variable {ops:List Oper}{D:Nat->Bool}
theorem anc_done (hb:zkm ops 0=true)(hC:Closed ops D):∀ (i:Nat) {o:Oper} {m j:Nat},ops[i]?=some o->nth (zk9 ops []) i=some m->D i=true->has m j=true->D j=true:=by
 intro i
 induction i using Nat.strongRecOn with
 | _ i ih=>
  intro o m j ho hm hD hj;obtain ⟨e,h1,h2,h3⟩:=masks_has (l:=ops) (acc:=[]) (i:=i) (by rw [zf9]; exact ho) (by simpa using hm) hj;have hlt:=zlz hb ho h1 h2;have hDe:=hC i o e ho hD h1 h2
  rcases h3 with rfl | ⟨m',h3,h4⟩
  ·exact hDe
  ·have hlen:e.on<ops.length:=by have:=(xac.1 ho).1; omega
   exact ih e.on (by omega) (xag hlen) h3 hDe h4
theorem anc_ready (hb:zkm ops 0=true)(hC:Closed ops D){i:Nat}{o:Oper}{m j:Nat}(ho:ops[i]?=some o)(hm:nth (zk9 ops []) i=some m)(hr:∀ e∈o.after.toList,Region.binds .any e=true->D e.on=true)(hj:has m j=true):D j=true:=by
 obtain ⟨e,h1,h2,h3⟩:=masks_has (l:=ops) (acc:=[]) (i:=i) (by rw [zf9]; exact ho) (by simpa using hm) hj;have hDe:=hr e h1 h2;have hlt:=zlz hb ho h1 h2
 rcases h3 with rfl | ⟨m',h3,h4⟩
 ·exact hDe
 ·have hlen:e.on<ops.length:=by have:=(xac.1 ho).1; omega
  exact anc_done hb hC e.on (xag hlen) h3 hDe h4
end
theorem sub_get {L:Lo}:∀ {ts:List Nat} {acc:Lo} {t:Nat} {c:CV},(sub L ts acc).get t=some c->(t∈ts/\L.get t=some c)\/acc.get t=some c
 | [],acc,t,c,h=>.inr h
 | u::ts,acc,t,c,h=>by
  simp only [sub] at h;split at h
  ·rename_i x hx;have key:∀ acc':Lo,(sub L ts acc').get t=some c->(∀ y,acc'.get t=some y->(t=u/\y=x)\/acc.get t=some y)->(t∈u::ts/\L.get t=some c)\/acc.get t=some c:=fun acc' h1 h2=>by
    rcases sub_get h1 with ⟨g1,g2⟩ | g
    ·exact .inl ⟨by simp [g1],g2⟩
    ·rcases h2 c g with ⟨rfl,rfl⟩ | g
     ·exact .inl ⟨by simp,hx⟩
     ·exact .inr g
   split at h
   ·exact key _ h fun y hy=>by rw [Tr.get_lf] at hy; cases hy
   ·rename_i a b c' hs;refine key _ h fun y hy=>?_;rw [<- hs,Tr.get_set] at hy;split at hy
    ·rename_i e; cases hy; exact .inl ⟨e,rfl⟩
    ·exact .inr hy
  ·rcases sub_get h with ⟨g1,g2⟩ | g
   ·exact .inl ⟨by simp [g1],g2⟩
   ·exact .inr g
theorem sub_lf {L:Lo}{ts:List Nat}{t:Nat}{c:CV}(h:(sub L ts .lf).get t=some c):t∈ts/\L.get t=some c:=by
 rcases sub_get h with h | h
 ·exact h
 ·rw [Tr.get_lf] at h; cases h
end Go.Cm
namespace Go.Cm
open Go
theorem kindOf_le (P:Program)(o:Op):kindOf P o=0\/kindOf P o=1\/kindOf P o=2\/kindOf P o=3:=by
 unfold kindOf;split <;> first | (simp; done) | (split <;> simp)
structure RcOk (P:Program)(call:zob)(ops:List Oper)(r:Rc):Prop where
 op:ops[r.i]?=some r.o
 wt:wants ops r.Lr r.o.guard=some (!Nat.beq r.k 4)
 k0:r.k=0->zl2 P r.Lr r.o=some r.x/\r.H'=r.H
 k1:r.k=1->evalRead P r.Lr r.H r.o=some r.x/\r.H'=r.H
 k2:r.k=2->zom P r.Lr r.H.nx r.o=some (r.x,r.B)/\r.n=r.H.nx/\newB r.H r.B=some r.H'
 k3:r.k=3->zlc P call r.Lr r.H r.o=some (r.x,r.H')/\kindOf P r.o.op=3
 k4:r.k=4->r.x = .tup []/\r.H'=r.H
 kk:r.k<=4
section
variable {P:Program}{call:zob}{ops:List Oper}
theorem stepOrd_ok {i:Nat}{L:Lo}{H:Hp}{r:Rc}(h:stepOrd P call ops i L H=some r):RcOk P call ops r/\r.i=i/\r.H=H/\r.Lr=sub L (looks ops r.o) .lf:=by
 unfold stepOrd at h;split at h
 ·cases h
 ·rename_i o ho;rw [zf9] at ho;simp only at h;split at h
  ·cases h
  ·rename_i hw;cases h;exact ⟨⟨ho,hw,by simp,by simp,by simp,by simp,fun _=>⟨rfl,rfl⟩,by simp⟩,rfl,rfl,rfl⟩
  ·rename_i hw;split at h
   ·split at h
    ·rename_i x hx;rw [zn9] at h; cases h;exact ⟨⟨ho,hw,fun _=>⟨hx,rfl⟩,by simp,by simp,by simp,by simp,by simp⟩,rfl,rfl,rfl⟩
    ·cases h
   ·split at h
    ·rename_i x hx;rw [zn9] at h; cases h;exact ⟨⟨ho,hw,by simp,fun _=>⟨hx,rfl⟩,by simp,by simp,by simp,by simp⟩,rfl,rfl,rfl⟩
    ·split at h
     ·rename_i x hx;rw [zn9] at h; cases h;exact ⟨⟨ho,hw,fun _=>⟨hx,rfl⟩,by simp,by simp,by simp,by simp,by simp⟩,rfl,rfl,rfl⟩
     ·cases h
   ·split at h
    ·rename_i hm;rw [zn9,fS_eq] at h;split at h
     ·rename_i hn;cases h;exact ⟨⟨ho,hw,by simp,by simp,fun _=>⟨hm,rfl,hn⟩,by simp,by simp,by simp⟩,rfl,rfl,rfl⟩
     ·cases h
    ·rename_i hm;rw [zn9] at h;split at h
     ·rename_i hn;cases h;exact ⟨⟨ho,hw,by simp,by simp,fun _=>⟨hm,rfl,hn⟩,by simp,by simp,by simp⟩,rfl,rfl,rfl⟩
     ·cases h
    ·cases h
   ·rename_i h0 h1 h2;split at h
    ·rename_i x H' hx;rw [zn9] at h; cases h;refine ⟨⟨ho,hw,by simp,by simp,by simp,fun _=>⟨hx,?_⟩,by simp,by simp⟩,rfl,rfl,rfl⟩
     rcases kindOf_le P o.op with h | h | h | h
     ·exact absurd h h0
     ·exact absurd h h1
     ·exact absurd h h2
     ·exact h
    ·cases h
def Chain (P:Program)(call:zob)(ops:List Oper):Lo->Hp->List Rc->Lo->Hp->Prop
 | L,H,[],Lf,Hf=>L=Lf/\H=Hf
 | L,H,r::rs,Lf,Hf=>RcOk P call ops r/\r.H=H/\r.Lr=sub L (looks ops r.o) .lf/\∃ L',put L r.o.dst r.x=some L'/\Chain P call ops L' r.H' rs Lf Hf
theorem runOrd_chain:∀ {l:List Nat} {L:Lo} {H:Hp} {rs:List Rc} {Lf:Lo} {Hf:Hp},runOrd P call ops l L H=some (rs,Lf,Hf)->Chain P call ops L H rs Lf Hf/\rs.map (·.i)=l
 | [],L,H,rs,Lf,Hf,h=>by cases h; exact ⟨⟨rfl,rfl⟩,rfl⟩
 | i::l,L,H,rs,Lf,Hf,h=>by
  simp only [runOrd] at h;split at h
  ·rename_i r hr;obtain ⟨h1,h2,h3,h4⟩:=stepOrd_ok hr;split at h
   ·rename_i L' hp;split at h
    ·rename_i rs' Lf' Hf' hrun;cases h;obtain ⟨g1,g2⟩:=runOrd_chain hrun;exact ⟨⟨h1,h3,h4,L',hp,g1⟩,by simp [h2,g2]⟩
    ·cases h
   ·cases h
  ·cases h
theorem RcOk.wf (hW:zj4 call){r:Rc}(h:RcOk P call ops r)(hw:WfH r.H):WfH r.H'/\r.H.nx<=r.H'.nx/\(r.k=2->r.H'.nx=r.H.nx+1/\r.H'.t.get r.n=some r.B/\∀ j,j≠r.n->r.H'.t.get j=r.H.t.get j):=by
 have hk:=h.kk;have:r.k=0\/r.k=1\/r.k=2\/r.k=3\/r.k=4:=by omega
 rcases this with e | e | e | e | e
 ·rw [(h.k0 e).2]; exact ⟨hw,xaf _,fun h=>by omega⟩
 ·rw [(h.k1 e).2]; exact ⟨hw,xaf _,fun h=>by omega⟩
 ·obtain ⟨h1,h2,h3⟩:=h.k2 e;obtain ⟨n1,n2,n3,n4⟩:=ziz h3 hw (zgk h1);exact ⟨n1,by omega,fun _=>⟨n2,by rw [h2]; exact n3,by rw [h2]; exact n4⟩⟩
 ·obtain ⟨h1,h2⟩:=evalHeavy_wf hW (h.k3 e).1 hw;exact ⟨h1,h2,fun h=>by omega⟩
 ·rw [(h.k4 e).2]; exact ⟨hw,xaf _,fun h=>by omega⟩
theorem RcOk.same {r:Rc}(h:RcOk P call ops r)(h2:r.k≠2)(h3:r.k≠3):r.H'=r.H:=by
 have hk:=h.kk;have:r.k=0\/r.k=1\/r.k=4:=by omega
 rcases this with e | e | e
 ·exact (h.k0 e).2
 ·exact (h.k1 e).2
 ·exact (h.k4 e).2
theorem Chain.wf (hW:zj4 call):∀ {rs:List Rc} {L:Lo} {H:Hp} {Lf:Lo} {Hf:Hp},Chain P call ops L H rs Lf Hf->WfH H->WfH Hf/\H.nx<=Hf.nx
 | [],_,_,_,_,h,hw=>by obtain ⟨_,rfl⟩:=h; exact ⟨hw,xaf _⟩
 | r::rs,L,H,Lf,Hf,h,hw=>by
  obtain ⟨h1,rfl,_,L',_,h5⟩:=h;obtain ⟨g1,g2,_⟩:=h1.wf hW hw;obtain ⟨g3,g4⟩:=h5.wf hW g1;exact ⟨g3,by omega⟩
theorem Chain.split:∀ {pre suf:List Rc} {L:Lo} {H:Hp} {Lf:Lo} {Hf:Hp},Chain P call ops L H (pre++suf) Lf Hf->∃ L1 H1,Chain P call ops L H pre L1 H1/\Chain P call ops L1 H1 suf Lf Hf
 | [],suf,L,H,Lf,Hf,h=>⟨L,H,⟨rfl,rfl⟩,h⟩
 | r::pre,suf,L,H,Lf,Hf,h=>by
  obtain ⟨h1,h2,h3,L',h4,h5⟩:=h;obtain ⟨L1,H1,g1,g2⟩:=Chain.split h5;exact ⟨L1,H1,⟨h1,h2,h3,L',h4,g1⟩,g2⟩
theorem Chain.mem:∀ {rs:List Rc} {L:Lo} {H:Hp} {Lf:Lo} {Hf:Hp} {r:Rc},Chain P call ops L H rs Lf Hf->r∈rs->RcOk P call ops r
 | [],_,_,_,_,_,_,h=>by cases h
 | s::rs,_,_,_,_,r,h,hr=>by
  obtain ⟨h1,h2,h3,L',h4,h5⟩:=h
  rcases xaq.1 hr with rfl | hr
  ·exact h1
  ·exact h5.mem hr
theorem Chain.names (hW:zj4 call):∀ {rs:List Rc} {L:Lo} {H:Hp} {Lf:Lo} {Hf:Hp} {r:Rc},Chain P call ops L H rs Lf Hf->WfH H->r∈rs->r.k=2->H.nx<=r.n/\r.n<Hf.nx
 | [],_,_,_,_,_,_,_,h,_=>by cases h
 | s::rs,L,H,Lf,Hf,r,h,hw,hr,hk=>by
  obtain ⟨h1,rfl,h3,L',h4,h5⟩:=h;obtain ⟨g1,g2,g3⟩:=h1.wf hW hw
  rcases xaq.1 hr with rfl | hr
  ·obtain ⟨f1,_,_⟩:=g3 hk;have:=(h1.k2 hk).2.1;have:=(h5.wf hW g1).2;omega
  ·have:=h5.names hW g1 hr hk;omega
theorem Chain.slots:∀ {rs:List Rc} {L:Lo} {H:Hp} {Lf:Lo} {Hf:Hp} {t:Nat} {c:CV},Chain P call ops L H rs Lf Hf->Lf.get t=some c->(∃ s∈rs,s.o.dst=some t/\s.x=c)\/((∀ s∈rs,s.o.dst≠some t)/\L.get t=some c)
 | [],_,_,_,_,_,_,h,hc=>by obtain ⟨rfl,_⟩:=h; exact .inr ⟨fun s hs=>(by cases hs),hc⟩
 | r::rs,L,H,Lf,Hf,t,c,h,hc=>by
  obtain ⟨h1,rfl,h3,L',h4,h5⟩:=h
  rcases h5.slots hc with ⟨s,g1,g2,g3⟩ | ⟨g1,g2⟩
  ·exact .inl ⟨s,by simp [g1],g2,g3⟩
  ·rw [put_get h4] at g2;split at g2
   ·rename_i e; cases g2; exact .inl ⟨r,by simp,e,rfl⟩
   ·rename_i e;refine .inr ⟨fun s hs=>?_,g2⟩
    rcases xaq.1 hs with rfl | hs
    ·exact e
    ·exact g1 s hs
theorem maskList:∀ {p:List Nat} {done j:Nat},has (p.foldl (fun d i=>Nat.lor d (2 ^ i)) done) j=true↔has done j=true\/j∈p
 | [],done,j=>by simp
 | i::p,done,j=>by
  simp only [xef,xaq];rw [maskList,has_or,has_pow];simp only [xa0,xav];constructor
  ·rintro ((h | h) | h)
   ·exact .inl h
   ·exact .inr (.inl h.symm)
   ·exact .inr (.inr h)
  ·rintro (h | rfl | h)
   ·exact .inl (.inl h)
   ·exact .inl (.inr rfl)
   ·exact .inr h
theorem znd {ms:List Nat}:∀ {p:List Nat} {i:Nat} {q:List Nat} {done:Nat},linear P ops ms (p++i::q) done=true->
  i∉p/\has done i=false/\∃ m o,nth ms i=some m/\nth ops i=some o/\(∀ j,has m j=true->has done j=true\/j∈p)/\(kindOf P o.op=3->∀ j,(has done j=true\/j∈p)->has m j=true)
 | [],i,q,done,h=>by
  simp only [xbt,linear] at h;split at h
  ·cases h
  ·rename_i hd;split at h
   ·rename_i m hm;split at h
    ·rename_i o ho;split at h
     ·rename_i hl;have hl:=xam hl;refine ⟨by simp,hd,m,o,hm,ho,fun j hj=>.inl (has_sub hl hj),fun hk j hj=>?_⟩;rw [hk] at h;simp only at h;split at h
      ·rename_i he;have he:=xam he;subst he
       rcases hj with hj | hj
       ·exact hj
       ·cases hj
      ·cases h
     ·cases h
    ·cases h
   ·cases h
 | k::p,i,q,done,h=>by
  have key:linear P ops ms (p++i::q) (Nat.lor done (2 ^ k))=true:=by
   simp only [xbn,linear] at h;split at h
   ·cases h
   ·split at h
    ·split at h
     ·split at h
      ·split at h
       ·split at h
        ·exact h
        ·cases h
       ·exact h
      ·cases h
     ·cases h
    ·cases h
  obtain ⟨h1,h2,m,o,h3,h4,h5,h6⟩:=znd key;rw [has_or,has_pow] at h2;simp only [xcd,xbd] at h2;refine ⟨by simp only [xaq,not_or]; exact ⟨fun e=>h2.2 e.symm,h1⟩,h2.1,m,o,h3,h4,fun j hj=>?_,fun hk j hj=>h6 hk j ?_⟩
  ·have:=h5 j hj;rw [has_or,has_pow] at this;simp only [xa0,xav] at this
   rcases this with (h | rfl) | h
   ·exact .inl h
   ·exact .inr (by simp)
   ·exact .inr (by simp [h])
  ·rw [has_or,has_pow];simp only [xa0,xav]
   rcases hj with hj | hj
   ·exact .inl (.inl hj)
   ·rcases xaq.1 hj with rfl | hj
    ·exact .inl (.inr rfl)
    ·exact .inr hj
theorem memN_mem {i:Nat}:∀ {l:List Nat},memN i l=true->i∈l
 | [],h=>by cases h
 | j::l,h=>by
  simp only [memN] at h;split at h
  ·rename_i e; rw [xam e]; simp
  ·simp [memN_mem h]
theorem mem_memN {i:Nat}:∀ {l:List Nat},i∈l->memN i l=true
 | j::l,h=>by
  simp only [memN]
  rcases xaq.1 h with rfl | h
  ·rw [xej]
  ·split
   ·rfl
   ·exact mem_memN h
theorem full_get {l:List Nat}:∀ {n i:Nat},full l n=true->i<n->i∈l
 | 0,_,_,h=>absurd h (Nat.not_lt_zero _)
 | n+1,i,h,hi=>by
  simp only [full] at h;split at h
  ·rename_i hm;by_cases e:i=n
   ·subst e; exact memN_mem hm
   ·exact full_get h (by omega)
  ·cases h
theorem okAll_get {ms:List Nat}:∀ {l:List Oper} {b i j:Nat} {oi oj:Oper},okAll ops ms l b=true->l[i]?=some oi->ops[j]?=some oj->okPair ops ms (b+i) oi j oj=true
 | [],_,_,_,_,_,_,h,_=>by simp at h
 | o::l,b,i,j,oi,oj,h,hi,hj=>by
  simp only [okAll] at h;split at h
  ·rename_i hrow;cases i with
   | zero=>
    simp at hi; subst hi;have:∀ {l:List Oper} {b' k:Nat} {ok:Oper},okRow ops ms b o l b'=true->l[k]?=some ok->okPair ops ms b o (b'+k) ok=true:=by
     intro l
     induction l with
     | nil=>intro _ _ _ _ h; simp at h
     | cons p l ih=>
      intro b' k ok h hk;simp only [okRow] at h;split at h
      ·rename_i hp;cases k with
       | zero=>simp at hk; subst hk; exact hp
       | succ k=>have:=ih h (by simpa using hk); rw [show b'+(k+1)=b'+1+k by omega]; exact this
      ·cases h
    have:=this hrow hj;simpa using this
   | succ i=>
    have:=okAll_get (b:=b+1) h (by simpa using hi) hj;rw [show b+(i+1)=b+1+i by omega]; exact this
  ·cases h
theorem okPair_use {ms:List Nat}{i j d:Nat}{oi oj:Oper}(h:okPair ops ms i oi j oj=true)(hne:i≠j)(hd:oj.dst=some d) :
  oi.dst≠some d/\(d∈looks ops oi->(∃ m,nth ms i=some m/\has m j=true)\/(∃ m,nth ms j=some m/\has m i=true)):=by
 unfold okPair at h;split at h
 ·rename_i e; exact absurd (xam e) hne
 ·rw [hd] at h;simp only at h;have fin:∀ {b:Bool},(!memN d (looks ops oi)||(match nth ms i with | some m=>has m j | none=>false)||(match nth ms j with | some m=>has m i | none=>false))=true->d∈looks ops oi->(∃ m,nth ms i=some m/\has m j=true)\/(∃ m,nth ms j=some m/\has m i=true):=fun h hm=>by
   simp only [xa0,xbq] at h
   rcases h with (h | h) | h
   ·rw [mem_memN hm] at h; cases h
   ·split at h
    ·rename_i m hm'; exact .inl ⟨m,hm',h⟩
    ·cases h
   ·split at h
    ·rename_i m hm'; exact .inr ⟨m,hm',h⟩
    ·cases h
  split at h
  ·rename_i d' hd';split at h
   ·cases h
   ·rename_i hdd;have hdd:=xcp hdd;refine ⟨fun e=>?_,fin (b:=true) h⟩;rw [hd'] at e; cases e; exact hdd rfl
  ·rename_i hd';refine ⟨fun e=>?_,fin (b:=true) h⟩;rw [hd'] at e; cases e
end
end Go.Cm
namespace Go.Cm
open Go
def walkH:List Rc->Hp->Hp
 | [],Hb=>Hb
 | s::l,Hb=>if s.k=3 then walkH l s.H' else walkH l Hb
section
variable {P:Program}{call:zob}{ops:List Oper}
theorem again_walk {m:Nat}{recs:List Rc}{r:Rc}:∀ {pre suf:List Rc} {Hb:Hp},again P m recs r (pre++suf) Hb=true->(∀ s∈pre,s.i≠r.i)->again P m recs r suf (walkH pre Hb)=true
 | [],_,_,h,_=>h
 | s::pre,suf,Hb,h,hne=>by
  have hs:=hne s (by simp);simp only [xbn,again] at h;split at h
  ·rename_i e; exact absurd (xam e) hs
  ·split at h
   ·rename_i hk;rw [walkH,xad hk];split at h
    ·exact again_walk h fun s hs=>hne s (by simp [hs])
    ·split at h
     ·exact again_walk h fun s hs=>hne s (by simp [hs])
     ·cases h
   ·rename_i hk;rw [walkH,xab hk];exact again_walk h fun s hs=>hne s (by simp [hs])
theorem again_reads {m:Nat}{recs:List Rc}{r:Rc}:∀ {suf:List Rc} {Hb:Hp},again P m recs r suf Hb=true->(∀ s∈suf,s.k=3->has m s.i=false)->readsAs P m recs r Hb=true
 | [],_,h,_=>by cases h
 | s::suf,Hb,h,hne=>by
  simp only [again] at h;split at h
  ·exact h
  ·split at h
   ·rename_i hk;rw [hne s (by simp) hk] at h;simp only at h;split at h
    ·rename_i hr; exact hr
    ·cases h
   ·exact again_reads h fun s hs=>hne s (by simp [hs])
theorem base_ok (hW:zj4 call):∀ {pre:List Rc} {L L1:Lo} {H H1 Hb:Hp} {T:Nat->Blk->Prop},Chain P call ops L H pre L1 H1->WfH H->Hb.nx<=H.nx->(∀ n B,Hb.t.get n=some B->H.t.get n=some B)->
  (∀ n B,T n B->n<H.nx/\(Hb.nx<=n->H.t.get n=some B))->
  (∀ n B,(walkH pre Hb).t.get n=some B->H1.t.get n=some B)/\(∀ n B,T n B->(walkH pre Hb).nx<=n->H1.t.get n=some B)/\(∀ s∈pre,s.k=2->(walkH pre Hb).nx<=s.n->H1.t.get s.n=some s.B)
 | [],_,_,_,_,Hb,T,h,hw,h1,h2,h3=>by
  obtain ⟨_,rfl⟩:=h;exact ⟨h2,fun n B ht hn=>(h3 n B ht).2 hn,fun s hs=>(by cases hs)⟩
 | r::pre,L,L1,H,H1,Hb,T,h,hw,h1,h2,h3=>by
  obtain ⟨g1,rfl,_,L',_,g5⟩:=h;obtain ⟨f1,f2,f3⟩:=g1.wf hW hw;by_cases hk:r.k=3
  ·rw [walkH,xad hk];obtain ⟨e1,e2,e3⟩:=base_ok hW (Hb:=r.H') (T:=T) g5 f1 (xaf _) (fun _ _ h=>h) (fun n B ht=>⟨by have:=(h3 n B ht).1; omega,fun hn=>by have:=(h3 n B ht).1; omega⟩);refine ⟨e1,e2,fun s hs hk2=>?_⟩
   rcases xaq.1 hs with rfl | hs
   ·omega
   ·exact e3 s hs hk2
  ·rw [walkH,xab hk];by_cases hk2:r.k=2
   ·obtain ⟨n1,n2,n3⟩:=f3 hk2;have hrn:=(g1.k2 hk2).2.1;have hne:∀ n B,r.H.t.get n=some B->n≠r.n:=fun n B hg=>by have:=(hw.lt n B hg).1; omega
    obtain ⟨e1,e2,e3⟩:=base_ok hW (Hb:=Hb) (T:=fun n B=>T n B\/(n=r.n/\B=r.B)) g5 f1 (by omega) (fun n B hg=>by rw [n3 n (hne n B (h2 n B hg))]; exact h2 n B hg)
     (fun n B ht=>by
      rcases ht with ht | ⟨rfl,rfl⟩
      ·obtain ⟨t1,t2⟩:=h3 n B ht;exact ⟨by omega,fun hn=>by rw [n3 n (by omega)]; exact t2 hn⟩
      ·exact ⟨by omega,fun _=>n2⟩)
    refine ⟨e1,fun n B ht=>e2 n B (.inl ht),fun s hs hks=>?_⟩
    rcases xaq.1 hs with rfl | hs
    ·exact e2 _ _ (.inr ⟨rfl,rfl⟩)
    ·exact e3 s hs hks
   ·have hs:=g1.same hk2 hk;obtain ⟨e1,e2,e3⟩:=base_ok hW (Hb:=Hb) (T:=T) g5 f1 (by omega) (by rw [hs]; exact h2) (by rw [hs]; exact h3);refine ⟨e1,e2,fun s hs hks=>?_⟩
    rcases xaq.1 hs with rfl | hs
    ·omega
    ·exact e3 s hs hks
theorem withAl_get {m nx:Nat}:∀ {recs:List Rc} {t:Tr Blk} {n:Nat} {B:Blk},(withAl m nx recs t).get n=some B->t.get n=some B\/∃ s∈recs,s.k=2/\has m s.i=true/\nx<=s.n/\s.n=n/\s.B=B
 | [],t,n,B,h=>.inl h
 | s::recs,t,n,B,h=>by
  simp only [withAl] at h;have key:∀ t',(withAl m nx recs t').get n=some B->(t'.get n=some B->t.get n=some B\/∃ s'∈s::recs,s'.k=2/\has m s'.i=true/\nx<=s'.n/\s'.n=n/\s'.B=B)->
    t.get n=some B\/∃ s'∈s::recs,s'.k=2/\has m s'.i=true/\nx<=s'.n/\s'.n=n/\s'.B=B:=fun t' h h'=>by
   rcases withAl_get h with h | ⟨s',h1,h2⟩
   ·exact h' h
   ·exact .inr ⟨s',by simp [h1],h2⟩
  split at h
  ·rename_i hk;split at h
   ·rename_i hm;split at h
    ·rename_i hn;refine key _ h fun hg=>?_;rw [Tr.get_set] at hg;split at hg
     ·rename_i e; cases hg; exact .inr ⟨s,by simp,hk,hm,xap hn,e.symm,rfl⟩
     ·exact .inl hg
    ·exact key _ h .inl
   ·exact key _ h .inl
  ·exact key _ h .inl
theorem Chain.uniq (hW:zj4 call):∀ {rs:List Rc} {L:Lo} {H:Hp} {Lf:Lo} {Hf:Hp} {r s:Rc},Chain P call ops L H rs Lf Hf->WfH H->r∈rs->s∈rs->r.k=2->s.k=2->r.n=s.n->r=s
 | [],_,_,_,_,_,_,_,_,h,_,_,_,_=>by cases h
 | u::rs,L,H,Lf,Hf,r,s,h,hw,hr,hs,h2,h3,he=>by
  obtain ⟨g1,rfl,_,L',_,g5⟩:=h;obtain ⟨f1,f2,f3⟩:=g1.wf hW hw
  rcases xaq.1 hr with rfl | hr1 <;> rcases xaq.1 hs with rfl | hs1
  ·rfl
  ·have e1:=(f3 h2).1;have e2:=(g1.k2 h2).2.1;have e3:=(g5.names hW f1 hs1 h3).1;omega
  ·have e1:=(f3 h3).1;have e2:=(g1.k2 h3).2.1;have e3:=(g5.names hW f1 hr1 h2).1;omega
  ·exact g5.uniq hW f1 hr1 hs1 h2 h3 he
theorem ok_sub {E:Env}{h:Hf}{w:World}(ok:HOk E h w){X:Nat->Blk->Prop}(hf:∀ n B B',X n B->X n B'->B=B')(ex:∀ n B,X n B->∃ b m,E n=some (b,0,m)/\BOk E w n B/\¬ Own E h b)
  (exd:∀ n n' B B' b β m b' β' m',n≠n'->X n B->X n' B'->E n=some (b,β,m)->E n'=some (b',β',m')->b≠b'){K:Hf}(hK:∀ n B,K n=some B->h n=some B\/X n B):HOk E K w where
 blk:=fun i B hi=>by
  rcases hK i B hi with h1 | h1
  ·exact ok.blk i B h1
  ·obtain ⟨_,_,_,h2,_⟩:=ex i B h1; exact h2
 dis:=fun i B j C b β n β' n' hi hj ha e1 e2=>by
  rcases hK i B hi with h1 | h1 <;> rcases hK j C hj with h2 | h2
  ·exact ok.dis i B j C _ _ _ _ _ h1 h2 ha e1 e2
  ·obtain ⟨b',m,f1,_,f3⟩:=ex j C h2;rw [f1] at e2; cases e2;exact f3 ⟨i,B,_,_,h1,e1⟩
  ·obtain ⟨b',m,f1,_,f3⟩:=ex i B h1;rw [f1] at e1; cases e1;exact f3 ⟨j,C,_,_,h2,e2⟩
  ·by_cases e:i=j
   ·subst e;have:=hf i B C h1 h2;subst this;unfold Apart at ha;split at ha <;> exact ha rfl
   ·exact exd i j B C _ _ _ _ _ _ e h1 h2 e1 e2 rfl
structure Reg (P:Program)(call:zob)(ops:List Oper)(recs:List Rc)(L0:Lo)(H0:Hp)(Lf:Lo)(Hf:Hp):Prop where
 hW:zj4 call
 hb:zkm ops 0=true
 ch:Chain P call ops L0 H0 recs Lf Hf
 lin:linear P ops (zk9 ops []) (recs.map (·.i)) 0=true
 ful:full (recs.map (·.i)) ops.length=true
 okA:okAll ops (zk9 ops []) ops 0=true
 chk:∀ r∈recs,r.k=1->∃ m,nth (zk9 ops []) r.i=some m/\again P m recs r recs H0=true
 wf:WfH H0
variable {recs:List Rc}{L0:Lo}{H0:Hp}{Lf:Lo}{Hf:Hp}
theorem Reg.at_ (R:Reg P call ops recs L0 H0 Lf Hf){r:Rc}(hr:r∈recs):∃ p q m,recs=p++r::q/\nth (zk9 ops []) r.i=some m/\r.i∉p.map (·.i)/\(∀ j,has m j=true->j∈p.map (·.i))/\(kindOf P r.o.op=3->∀ j∈p.map (·.i),has m j=true):=by
 obtain ⟨p,q,e⟩:=xcy hr;have hl:=R.lin;rw [e,xbx,xa9] at hl;obtain ⟨h1,h2,m,o,h3,h4,h5,h6⟩:=znd hl;have ho:=(R.ch.mem hr).op;rw [zf9,ho] at h4;cases h4;refine ⟨p,q,m,e,h3,h1,fun j hj=>?_,fun hk j hj=>h6 hk j (.inr hj)⟩
 rcases h5 j hj with h | h
 ·rw [has_zero] at h; cases h
 ·exact h
theorem Reg.uniq (R:Reg P call ops recs L0 H0 Lf Hf){r s:Rc}(hr:r∈recs)(hs:s∈recs)(he:r.i=s.i):r=s:=by
 obtain ⟨p,q,m,e,_,h1,_⟩:=R.at_ hr;obtain ⟨p',q',m',e',_,h1',_⟩:=R.at_ hs;rw [e] at hs
 rcases xax.1 hs with hs | hs
 ·exact absurd (by rw [he]; exact xb1.2 ⟨s,hs,rfl⟩) h1
 ·rcases xaq.1 hs with rfl | hs
  ·rfl
  ·
   rw [e] at hr;have:r∈p'\/r=s:=by
    rw [<- e] at hr;rw [e'] at hr
    rcases xax.1 hr with h | h
    ·exact .inl h
    ·rcases xaq.1 h with h | h
     ·exact .inr h
     ·exfalso;obtain ⟨a1,a2,ea⟩:=xcy hs;have hlen:p.length<p'.length\/p'.length<=p.length:=by omega
      obtain ⟨c1,c2,ec⟩:=xcy h;have f1:(p++r::q).map (·.i)=(p'++s::q').map (·.i):=by rw [<- e,<- e']
      have g1:((p++r::q).map (·.i))[p.length]?=some r.i:=by simp
      have g2:((p'++s::q').map (·.i))[p'.length]?=some s.i:=by simp
      have nodup:∀ k,k<p'.length->((p'++s::q').map (·.i))[k]?≠some s.i:=fun k hk hh=>by
       rw [xbx,xak (by simpa using hk)] at hh;exact h1' (xbk hh)
      have nodup2:∀ k,k<p.length->((p++r::q).map (·.i))[k]?≠some r.i:=fun k hk hh=>by
       rw [xbx,xak (by simpa using hk)] at hh;exact h1 (xbk hh)
      have hpp:p.length=p'.length:=by
       rcases xd2 p.length p'.length with hl | hl | hl
       ·exact absurd (by rw [<- f1,g1,he]) (nodup _ hl)
       ·exact hl
       ·exact absurd (by rw [f1,g2,he]) (nodup2 _ hl)
      have e12:p++r::q=p'++s::q':=by rw [<- e,<- e']
      obtain ⟨e3,e4⟩:=List.append_inj e12 hpp;simp only [List.cons.injEq] at e4;obtain ⟨e5,e6⟩:=e4;subst e5;subst e6;have hl:=R.lin;rw [e,ea,xbx,xa9,xbx,xa9,<- xbn,<- xaj] at hl;obtain ⟨k1,_⟩:=znd hl;exact k1 (by simp)
   rcases this with h | h
   ·exact absurd (by rw [<- he]; exact xb1.2 ⟨r,h,rfl⟩) h1'
   ·exact h
structure Inv (P:Program)(call:zob)(ops:List Oper)(recs:List Rc)(L0:Lo)(H0 Hf:Hp)(E0:Env)(w0:World)(N:Nat)(pre suf:List Rc)(H1:Hp)(D:Nat->Bool)(E:Env)(a:Act)(w:World):Prop where
 eq:recs=pre++suf
 ch:∃ L1 Lf,Chain P call ops L0 H0 pre L1 H1/\Chain P call ops L1 H1 suf Lf Hf
 pd:∀ r∈pre,D r.i=true
 sk:∀ r∈suf,D r.i=true->r.k≠3
 stp:Stp E0 H0.t.get w0 E H1.t.get w
 dom:Dom E0 E H0.nx Hf.nx
 ok:HOk E H1.t.get w
 ex:∀ r∈suf,D r.i=true->r.k=2->∃ b m,E r.n=some (b,0,m)/\BOk E w r.n r.B/\¬ Own E H1.t.get b/\w0.heap.size<=b
 exd:∀ r∈suf,∀ s∈suf,D r.i=true->D s.i=true->r.k=2->s.k=2->r.n≠s.n->∀ b β m b' β' m',E r.n=some (b,β,m)->E s.n=some (b',β',m')->b≠b'
 fr:∀ j,H1.nx<=j->j<Hf.nx->(∀ r∈suf,D r.i=true->r.k=2->r.n≠j)->E j=none
 loc1:∀ r∈recs,D r.i=true->∀ d,r.o.dst=some d->RC E (a.tmps.getD d undef) r.x
 loc2:∀ t c,L0.get t=some c->(∀ r∈recs,D r.i=true->r.o.dst≠some t)->RC E (a.tmps.getD t undef) c
 df:a.defers=[]
 sz:N<=a.tmps.size
variable {E0 E:Env}{w0 w:World}{a:Act}{N:Nat}{pre suf:List Rc}{H1:Hp}{D:Nat->Bool}
theorem Inv.wf1 (R:Reg P call ops recs L0 H0 Lf Hf)(I:Inv P call ops recs L0 H0 Hf E0 w0 N pre suf H1 D E a w):WfH H1/\H0.nx<=H1.nx/\H1.nx<=Hf.nx:=by
 obtain ⟨L1,Lf',c1,c2⟩:=I.ch;obtain ⟨g1,g2⟩:=c1.wf R.hW R.wf;exact ⟨g1,g2,(c2.wf R.hW g1).2⟩
theorem Inv.sub (R:Reg P call ops recs L0 H0 Lf Hf)(I:Inv P call ops recs L0 H0 Hf E0 w0 N pre suf H1 D E a w){K:Nat->Option Blk}(hK:∀ n B,K n=some B->H1.t.get n=some B\/∃ r∈suf,D r.i=true/\r.k=2/\r.n=n/\r.B=B):HOk E K w:=by
 obtain ⟨L1,Lf',c1,c2⟩:=I.ch;obtain ⟨w1,_,_⟩:=I.wf1 R;refine ok_sub I.ok (X:=fun n B=>∃ r∈suf,D r.i=true/\r.k=2/\r.n=n/\r.B=B) ?_ ?_ ?_ hK
 ·rintro n B B' ⟨r,h1,h2,h3,h4,rfl⟩ ⟨s,g1,g2,g3,g4,rfl⟩;rw [c2.uniq R.hW w1 h1 g1 h3 g3 (by rw [h4,g4])]
 ·rintro n B ⟨r,h1,h2,h3,rfl,rfl⟩;obtain ⟨b,m,f1,f2,f3,_⟩:=I.ex r h1 h2 h3;exact ⟨b,m,f1,f2,f3⟩
 ·rintro n n' B B' b β m b' β' m' hne ⟨r,h1,h2,h3,rfl,rfl⟩ ⟨s,g1,g2,g3,rfl,rfl⟩ e1 e2;exact I.exd r h1 s g1 h2 g2 h3 g3 hne _ _ _ _ _ _ e1 e2
theorem Inv.absorb (R:Reg P call ops recs L0 H0 Lf Hf){r:Rc}(I:Inv P call ops recs L0 H0 Hf E0 w0 N pre (r::suf) H1 D E a w)(hd:D r.i=true):Inv P call ops recs L0 H0 Hf E0 w0 N (pre++[r]) suf r.H' D E a w:=by
 obtain ⟨L1,Lf',c1,c2⟩:=I.ch;obtain ⟨w1,w2,w3⟩:=I.wf1 R;obtain ⟨g1,hH,g3,L',g4,g5⟩:=c2;obtain ⟨f1,f2,f3⟩:=g1.wf R.hW (by rw [hH]; exact w1);have hk3:=I.sk r (by simp) hd;have ch':∃ L1 Lf,Chain P call ops L0 H0 (pre++[r]) L1 r.H'/\Chain P call ops L1 r.H' suf Lf Hf:=by
  refine ⟨L',Lf',?_,g5⟩;have:∀ {pre:List Rc} {L:Lo} {H:Hp},Chain P call ops L H pre L1 H1->Chain P call ops L H (pre++[r]) L' r.H':=by
   intro pre
   induction pre with
   | nil=>intro L H h; obtain ⟨rfl,rfl⟩:=h; exact ⟨g1,hH,g3,L',g4,rfl,rfl⟩
   | cons s pre ih=>intro L H h; obtain ⟨a1,a2,a3,a4,a5,a6⟩:=h; exact ⟨a1,a2,a3,a4,a5,ih a6⟩
  exact this c1
 have pd':∀ s∈pre++[r],D s.i=true:=fun s hs=>by
  rcases xax.1 hs with h | h
  ·exact I.pd s h
  ·rw [xba.1 h]; exact hd
 have sub':∀ s∈suf,s∈r::suf:=fun s hs=>by simp [hs]
 by_cases hk2:r.k=2
 ·obtain ⟨n1,n2,n3⟩:=f3 hk2;obtain ⟨b,m,e1,e2,e3,e4⟩:=I.ex r (by simp) hd hk2;have hrn:=(g1.k2 hk2).2.1;rw [hH] at hrn n1 n3;have hne:∀ n B,H1.t.get n=some B->n≠r.n:=fun n B hg=>by have:=(w1.lt n B hg).1; omega
  have hownr:∀ b',Own E r.H'.t.get b'->Own E H1.t.get b'\/b'=b:=by
   rintro b' ⟨i,B,β,k,h1,h2⟩;by_cases e:i=r.n
   ·subst e; rw [e1] at h2; cases h2; exact .inr rfl
   ·rw [n3 i e] at h1; exact .inl ⟨i,B,β,k,h1,h2⟩
  have hown1:∀ b',Own E H1.t.get b'->Own E r.H'.t.get b':=by
   rintro b' ⟨i,B,β,k,h1,h2⟩;exact ⟨i,B,β,k,by rw [n3 i (hne i B h1)]; exact h1,h2⟩
  refine ⟨by rw [I.eq]; simp,ch',pd',fun s hs=>I.sk s (sub' s hs),⟨I.stp.le,I.stp.size,I.stp.keep,fun b' hb'=>?_,I.stp.os,I.stp.tape,I.stp.output⟩,I.dom,I.sub R fun n B hg=>?_,fun s hs h1 h2=>?_,fun s hs u hu=>I.exd s (sub' s hs) u (sub' u hu),
   fun j h1 h2 h3=>I.fr j (by omega) h2 fun s hs g1 g2=>?_,I.loc1,I.loc2,I.df,I.sz⟩
  ·rcases hownr b' hb' with h | rfl
   ·exact I.stp.own b' h
   ·exact .inr e4
  ·by_cases e:n=r.n
   ·subst e; rw [n2] at hg; cases hg;exact .inr ⟨r,by simp,hd,hk2,rfl,rfl⟩
   ·rw [n3 n e] at hg; exact .inl hg
  ·obtain ⟨b',m',q1,q2,q3,q4⟩:=I.ex s (sub' s hs) h1 h2;refine ⟨b',m',q1,q2,fun ho=>?_,q4⟩
   rcases hownr b' ho with h | rfl
   ·exact q3 h
   ·have hsn:=(g5.names R.hW f1 hs h2).1;exact I.exd r (by simp) s (sub' s hs) hd h1 hk2 h2 (by omega) _ _ _ _ _ _ e1 q1 rfl
  ·rcases xaq.1 hs with rfl | hs
   ·omega
   ·exact h3 s hs g1 g2
 ·have hs:=g1.same hk2 hk3;rw [hs,hH] at ch' ⊢;exact ⟨by rw [I.eq]; simp,ch',pd',fun s hs=>I.sk s (sub' s hs),I.stp,I.dom,I.ok,fun s hs=>I.ex s (sub' s hs),fun s hs u hu=>I.exd s (sub' s hs) u (sub' u hu),
   fun j h1 h2 h3=>I.fr j h1 h2 fun s hs g1 g2=>by
    rcases xaq.1 hs with rfl | hs
    ·exact absurd g2 hk2
    ·exact h3 s hs g1 g2,I.loc1,I.loc2,I.df,I.sz⟩
theorem Inv.absorbAll (R:Reg P call ops recs L0 H0 Lf Hf):∀ {q pre suf:List Rc} {H1:Hp},Inv P call ops recs L0 H0 Hf E0 w0 N pre (q++suf) H1 D E a w->(∀ s∈q,D s.i=true)->∃ H2,Inv P call ops recs L0 H0 Hf E0 w0 N (pre++q) suf H2 D E a w
 | [],pre,suf,H1,I,_=>⟨H1,by simpa using I⟩
 | r::q,pre,suf,H1,I,h=>by
  have:=Inv.absorb R I (h r (by simp));obtain ⟨H2,h2⟩:=Inv.absorbAll R this fun s hs=>h s (by simp [hs]);exact ⟨H2,by simpa using h2⟩
theorem Inv.loc (R:Reg P call ops recs L0 H0 Lf Hf)(I:Inv P call ops recs L0 H0 Hf E0 w0 N pre suf H1 D E a w)(hC:Closed ops D){r:Rc}(hr:r∈recs)(hd:D r.i=false)(hanc:∀ m j,nth (zk9 ops []) r.i=some m->has m j=true->D j=true):Loc E r.Lr.get a:=by
 intro t c hc;obtain ⟨p,q,m,e,hm,h1,h2,_⟩:=R.at_ hr;have hch:=R.ch;rw [e] at hch;obtain ⟨L1,H1',c1,c2⟩:=hch.split;obtain ⟨g1,g2,g3,L',g4,g5⟩:=c2;rw [g3] at hc;obtain ⟨k1,k2⟩:=sub_lf hc;have hop:=(R.ch.mem hr).op;have pair:∀ s∈recs,s.i≠r.i->s.o.dst=some t->(∃ m,nth (zk9 ops []) r.i=some m/\has m s.i=true)\/(∃ m,nth (zk9 ops []) s.i=some m/\has m r.i=true):=fun s hs hne hdst=>by
  have hp:=okAll_get (b:=0) R.okA hop (R.ch.mem hs).op;rw [xbr] at hp;exact (okPair_use hp (fun e=>hne e.symm) hdst).2 k1
 have notAfter:∀ s∈recs,D s.i=true->(∃ m,nth (zk9 ops []) s.i=some m/\has m r.i=true)->False:=fun s hs hds ⟨m',hm',hj⟩=>by
  have:=anc_done R.hb hC s.i (R.ch.mem hs).op hm' hds hj;rw [hd] at this; cases this
 rcases c1.slots k2 with ⟨s,hs,hdst,rfl⟩ | ⟨hno,hL0⟩
 ·have hsr:s∈recs:=by rw [e]; simp [hs]
  have hne:s.i≠r.i:=fun ee=>h1 (by rw [<- ee]; exact xb1.2 ⟨s,hs,rfl⟩)
  rcases pair s hsr hne hdst with ⟨m',hm',hj⟩ | ⟨m',hm',hj⟩
  ·exact I.loc1 s hsr (hanc m' s.i hm' hj) t hdst
  ·exfalso;obtain ⟨p',q',m2,e',hm2,k1',k2',_⟩:=R.at_ hsr;rw [hm'] at hm2; cases hm2;have hrp:=k2' _ hj;obtain ⟨r',hr',hri⟩:=xb1.1 hrp;have:r'=r:=R.uniq (by rw [e']; simp [hr']) hr hri;subst this;obtain ⟨a1,a2,ea⟩:=xcy hs;obtain ⟨b1,b2,eb⟩:=xcy hr';have hl:=R.lin;rw [e,ea,xbx,xbx,xa9,xaj,xbn] at hl;obtain ⟨l1,_,m3,o3,l3,_,l5,_⟩:=znd hl;rw [hm'] at l3; cases l3
   rcases l5 _ hj with h | h
   ·rw [has_zero] at h; cases h
   ·exact h1 (by rw [ea,xbx]; exact xax.2 (.inl h))
 ·refine I.loc2 t c hL0 fun s hs hds hdst=>?_;have hne:s.i≠r.i:=fun ee=>by rw [ee,hd] at hds; cases hds
  rcases pair s hs hne hdst with ⟨m',hm',hj⟩ | hh
  ·rw [hm] at hm'; cases hm';obtain ⟨s',hs',hsi⟩:=xb1.1 (h2 _ hj);have:s'=s:=R.uniq (by rw [e]; simp [hs']) hs hsi;subst this;exact hno s' hs' hdst
  ·exact notAfter s hs hds hh
theorem dst_other (R:Reg P call ops recs L0 H0 Lf Hf){r s:Rc}(hr:r∈recs)(hs:s∈recs)(hne:s.i≠r.i){d:Nat}(hd:s.o.dst=some d):r.o.dst≠some d:=by
 have hp:=okAll_get (b:=0) R.okA (R.ch.mem hr).op (R.ch.mem hs).op;rw [xbr] at hp;exact (okPair_use hp (fun e=>hne e.symm) hd).1
theorem put_other {d:Option Nat}{v:Value}{t:Nat}(h:d≠some t):(a.put d v).tmps.getD t undef=a.tmps.getD t undef:=by
 cases d with
 | none=>rfl
 | some i=>
  have:i≠t:=fun e=>h (by rw [e]);simp only [Act.put];rw [xan,xch this,<- xan]
theorem put_here {i:Nat}{v:Value}(h:i<a.tmps.size):(a.put (some i) v).tmps.getD i undef=v:=by
 simp only [Act.put];rw [xan,xb4 h]; rfl
theorem Inv.locs (R:Reg P call ops recs L0 H0 Lf Hf)(I:Inv P call ops recs L0 H0 Hf E0 w0 N pre suf H1 D E a w){r:Rc}(hr:r∈recs){E':Env}(hE:E.le E'){v:Value}(hv:RC E' v r.x)(hdst:∀ i,r.o.dst=some i->i<a.tmps.size) :
  (∀ s∈recs,(D s.i||decide (s.i=r.i))=true->∀ d,s.o.dst=some d->RC E' ((a.put r.o.dst v).tmps.getD d undef) s.x)/\
  (∀ t c,L0.get t=some c->(∀ s∈recs,(D s.i||decide (s.i=r.i))=true->s.o.dst≠some t)->RC E' ((a.put r.o.dst v).tmps.getD t undef) c):=by
 refine ⟨fun s hs hds d hd=>?_,fun t c hc hno=>?_⟩
 ·by_cases e:s.i=r.i
  ·have:=R.uniq hs hr e;subst this;rw [hd,put_here (hdst d hd)]; exact hv
  ·simp only [e,xe5,xdn] at hds;rw [put_other (dst_other R hr hs e hd)];exact (I.loc1 s hs hds d hd).mono hE
 ·rw [put_other (hno r hr (by simp))];exact (I.loc2 t c hc fun s hs hds=>hno s hs (by simp [hds])).mono hE
theorem Inv.early (R:Reg P call ops recs L0 H0 Lf Hf)(I:Inv P call ops recs L0 H0 Hf E0 w0 N pre suf H1 D E a w){r:Rc}(hr:r∈suf)(hd:D r.i=false)(hk:r.k≠3)(hdst:∀ i,r.o.dst=some i->i<a.tmps.size)
  {E':Env}{v:Value}{w':World}(hE:E.le E')(hold:∀ b,b<w.heap.size->w'.heap[b]?=w.heap[b]?)(hsz:w.heap.size<=w'.heap.size)(hos:w'.os=w.os)(htp:w'.tape=w.tape)(hou:w'.output=w.output)(hv:RC E' v r.x)
  (hdom:∀ j,E' j≠none->E j≠none\/(r.k=2/\j=r.n))(hmk:r.k=2->∃ m,E' r.n=some (w.heap.size,0,m)/\BOk E' w' r.n r.B) :
  Inv P call ops recs L0 H0 Hf E0 w0 N pre suf H1 (fun j=>D j||decide (j=r.i)) E' (a.put r.o.dst v) w':=by
 obtain ⟨L1,Lf',c1,c2⟩:=I.ch;obtain ⟨w1,w2,w3⟩:=I.wf1 R;have hrr:r∈recs:=by rw [I.eq]; simp [hr]
 have hownE:∀ b,Own E' H1.t.get b->Own E H1.t.get b:=by
  rintro b ⟨i,B,β,k,h1,h2⟩;obtain ⟨b',β',k',g1,_⟩:=(I.ok.blk i B h1).env;rw [hE _ _ g1] at h2; cases h2;exact ⟨i,B,_,_,h1,g1⟩
 have hstp:Stp E H1.t.get w E' H1.t.get w':=⟨hE,hsz,fun b hb _=>hold b hb,fun b hb=>.inl (hownE b hb),hos,htp,hou⟩;obtain ⟨l1,l2⟩:=I.locs R hrr hE hv hdst;have ne_of:∀ s∈suf,(D s.i||decide (s.i=r.i))=true->s≠r->D s.i=true:=fun s hs h hne=>by
  have:s.i≠r.i:=fun e=>hne (R.uniq (by rw [I.eq]; simp [hs]) hrr e);simpa [this] using h
 have exs:∀ s∈suf,(D s.i||decide (s.i=r.i))=true->s.k=2->∃ b m,E' s.n=some (b,0,m)/\BOk E' w' s.n s.B/\¬ Own E' H1.t.get b/\w0.heap.size<=b/\(s≠r->b<w.heap.size/\E s.n=some (b,0,m))/\(s=r->b=w.heap.size):=fun s hs h h2=>by
  by_cases e:s=r
  ·subst e;obtain ⟨m,g1,g2⟩:=hmk h2;exact ⟨_,m,g1,g2,fun ho=>Nat.lt_irrefl _ (I.ok.lt (hownE _ ho)),I.stp.size,fun h=>absurd rfl h,fun _=>rfl⟩
  ·obtain ⟨b,m,g1,g2,g3,g4⟩:=I.ex s hs (ne_of s hs h e) h2;have hlt:b<w.heap.size:=by
    obtain ⟨b',β',n',f1,f2⟩:=g2.env;rw [g1] at f1; cases f1; exact f2
   exact ⟨b,m,hE _ _ g1,g2.mono hE fun b' β' k' hk'=>by rw [g1] at hk'; cases hk'; exact hold _ hlt,fun ho=>g3 (hownE _ ho),g4,fun _=>⟨hlt,g1⟩,fun h=>absurd h e⟩
 refine ⟨I.eq,I.ch,fun s hs=>by simp [I.pd s hs],fun s hs h=>?_,I.stp.trans hstp,fun j hj=>?_,I.ok.mono hE (fun _ _ h=>h) fun b hb=>hold b (I.ok.lt hb),fun s hs h h2=>?_,fun s hs u hu h1 h2 h3 h4 hne b β m b' β' m' e1 e2=>?_,fun j h1 h2 h3=>?_,l1,l2,by rw [zfx]; exact I.df,by rw [put_size]; exact I.sz⟩
 ·by_cases e:s=r
  ·subst e; exact hk
  ·exact I.sk s hs (ne_of s hs h e)
 ·rcases hdom j hj with h | ⟨h,rfl⟩
  ·exact I.dom j h
  ·have:=c2.names R.hW w1 hr h;exact .inr ⟨by omega,this.2⟩
 ·obtain ⟨b,m,g1,g2,g3,g4,_⟩:=exs s hs h h2;exact ⟨b,m,g1,g2,g3,g4⟩
 ·obtain ⟨b1,m1,g1,_,_,_,g5,g6⟩:=exs s hs h1 h3;obtain ⟨b2,m2,f1,_,_,_,f5,f6⟩:=exs u hu h2 h4;rw [g1] at e1; cases e1;rw [f1] at e2; cases e2;by_cases es:s=r
  ·by_cases eu:u=r
   ·exact absurd (by rw [es,eu]) hne
   ·have:=(f5 eu).1; have:=g6 es; omega
  ·by_cases eu:u=r
   ·have:=(g5 es).1; have:=f6 eu; omega
   ·exact I.exd s hs u hu (ne_of s hs h1 es) (ne_of u hu h2 eu) h3 h4 hne _ _ _ _ _ _ (g5 es).2 (f5 eu).2
 ·cases hj:E' j with
  | none=>rfl
  | some x=>
   rcases hdom j (by rw [hj]; simp) with h | ⟨h,rfl⟩
   ·exact absurd (I.fr j h1 h2 fun s hs g1 g2=>h3 s hs (by simp [g1]) g2) h
   ·exact absurd rfl (h3 r hr (by simp) h)
end
end Go.Cm
namespace Go.Cm
open Go
section
variable {P:Program}{call:zob}{ops:List Oper}{recs:List Rc}{L0:Lo}{H0:Hp}{Lf:Lo}{Hf:Hp}
variable {E0 E:Env}{w0 w:World}{a:Act}{N:Nat}{pre suf:List Rc}{H1:Hp}{D:Nat->Bool}
theorem Inv.heavy (R:Reg P call ops recs L0 H0 Lf Hf){r:Rc}(I:Inv P call ops recs L0 H0 Hf E0 w0 N pre (r::suf) H1 D E a w)(hd:D r.i=false)(hk:r.k=3)(hdst:∀ i,r.o.dst=some i->i<a.tmps.size)
  {E':Env}{v:Value}{w':World}(h1:Stp E H1.t.get w E' r.H'.t.get w')(h2:Dom E E' H1.nx r.H'.nx)(h3:HOk E' r.H'.t.get w')(hv:RC E' v r.x) :
  Inv P call ops recs L0 H0 Hf E0 w0 N (pre++[r]) suf r.H' (fun j=>D j||decide (j=r.i)) E' (a.put r.o.dst v) w':=by
 obtain ⟨L1,Lf',c1,c2⟩:=I.ch;obtain ⟨w1,w2,w3⟩:=I.wf1 R;obtain ⟨g1,hH,g3,L',g4,g5⟩:=c2;obtain ⟨f1,f2,f3⟩:=g1.wf R.hW (by rw [hH]; exact w1);rw [hH] at f2;have f4:=(g5.wf R.hW f1).2;have hrr:r∈recs:=by rw [I.eq]; simp
 have ch':∃ L1 Lf,Chain P call ops L0 H0 (pre++[r]) L1 r.H'/\Chain P call ops L1 r.H' suf Lf Hf:=by
  refine ⟨L',Lf',?_,g5⟩;have:∀ {pre:List Rc} {L:Lo} {H:Hp},Chain P call ops L H pre L1 H1->Chain P call ops L H (pre++[r]) L' r.H':=by
   intro pre
   induction pre with
   | nil=>intro L H h; obtain ⟨rfl,rfl⟩:=h; exact ⟨g1,hH,g3,L',g4,rfl,rfl⟩
   | cons s pre ih=>intro L H h; obtain ⟨a1,a2,a3,a4,a5,a6⟩:=h; exact ⟨a1,a2,a3,a4,a5,ih a6⟩
  exact this c1
 obtain ⟨l1,l2⟩:=I.locs R hrr h1.le hv hdst;have sub':∀ s∈suf,s∈r::suf:=fun s hs=>by simp [hs]
 have neR:∀ s∈suf,(D s.i||decide (s.i=r.i))=true->s.k≠3\/s=r->s.k=2->D s.i=true:=fun s hs h _ h2=>by
  have:s.i≠r.i:=fun e=>by
   have:=R.uniq (by rw [I.eq]; simp [hs]) hrr e;rw [this] at h2; omega
  simpa [this] using h
 refine ⟨by rw [I.eq]; simp,ch',fun s hs=>?_,fun s hs h=>?_,I.stp.trans h1,?_,h3,fun s hs h hk2=>?_,fun s hs u hu h4 h5 h6 h7 hne b β m b' β' m' e1 e2=>?_,fun j h4 h5 h6=>?_,l1,l2,by rw [zfx]; exact I.df,by rw [put_size]; exact I.sz⟩
 ·rcases xax.1 hs with h | h
  ·simp [I.pd s h]
  ·rw [xba.1 h]; simp
 ·intro hk3;by_cases e:s.i=r.i
  ·
   obtain ⟨p,q,m,e',_,h1',_⟩:=R.at_ (show s∈recs by rw [I.eq]; simp [hs]);have hsr:=R.uniq (by rw [I.eq]; simp [hs]) hrr e;obtain ⟨q1,q2,eq⟩:=xcy hs;have hl:=R.lin;rw [I.eq,eq,xbx,xa9,xbx,xa9,<- xbn,<- xaj] at hl;obtain ⟨k1,_⟩:=znd hl;exact k1 (by rw [hsr]; simp)
  ·simp only [e,xe5,xdn] at h;exact I.sk s (sub' s hs) h hk3
 ·intro j hj
  rcases h2 j hj with h | h
  ·exact I.dom j h
  ·exact .inr ⟨by omega,by omega⟩
 ·have hds:=neR s hs h (.inl (by omega)) hk2;obtain ⟨b,m,q1,q2,q3,q4⟩:=I.ex s (sub' s hs) hds hk2;have hlt:b<w.heap.size:=by
   obtain ⟨b',β',n',f1,f2⟩:=q2.env;rw [q1] at f1; cases f1; exact f2
  refine ⟨b,m,h1.le _ _ q1,q2.mono h1.le fun b' β' k' hk'=>(by rw [q1] at hk'; cases hk'; exact h1.keep b hlt q3),fun ho=>?_,q4⟩
  rcases h1.own b ho with h | h
  ·exact q3 h
  ·omega
 ·have d1:=neR s hs h4 (.inl (by omega)) h6;have d2:=neR u hu h5 (.inl (by omega)) h7;obtain ⟨b1,m1,q1,_⟩:=I.ex s (sub' s hs) d1 h6;obtain ⟨b2,m2,p1,_⟩:=I.ex u (sub' u hu) d2 h7;rw [h1.le _ _ q1] at e1; cases e1;rw [h1.le _ _ p1] at e2; cases e2;exact I.exd s (sub' s hs) u (sub' u hu) d1 d2 h6 h7 hne _ _ _ _ _ _ q1 p1
 ·cases hj:E' j with
  | none=>rfl
  | some x=>
   rcases h2 j (by rw [hj]; simp) with h | h
   ·refine absurd (I.fr j (by omega) h5 fun s hs g1 g2=>?_) h
    rcases xaq.1 hs with rfl | hs
    ·omega
    ·exact h6 s hs (by simp [g1]) g2
   ·omega
theorem getD_set {listed:Array Bool}{i:Nat}(hi:i<listed.size)(j:Nat):(listed.setIfInBounds i true).getD j false=(listed.getD j false||decide (j=i)):=by
 simp only [xan];by_cases hji:j=i
 ·subst hji;rw [xb4 hi]; simp
 ·rw [xch (fun e=>hji e.symm)]; simp [hji]
theorem Inv.step (hN:NoNum P)(hC:CallOk P call)(R:Reg P call ops recs L0 H0 Lf Hf)(hdl:dstLt N ops=true)(I:Inv P call ops recs L0 H0 Hf E0 w0 N pre suf H1 D E a w)(hCl:Closed ops D){i:Nat}{o:Oper}(ho:ops[i]?=some o)(hd:D i=false)
  (hr:∀ e∈o.after.toList,Region.binds .any e=true->D e.on=true){Q:Exit->Act->World->Prop}{K:Act->World->Prop}
  (hK:∀ pre suf H1 E a w,Inv P call ops recs L0 H0 Hf E0 w0 N pre suf H1 (fun j=>D j||decide (j=i)) E a w->K a w):wpOp P ops.toArray Q i K a w:=by
 have hlen:=(xac.1 ho).1;obtain ⟨r,hrr,hri⟩:=xb1.1 (full_get R.ful hlen);subst hri;have hop:=(R.ch.mem hrr).op;rw [ho] at hop; cases hop;have rok:=R.ch.mem hrr;obtain ⟨p,q,m,e,hm,hnp,hanc,hk3⟩:=R.at_ hrr;have hancD:∀ m j,nth (zk9 ops []) r.i=some m->has m j=true->D j=true:=fun m j hm hj=>anc_ready R.hb hCl ho hm hr hj;have hloc:=I.loc R hCl hrr hd hancD;have hdst:∀ d,r.o.dst=some d->d<a.tmps.size:=fun d h=>xbi (dstLt_get hdl (xbk ho) h) I.sz;have hwant:=wants_ok rok.wt hloc;have hsuf:r∈suf:=by
  rw [I.eq] at hrr
  rcases xax.1 hrr with h | h
  ·rw [I.pd r h] at hd; cases hd
  ·exact h
 unfold wpOp;simp only [xa1,ho];rw [hwant];by_cases hk4:r.k=4
 ·rw [hk4];simp only [xej,xez,xby,xcw];refine hK _ _ _ E _ w (I.early R hsuf hd (by omega) hdst E.le_refl (fun _ _=>rfl) (xaf _) rfl rfl rfl ?_ (fun j h=>.inl h) fun h=>by omega);rw [(rok.k4 hk4).1]; exact zib
 ·have hb4:Nat.beq r.k 4=false:=by
   cases h:Nat.beq r.k 4 with
   | false=>rfl
   | true=>exact absurd (xam h) hk4
  rw [hb4];simp only [xeo,xc1];left;have hkk:=rok.kk;have:r.k=0\/r.k=1\/r.k=2\/r.k=3:=by omega
  rcases this with hk | hk | hk | hk
  ·obtain ⟨v,h1,h2⟩:=evalCalc_ok (rok.k0 hk).1 hloc w;unfold Oper.wp;rw [h1];exact hK _ _ _ E _ w (I.early R hsuf hd (by omega) hdst E.le_refl (fun _ _=>rfl) (xaf _) rfl rfl rfl h2 (fun j h=>.inl h) fun h=>by omega)
  ·
   obtain ⟨m',hm',hag⟩:=R.chk r hrr hk;rw [hm] at hm'; cases hm';obtain ⟨L1,Lf',c1,c2⟩:=I.ch;obtain ⟨w1,w2,w3⟩:=I.wf1 R;obtain ⟨b1,b2,b3⟩:=base_ok R.hW (Hb:=H0) (T:=fun _ _=>False) c1 R.wf (xaf _) (fun _ _ h=>h) (fun _ _ h=>h.elim);rw [show again P m recs r recs H0=again P m recs r (pre++suf) H0 by rw [<- I.eq]] at hag;have hag:=again_walk hag fun s hs e=>by
    have h:=I.pd s hs;rw [e,hd] at h; cases h
   have hrd:=again_reads hag fun s hs h3=>by
    cases hh:has m s.i with
    | false=>rfl
    | true=>
     have:=hancD m s.i hm hh;exact absurd h3 (I.sk s hs this)
   unfold readsAs at hrd;split at hrd
   ·rename_i y hy;have hyx:=eqV_eq hrd;subst hyx;have hHK:HOk E (withAl m (walkH pre H0).nx recs (walkH pre H0).t).get w:=I.sub R fun n B hg=>by
     rcases withAl_get hg with hg | ⟨s,hs,hs2,hsm,hsn,rfl,rfl⟩
     ·exact .inl (b1 n B hg)
     ·have hsD:=hancD m s.i hm hsm;rw [I.eq] at hs
      rcases xax.1 hs with hs | hs
      ·exact .inl (b3 s hs hs2 hsn)
      ·exact .inr ⟨s,hs,hsD,hs2,rfl,rfl⟩
    obtain ⟨v,h1,h2⟩:=evalRead_ok (H:=⟨withAl m (walkH pre H0).nx recs (walkH pre H0).t,(walkH pre H0).fm,(walkH pre H0).nx⟩) hy hloc hHK;unfold Oper.wp;rw [h1];exact hK _ _ _ E _ w (I.early R hsuf hd (by omega) hdst E.le_refl (fun _ _=>rfl) (xaf _) rfl rfl rfl h2 (fun j h=>.inl h) fun h=>by omega)
   ·cases hrd
  ·
   obtain ⟨h1,h2,h3⟩:=rok.k2 hk;obtain ⟨L1,Lf',c1,c2⟩:=I.ch;obtain ⟨w1,w2,w3⟩:=I.wf1 R;have hnm:=c2.names R.hW w1 hsuf hk;have hfree:E r.n=none:=I.fr r.n hnm.1 hnm.2 fun s hs g1 g2 e'=>by
    have:=c2.uniq R.hW w1 hs hsuf g2 hk e';subst this;rw [hd] at g1; cases g1
   rw [<- h2] at h1;obtain ⟨v,w',ob,k,g1,g2,g3⟩:=evalMake_ok h1 hloc w hfree;have hle:=Env.le_add (x:=(w.heap.size,0,k)) hfree;obtain ⟨g4,g5⟩:=g3 (E.add r.n (w.heap.size,0,k)) hle (xad rfl);unfold Oper.wp;rw [g1];refine hK _ _ _ (E.add r.n (w.heap.size,0,k)) _ w' (I.early R hsuf hd (by omega) hdst hle (fun b hb=>g2.old hb) (by rw [g2.size]; omega) g2.os g2.tape g2.output g4 (fun j hj=>?_) fun _=>⟨k,xad rfl,g5⟩);unfold Env.add at hj;split at hj
   ·rename_i e; exact .inr ⟨hk,e⟩
   ·exact .inl hj
  ·
   obtain ⟨q1,q2,eq⟩:=xcy hsuf;have hq1:∀ s∈q1,D s.i=true:=fun s hs=>by
    have hsp:s.i∈p.map (·.i):=by
     have e1:p++r::q=(pre++q1)++r::q2:=by rw [<- e,I.eq,eq]; simp
     have hl:=R.lin;rw [e,e1,xbx,xa9] at hl;obtain ⟨k1,_⟩:=znd hl;have f1:(p++r::q).map (·.i)=((pre++q1)++r::q2).map (·.i):=by rw [e1]
     have g1:((p++r::q).map (·.i))[p.length]?=some r.i:=by simp
     have g2:(((pre++q1)++r::q2).map (·.i))[(pre++q1).length]?=some r.i:=by
      rw [xbx,xas (by simp)]; simp
     have hpl:p.length=(pre++q1).length:=by
      rcases xd2 p.length (pre++q1).length with hl | hl | hl
      ·exfalso;rw [f1,xbx,xak (by simpa using hl)] at g1;exact k1 (xbk g1)
      ·exact hl
      ·exfalso;rw [<- f1,xbx,xak (by simpa using hl)] at g2;exact hnp (xbk g2)
     obtain ⟨e3,_⟩:=List.append_inj e1 hpl;rw [e3];exact xb1.2 ⟨s,by simp [hs],rfl⟩
    exact hancD m s.i hm (hk3 (rok.k3 hk).2 _ hsp)
   subst eq;obtain ⟨H2,I2⟩:=Inv.absorbAll R I hq1;obtain ⟨L1,Lf',c1,c2⟩:=I2.ch;obtain ⟨w1,w2,w3⟩:=I2.wf1 R;obtain ⟨_,hH,_,L',_,g5⟩:=c2;obtain ⟨f1,f2,_⟩:=rok.wf R.hW (by rw [hH]; exact w1);have hev:=(rok.k3 hk).1;rw [hH] at hev f2;have hfr:Fresh E H2.nx r.H'.nx:=fun j j1 j2=>I2.fr j j1 (by have:=(g5.wf R.hW f1).2; omega) fun s hs g1 g2 e'=>by
    rcases xaq.1 hs with rfl | hs
    ·omega
    ·have:=(g5.names R.hW f1 hs g2).1; omega
   refine evalHeavy_ok hN hC hev hloc ⟨I2.ok⟩ w1 hfr _ _ ?_;rintro E' v w' ⟨s1,s2,s3,s4⟩;exact hK _ _ _ E' _ w' (I2.heavy R hd hk hdst s1 s2 s3.ok s4)
theorem Inv.done (R:Reg P call ops recs L0 H0 Lf Hf)(I:Inv P call ops recs L0 H0 Hf E0 w0 N pre suf H1 D E a w)(hall:∀ r∈recs,D r.i=true):Stp E0 H0.t.get w0 E Hf.t.get w/\Dom E0 E H0.nx Hf.nx/\Gd E Lf Hf N a w:=by
 have I0:Inv P call ops recs L0 H0 Hf E0 w0 N pre (suf++[]) H1 D E a w:=by simpa using I
 obtain ⟨H2,I2⟩:=Inv.absorbAll R I0 fun s hs=>hall s (by rw [I.eq]; simp [hs]);obtain ⟨L1,Lf',c1,c2⟩:=I2.ch;obtain ⟨rfl,rfl⟩:=c2;refine ⟨I2.stp,I2.dom,fun t c hc=>?_,⟨I2.ok⟩,I2.df,I2.sz⟩
 rcases R.ch.slots hc with ⟨s,hs,hd,rfl⟩ | ⟨hno,hL⟩
 ·exact I2.loc1 s hs (hall s hs) t hd
 ·exact I2.loc2 t c hL fun s hs _=>hno s hs
theorem draw_any (hN:NoNum P)(hC:CallOk P call)(R:Reg P call ops recs L0 H0 Lf Hf)(hdl:dstLt N ops=true){Q:Exit->Act->World->Prop}(hQ:∀ E a w,Stp E0 H0.t.get w0 E Hf.t.get w->Dom E0 E H0.nx Hf.nx->Gd E Lf Hf N a w->Q .normal a w) :
  ∀ (fuel:Nat) (listed:Array Bool) (a:Act) (w:World),listed.size=ops.length->Closed ops (fun j=>listed.getD j false)->(List.range ops.length).countP (fun j=>!listed.getD j false)=fuel->
   (∃ pre suf H1 E,Inv P call ops recs L0 H0 Hf E0 w0 N pre suf H1 (fun j=>listed.getD j false) E a w)->wpAny P .any ops.toArray Q fuel listed a w:=by
 have hready:∀ (listed:Array Bool),listed.size=ops.length->Region.ready .any ops.toArray listed=[]->∀ j,j<ops.length->listed.getD j false=true:=by
  intro listed hsz hrd j
  induction j using Nat.strongRecOn with
  | _ j ih=>
   intro hj;cases hL:listed.getD j false with
   | true=>rfl
   | false=>
    exfalso;have:j∈Region.ready .any ops.toArray listed:=by
     simp only [Region.ready,xc2,xd5,xaz];refine ⟨hj,?_⟩;have h1:listed.getD j true=false:=by
      rw [xan] at hL ⊢;have hlt:j<listed.size:=by omega
      rw [xb5 hlt] at hL ⊢;simpa using hL
     simp only [h1,xeo,xey,xa1,xag hj,xbl,xb8];rw [xc9];intro e he;by_cases hbe:Region.binds .any e=true
     ·have hlt:=zlz R.hb (xag hj) (by simpa using he) hbe;simp [hbe,ih e.on (by omega) (by omega)]
     ·simp [hbe]
    rw [hrd] at this;cases this
 have hend:∀ (listed:Array Bool) (a:Act) (w:World),(∀ j,j<ops.length->listed.getD j false=true)->(∃ pre suf H1 E,Inv P call ops recs L0 H0 Hf E0 w0 N pre suf H1 (fun j=>listed.getD j false) E a w)->Q .normal a w:=by
  rintro listed a w hall ⟨pre,suf,H1,E,I⟩;obtain ⟨h1,h2,h3⟩:=I.done R fun r hr=>hall r.i (xac.1 (R.ch.mem hr).op).1;exact hQ E a w h1 h2 h3
 intro fuel
 induction fuel with
 | zero=>
  intro listed a w hsz hC' hf hI;have hall:∀ j,j<ops.length->listed.getD j false=true:=by
   intro j hj;have:=(List.countP_eq_zero.1 hf) j (by simpa using hj);simpa using this
  have hrd:Region.ready .any ops.toArray listed=[]:=by
   simp only [Region.ready,xe3,xd5,xaz];intro j hj;have h1:=hall j hj;have:listed.getD j true=true:=by
    rw [xan] at h1 ⊢;have hlt:j<listed.size:=by omega
    rw [xb5 hlt] at h1 ⊢;simpa using h1
   simp [this]
  exact ⟨hrd,hend listed a w hall hI⟩
 | succ fuel ih=>
  intro listed a w hsz hC' hf hI;refine ⟨fun hrd=>hend listed a w (hready listed hsz hrd) hI,fun i hmem=>?_⟩;simp only [Region.ready,xc2,xd5,xaz,xaw,xbq] at hmem;obtain ⟨hin,hun,hdep⟩:=hmem;have hLi:listed.getD i false=false:=by
   rw [xan] at hun ⊢;have hlt:i<listed.size:=by omega
   rw [xb5 hlt] at hun ⊢;simpa using hun
  have ho:ops[i]?=some ops[i]:=xag hin;have hd:∀ e∈ops[i].after.toList,Region.binds .any e=true->listed.getD e.on false=true:=by
   intro e he hbe;simp only [xa1,ho,xbl,xb8] at hdep;have:=(xc9.1 hdep) e (by simpa using he);simpa [hbe] using this
  obtain ⟨pre,suf,H1,E,I⟩:=hI;have hset:=fun j=>getD_set (listed:=listed) (i:=i) (by omega) j;refine I.step hN hC R hdl hC' ho hLi hd fun pre' suf' H1' E' a' w' I'=>?_;refine ih _ a' w' (by simpa using hsz) ?_ ?_ ⟨pre',suf',H1',E',?_⟩
  ·intro j o e' hj hLj he hbe;simp only [hset,xa0,xav] at hLj ⊢
   rcases hLj with h | h
   ·exact .inl (hC' j o e' hj h he hbe)
   ·subst h;rw [ho] at hj; cases hj;exact .inl (hd e' he hbe)
  ·have hcnt:(List.range ops.length).countP (fun j=>!listed.getD j false)=(List.range ops.length).countP (fun j=>!(listed.setIfInBounds i true).getD j false)+1:=by
    have:∀ (l:List Nat),l.Nodup->l.countP (fun j=>!listed.getD j false)=l.countP (fun j=>!(listed.setIfInBounds i true).getD j false)+(if i∈l then 1 else 0):=by
     intro l
     induction l with
     | nil=>intro _; simp
     | cons x l ih=>
      intro hn;have hn':=List.nodup_cons.1 hn;have ih:=ih hn'.2;simp only [List.countP_cons,ih,hset];by_cases hx:x=i
      ·subst hx;have:x∉l:=hn'.1;simp [this,hLi]
      ·have:i∈x::l↔i∈l:=by simp [Ne.symm hx]
       simp only [this,hx,xe5,xdn];omega
    rw [this _ List.nodup_range,xad (by simpa using hin)]
   omega
  ·have e1:(fun j=>(listed.setIfInBounds i true).getD j false)=fun j=>listed.getD j false||decide (j=i):=funext hset
   rw [e1]; exact I'
theorem plan_ok {pl:Plan}(h:plan P ops=some pl):zkm ops 0=true/\pl.ms=zk9 ops []/\linear P ops (zk9 ops []) pl.ord 0=true/\full pl.ord ops.length=true/\okAll ops (zk9 ops []) ops 0=true:=by
 unfold plan at h;simp only at h;split at h
 ·rename_i hb;split at h
  ·rename_i hl;split at h
   ·rename_i hf;split at h
    ·rename_i ho;cases h;exact ⟨hb,rfl,hl,hf,ho⟩
    ·cases h
   ·cases h
  ·cases h
 ·cases h
theorem checkR_get {ms:List Nat}{H:Hp}:∀ {l:List Rc} {r:Rc},checkR P ms recs H l=true->r∈l->r.k=1->∃ m,nth ms r.i=some m/\again P m recs r recs H=true
 | [],_,_,h,_=>by cases h
 | s::l,r,h,hr,hk=>by
  simp only [checkR] at h
  rcases xaq.1 hr with rfl | hr
  ·rw [hk] at h;simp only at h;split at h
   ·rename_i m hm;split at h
    ·rename_i ha; exact ⟨m,hm,ha⟩
    ·cases h
   ·cases h
  ·split at h
   ·split at h
    ·split at h
     ·exact checkR_get h hr hk
     ·cases h
    ·cases h
   ·exact checkR_get h hr hk
theorem evalDrawn_reg (hW:zj4 call){L':Lo}{H':Hp}(h:evalDrawn P call ops L0 H0=some (L',H'))(hw:WfH H0):∃ recs,Reg P call ops recs L0 H0 L' H':=by
 unfold evalDrawn at h;split at h
 ·rename_i pl hp;obtain ⟨h1,h2,h3,h4,h5⟩:=plan_ok hp;split at h
  ·rename_i rs Lf Hf hrun;obtain ⟨g1,g2⟩:=runOrd_chain hrun;split at h
   ·rename_i hck;cases h;rw [h2] at hck;rw [<- g2] at h3 h4;exact ⟨rs,hW,h1,g1,h3,h4,h5,fun r hr hk=>checkR_get hck hr hk,hw⟩
   ·cases h
  ·cases h
 ·cases h
theorem evalDrawn_wf (hW:zj4 call){L':Lo}{H':Hp}(h:evalDrawn P call ops L0 H0=some (L',H'))(hw:WfH H0):WfH H'/\H0.nx<=H'.nx:=by
 obtain ⟨recs,R⟩:=evalDrawn_reg hW h hw;exact R.ch.wf hW hw
theorem evalDrawn_ok (hm:P.follows .mixedOrders=true)(hN:NoNum P)(hW:zj4 call)(hC:CallOk P call){L':Lo}{H':Hp}(h:evalDrawn P call ops L0 H0=some (L',H'))(hdl:dstLt N ops=true)(hw:WfH H0)(hg:Gd E0 L0 H0 N a w0)(hf:Fresh E0 H0.nx H'.nx){id:Nat}{Q:Exit->Act->World->Prop}
  (hQ:∀ E' a' w',Stp E0 H0.t.get w0 E' H'.t.get w'->Dom E0 E' H0.nx H'.nx->Gd E' L' H' N a' w'->Q .normal a' w'):(Code.region id ops.toArray true).wp P Q a w0:=by
 obtain ⟨recs,R⟩:=evalDrawn_reg hW h hw;refine wp_region_any hm ?_;have hz:∀ j,(Array.replicate ops.length false).getD j false=false:=by
  intro j;simp only [xan,Array.getElem?_replicate];split <;> rfl
 refine draw_any (E0:=E0) (w0:=w0) hN hC R hdl hQ _ _ a _ (by simp) ?_ ?_ ⟨[],recs,H0,E0,?_⟩
 ·intro j o e _ hL;simp only [xaz] at hL;rw [hz] at hL; cases hL
 ·simp only [xaz,hz];simp
 ·have e1:(fun j=>(Array.replicate ops.toArray.size false).getD j false)=fun _=>false:=funext fun j=>by simp only [xaz]; exact hz j
  rw [e1];refine ⟨rfl,⟨L0,L',⟨rfl,rfl⟩,R.ch⟩,fun r hr=>(by cases hr),fun r hr h=>(by cases h),⟨E0.le_refl,xaf _,fun _ _ _=>rfl,fun _ h=>.inl h,rfl,rfl,rfl⟩,.refl _ _ _,hg.st.ok.mono E0.le_refl (fun _ _ h=>h) fun _ _=>rfl,fun r hr h=>(by cases h),
   fun r hr s hs h=>(by cases h),fun j h1 h2 _=>hf j h1 h2,fun r hr h=>(by cases h),fun t c hc _=>hg.loc t c hc,hg.df,hg.sz⟩
end
end Go.Cm
namespace Go.Cm
open Go
section
variable {P:Program}{call:zob}{R N:Nat}
def exOf:Ex->Exit
 | .normal=>.normal
 | .exit id=>.exit id
 | .ret=>.ret
def Leaves (E:Env)(H:Hp)(w:World)(N:Nat)(e:Ex)(L':Lo)(H':Hp):Exit->Act->World->Prop:=fun x a' w'=>x=exOf e/\∃ E',Stp E H.t.get w E' H'.t.get w'/\Dom E E' H.nx H'.nx/\Gd E' L' H' N a' w'
def FnWf (f:Lo->Hp->Option (Ex×Lo×Hp)):Prop:=∀ L H e L' H',f L H=some (e,L',H')->WfH H->WfH H'/\H.nx<=H'.nx
def FnOk (P:Program)(N:Nat)(c:Code)(f:Lo->Hp->Option (Ex×Lo×Hp)):Prop:=∀ L H e L' H',f L H=some (e,L',H')->WfH H->∀ E a w,Gd E L H N a w->Fresh E H.nx H'.nx->c.wp P (Leaves E H w N e L' H') a w
theorem iter_wf {f:Lo->Hp->Option (Ex×Lo×Hp)}(hf:FnWf f):∀ (n:Nat),FnWf (iter f n)
 | 0,_,_,_,_,_,h,_=>by cases h
 | n+1,L,H,e,L',H',h,hw=>by
  simp only [iter] at h;split at h
  ·rename_i L1 H1 h1;obtain ⟨g1,g2⟩:=hf _ _ _ _ _ h1 hw;obtain ⟨g3,g4⟩:=iter_wf hf n _ _ _ _ _ h g1;exact ⟨g3,by omega⟩
  ·exact hf _ _ _ _ _ h hw
theorem iter_ok {c:Code}{f:Lo->Hp->Option (Ex×Lo×Hp)}(hw':FnWf f)(hf:FnOk P N c f):∀ (n:Nat) {L:Lo} {H:Hp} {e:Ex} {L':Lo} {H':Hp},iter f n L H=some (e,L',H')->WfH H->∀ {E:Env} {a:Act} {w:World},Gd E L H N a w->Fresh E H.nx H'.nx->Code.rounds P c (Leaves E H w N e L' H') n a w
 | 0,_,_,_,_,_,h,_,_,_,_,_,_=>by cases h
 | n+1,L,H,e,L',H',h,hw,E,a,w,hg,hfr=>by
  rw [rounds_succ];simp only [iter] at h;split at h
  ·rename_i L1 H1 h1;obtain ⟨g1,g2⟩:=hw' _ _ _ _ _ h1 hw;obtain ⟨g3,g4⟩:=iter_wf hw' n _ _ _ _ _ h g1;refine wp_mono (hf _ _ _ _ _ h1 hw E a w hg (hfr.sub (xaf _) g4)) ?_;rintro x a1 w1 ⟨rfl,E1,s1,s2,s3⟩;have:=iter_ok hw' hf n h g1 s3 (hfr.next s2 g2);have hmono:∀ (n:Nat) (a:Act) (w':World),Code.rounds P c (Leaves E1 H1 w1 N e L' H') n a w'->Code.rounds P c (Leaves E H w N e L' H') n a w':=by
    intro n
    induction n with
    | zero=>intro _ _ h; exact h
    | succ n ih=>
     intro a' w' h;rw [rounds_succ] at h ⊢;refine wp_mono h fun x a2 w2 hx=>?_;cases x with
     | normal=>exact ih _ _ hx
     | _=>obtain ⟨h1,E2,t1,t2,t3⟩:=hx; exact ⟨h1,E2,s1.trans t1,s2.trans t2 g2 g4,t3⟩
   exact hmono n a1 w1 this
  ·rename_i hne;refine wp_mono (hf _ _ _ _ _ h hw E a w hg hfr) ?_;rintro x a1 w1 ⟨rfl,E1,s1,s2,s3⟩;cases e with
   | normal=>exact absurd h (hne _ _)
   | exit id=>exact ⟨rfl,E1,s1,s2,s3⟩
   | ret=>exact ⟨rfl,E1,s1,s2,s3⟩
theorem zgr (hW:zj4 call):∀ (c:Code),FnWf (evalC P call R c)
 | .skip,L,H,e,L',H',h,hw=>by cases h; exact ⟨hw,xaf _⟩
 | .region _ ops d,L,H,e,L',H',h,hw=>by
  cases d <;> simp only [evalC] at h
  ·split at h
   ·rename_i h1; cases h; exact evalOps_wf hW h1 hw
   ·cases h
  ·split at h
   ·rename_i h1; cases h; exact evalDrawn_wf hW h1 hw
   ·cases h
 | .seq a b,L,H,e,L',H',h,hw=>by
  simp only [evalC] at h;split at h
  ·rename_i L1 H1 h1;obtain ⟨g1,g2⟩:=zgr hW a _ _ _ _ _ h1 hw;obtain ⟨g3,g4⟩:=zgr hW b _ _ _ _ _ h g1;exact ⟨g3,by omega⟩
  ·exact zgr hW a _ _ _ _ _ h hw
 | .cond c x y,L,H,e,L',H',h,hw=>by
  simp only [evalC] at h;split at h
  ·exact zgr hW x _ _ _ _ _ h hw
  ·exact zgr hW y _ _ _ _ _ h hw
  ·cases h
 | .block id c,L,H,e,L',H',h,hw=>by
  simp only [evalC] at h;split at h
  ·rename_i h1;split at h <;> (cases h; exact zgr hW c _ _ _ _ _ h1 hw)
  ·exact zgr hW c _ _ _ _ _ h hw
 | .loop c,L,H,e,L',H',h,hw=>iter_wf (zgr hW c) R _ _ _ _ _ h hw
 | .rangeFunc ..,_,_,_,_,_,h,_=>by cases h
 | .exit id,L,H,e,L',H',h,hw=>by cases h; exact ⟨hw,xaf _⟩
 | .scope _,_,_,_,_,_,h,_=>by cases h
 | .label _,_,_,_,_,_,h,_=>by cases h
 | .goto _,_,_,_,_,_,h,_=>by cases h
 | .ret,L,H,e,L',H',h,hw=>by cases h; exact ⟨hw,xaf _⟩
 | .refuse _,_,_,_,_,_,h,_=>by cases h
theorem zje (hm:P.follows .mixedOrders=true)(hN:NoNum P)(hW:zj4 call)(hC:CallOk P call):∀ (c:Code),codeOk N c=true->FnOk P N c (evalC P call R c)
 | .skip,_,L,H,e,L',H',h,hw,E,a,w,hg,hfr=>by
  cases h;exact wp_skip ⟨rfl,E,.refl _ _ _,.refl _ _ _,hg⟩
 | .region id ops d,hk,L,H,e,L',H',h,hw,E,a,w,hg,hfr=>by
  cases d <;> simp only [evalC] at h
  ·split at h
   ·rename_i h1;cases h;refine wp_region_list ?_;have:=evalOps_ok (Q:=Leaves E H w N .normal L' H') hN hW hC h1 hk hw hg hfr fun E' a' w' s1 s2 s3=>⟨rfl,E',s1,s2,s3⟩;simpa using this
   ·cases h
  ·split at h
   ·rename_i h1;cases h;have:=evalDrawn_ok (id:=id) (Q:=Leaves E H w N .normal L' H') hm hN hW hC h1 hk hw hg hfr fun E' a' w' s1 s2 s3=>⟨rfl,E',s1,s2,s3⟩;simpa using this
   ·cases h
 | .seq x y,hk,L,H,e,L',H',h,hw,E,a,w,hg,hfr=>by
  simp only [codeOk] at hk;split at hk
  ·rename_i hk1;simp only [evalC] at h;split at h
   ·rename_i L1 H1 h1;obtain ⟨g1,g2⟩:=zgr hW x _ _ _ _ _ h1 hw;obtain ⟨g3,g4⟩:=zgr hW y _ _ _ _ _ h g1;refine wp_seq (wp_mono (zje hm hN hW hC x hk1 _ _ _ _ _ h1 hw E a w hg (hfr.sub (xaf _) g4)) ?_);rintro q a1 w1 ⟨rfl,E1,s1,s2,s3⟩;refine wp_mono (zje hm hN hW hC y hk _ _ _ _ _ h g1 E1 a1 w1 s3 (hfr.next s2 g2)) ?_;rintro q a2 w2 ⟨rfl,E2,t1,t2,t3⟩;exact ⟨rfl,E2,s1.trans t1,s2.trans t2 g2 g4,t3⟩
   ·rename_i hne;refine wp_seq (wp_mono (zje hm hN hW hC x hk1 _ _ _ _ _ h hw E a w hg hfr) ?_);rintro q a1 w1 ⟨rfl,E1,s1,s2,s3⟩;cases e with
    | normal=>exact absurd h (hne _ _)
    | exit id=>exact ⟨rfl,E1,s1,s2,s3⟩
    | ret=>exact ⟨rfl,E1,s1,s2,s3⟩
  ·cases hk
 | .cond c x y,hk,L,H,e,L',H',h,hw,E,a,w,hg,hfr=>by
  simp only [codeOk] at hk;split at hk
  ·rename_i hk1;simp only [evalC] at h;split at h
   ·rename_i hc;exact wp_cond_true (zba hg.loc hc).bool_inv (zje hm hN hW hC x hk1 _ _ _ _ _ h hw E a w hg hfr)
   ·rename_i hc;exact wp_cond_false (zba hg.loc hc).bool_inv (zje hm hN hW hC y hk _ _ _ _ _ h hw E a w hg hfr)
   ·cases h
  ·cases hk
 | .block id c,hk,L,H,e,L',H',h,hw,E,a,w,hg,hfr=>by
  simp only [evalC] at h;split at h
  ·rename_i i L1 H1 h1;split at h
   ·rename_i hi;have hi:=xam hi;cases h;refine wp_block (wp_mono (zje hm hN hW hC c hk _ _ _ _ _ h1 hw E a w hg hfr) ?_);rintro q a1 w1 ⟨rfl,E1,s1,s2,s3⟩;simp only [exOf,Exit.inBlock,hi,xc1];exact ⟨rfl,E1,s1,s2,s3⟩
   ·rename_i hi;have hi:=xcp hi;cases h;refine wp_block (wp_mono (zje hm hN hW hC c hk _ _ _ _ _ h1 hw E a w hg hfr) ?_);rintro q a1 w1 ⟨rfl,E1,s1,s2,s3⟩;simp only [exOf,Exit.inBlock,hi,xcw];exact ⟨rfl,E1,s1,s2,s3⟩
  ·rename_i hne;refine wp_block (wp_mono (zje hm hN hW hC c hk _ _ _ _ _ h hw E a w hg hfr) ?_);rintro q a1 w1 ⟨rfl,E1,s1,s2,s3⟩;cases e with
   | normal=>exact ⟨rfl,E1,s1,s2,s3⟩
   | exit i=>exact absurd h (hne _ _ _)
   | ret=>exact ⟨rfl,E1,s1,s2,s3⟩
 | .loop c,hk,L,H,e,L',H',h,hw,E,a,w,hg,hfr=>
  wp_loop_rounds R (iter_ok (zgr hW c) (zje hm hN hW hC c hk) R h hw hg hfr)
 | .rangeFunc ..,_,_,_,_,_,_,h,_,_,_,_,_,_=>by cases h
 | .exit id,_,L,H,e,L',H',h,hw,E,a,w,hg,hfr=>by
  cases h;exact wp_exit ⟨rfl,E,.refl _ _ _,.refl _ _ _,hg⟩
 | .scope _,_,_,_,_,_,_,h,_,_,_,_,_,_=>by cases h
 | .label _,_,_,_,_,_,_,h,_,_,_,_,_,_=>by cases h
 | .goto _,_,_,_,_,_,_,h,_,_,_,_,_,_=>by cases h
 | .ret,_,L,H,e,L',H',h,hw,E,a,w,hg,hfr=>by
  cases h;exact wp_ret ⟨rfl,E,.refl _ _ _,.refl _ _ _,hg⟩
 | .refuse _,_,_,_,_,_,_,h,_,_,_,_,_,_=>by cases h
def resSem (tmps:Array Value):ResultVar->Sem Value
 | .tmp t=>pure (tmps.getD t undef)
 | .cell ad t=>do loadVar t (<- asAddr (tmps.getD ad undef))
variable {L:Lo}{H H':Hp}{E:Env}{a:Act}{w:World}
theorem resOne_run (hL:Loc E L.get a)(hH:HOk E H.t.get w){r:ResultVar}{x:CV}(h:resOne P L H r=some x):∃ v,(resSem a.tmps r).run P w = .ok v w/\RC E v x:=by
 cases r with
 | tmp t=>exact ⟨_,rfl,hL t x h⟩
 | cell ad t=>
  simp only [resOne] at h;split at h
  ·rename_i i off hp;split at h
   ·rename_i f cs hc;obtain ⟨b,β,n,hE,ev⟩:=(hL _ _ hp).ptr_inv;obtain ⟨b',β',n',ty,fr,vs,e1,e2,e3,e4,e5,e6⟩:=hH.blk i _ (zcw hc);rw [hE] at e1; cases e1;obtain ⟨v,h1,h2⟩:=load_run h e2 e6;refine ⟨v,?_,h2⟩;simp only [resSem,ev,xao,asAddr,xat,xae,h1]
   ·cases h
  ·cases h
theorem zm5 (hL:Loc E L.get a)(hH:HOk E H.t.get w):∀ {l:List ResultVar} {xs:List CV},seqL (resOne P L H) l=some xs->∃ vs:List Value,(l.mapM (resSem a.tmps)).run P w = .ok vs w/\RCs E vs xs
 | [],xs,h=>by cases h; exact ⟨[],by simp,.nil⟩
 | r::l,xs,h=>by
  simp only [seqL] at h;split at h
  ·rename_i y hy;split at h
   ·rename_i ys hys;cases h;obtain ⟨v,h1,h2⟩:=resOne_run hL hH hy;obtain ⟨vs,h3,h4⟩:=zm5 hL hH hys;refine ⟨v::vs,?_,All2.cons h2 h4⟩;rw [xfb];simp only [xao,h1,xae,h3,xat]
   ·cases h
  ·cases h
def resV:List CV->CV
 | [x]=>x
 | l=>.tup l
theorem results_run (hL:Loc E L.get a)(hH:HOk E H.t.get w){fn:Func}{xs:List CV}(h:seqL (resOne P L H) fn.results.toList=some xs):∃ v,(results fn a.tmps).run P w = .ok v w/\RC E v (resV xs):=by
 obtain ⟨vs,h1,h2⟩:=zm5 hL hH h;have hm:(fn.results.mapM (resSem a.tmps)).run P w = .ok vs.toArray w:=by
  rw [xdq];simp only [Sem.run_map,h1,xae]
 have hr:(results fn a.tmps).run P w = .ok (if h:vs.toArray.size=1 then vs.toArray[0] else .tuple vs.toArray) w:=by
  have:results fn a.tmps=(do let vs <- fn.results.mapM (resSem a.tmps); pure (if h:vs.size=1 then vs[0] else .tuple vs)):=by
   unfold results;congr 1
  rw [this];simp only [xao,hm,xae,xat]
 refine ⟨_,hr,?_⟩;clear hr hm h1 h
 match xs,h2 with
 | [x],h2=>
  obtain ⟨v,l,rfl,h3,h4⟩:=h2.inv;have:=h4.inv0;subst this;simpa [resV] using h3
 | [],h2=>
  have:=h2.inv0;subst this;exact .tup _ _ h2.1 h2.2
 | x::y::l,h2=>
  have:¬ vs.toArray.size=1:=by
   have:=h2.1;simp at this ⊢; omega
  rw [dif_neg this];exact .tup _ _ h2.1 h2.2
theorem argL_get:∀ {xs:List CV} {i:Nat} {L L':Lo},argL i xs L=some L'->∀ t c,L'.get t=some c->(i<=t/\xs[t - i]?=some c)\/L.get t=some c
 | [],i,L,L',h,t,c,hc=>by cases h; exact .inr hc
 | x::xs,i,L,L',h,t,c,hc=>by
  simp only [argL] at h;generalize hs:L.set i (some x)=T at h;split at h
  ·cases h
  ·rcases argL_get h t c hc with ⟨h1,h2⟩ | h1
   ·refine .inl ⟨by omega,?_⟩;rw [show t - i=(t - (i+1))+1 by omega];simpa using h2
   ·rw [<- hs,Tr.get_set] at h1;split at h1
    ·rename_i e; cases h1; subst e; exact .inl ⟨xaf _,by simp⟩
    ·exact .inr h1
theorem HOk.newAt {h h':Nat->Option Blk}{W:World}(hs:HOk E h w){n m g:Nat}{B:Blk}(hE:E n=none)(hold:∀ b,b<w.heap.size->W.heap[b]?=w.heap[b]?)(hsz:w.heap.size<=W.heap.size)(hg:w.heap.size<=g)(hos:W.os=w.os)(htp:W.tape=w.tape)(hou:W.output=w.output)
  (hB:BOk (E.add n (g,0,m)) W n B)(hn:∀ C,h' n=some C->C=B)(hh:∀ j C,j≠n->h' j=some C->h j=some C):HOk (E.add n (g,0,m)) h' W/\Stp E h w (E.add n (g,0,m)) h' W:=by
 have hle:=Env.le_add (x:=(g,0,m)) hE;have hown:∀ j C,j≠n->h' j=some C->∃ b β k,E j=some (b,β,k)/\(E.add n (g,0,m)) j=some (b,β,k)/\b<w.heap.size:=fun j C hj hc=>by
  obtain ⟨b,β,k,e1,e2⟩:=(hs.blk j C (hh j C hj hc)).env;exact ⟨b,β,k,e1,hle _ _ e1,e2⟩
 have hnew:(E.add n (g,0,m)) n=some (g,0,m):=xad rfl;refine ⟨⟨fun i C hi=>?_,fun i B1 j B2 b β k β' k' hi hj ha e1 e2=>?_⟩,hle,hsz,fun b hb _=>hold b hb,?_,hos,htp,hou⟩
 ·by_cases e:i=n
  ·subst e; rw [hn C hi]; exact hB
  ·exact (hs.blk i C (hh i C e hi)).mono hle fun b β k he=>by
    obtain ⟨b',β',k',f1,f2⟩:=(hs.blk i C (hh i C e hi)).env;rw [he] at f1; cases f1;exact hold _ f2
 ·by_cases ei:i=n
  ·subst ei;rw [hnew] at e1; cases e1;by_cases ej:j=i
   ·subst ej;rw [hn _ hi] at ha;rw [hn _ hj] at ha;unfold Apart at ha;split at ha <;> exact ha rfl
   ·obtain ⟨b,β,k,f1,f2,f3⟩:=hown j B2 ej hj;rw [f2] at e2; cases e2; omega
  ·by_cases ej:j=n
   ·subst ej;rw [hnew] at e2; cases e2;obtain ⟨b,β,k,f1,f2,f3⟩:=hown i B1 ei hi;rw [f2] at e1; cases e1; omega
   ·obtain ⟨b1,β1,k1,f1,f2,_⟩:=hown i B1 ei hi;obtain ⟨b2,β2,k2,g1,g2,_⟩:=hown j B2 ej hj;rw [f2] at e1; cases e1;rw [g2] at e2; cases e2;exact hs.dis i B1 j B2 _ _ _ _ _ (hh i B1 ei hi) (hh j B2 ej hj) ha f1 g1
 ·rintro b ⟨i,C,β,k,hi,he⟩;by_cases e:i=n
  ·subst e; rw [hnew] at he; cases he; exact .inr hg
  ·obtain ⟨b',β',k',f1,f2,f3⟩:=hown i C e hi;rw [f2] at he; cases he;exact .inl ⟨i,C,_,_,hh i C e hi,f1⟩
theorem isSl_inv {v:Value}{x:CV}(h:isSl x=true)(hr:RC E v x):∃ ad n c,v = .slice ad n c:=by
 cases x <;> first | (cases h; done) | skip
 ·exact ⟨_,_,_,hr.nils_inv⟩
 ·obtain ⟨ad,c,e,_⟩:=hr.se_inv; exact ⟨_,_,_,e⟩
 ·obtain ⟨c,b,β,n,_,e,_⟩:=hr.sl_inv; exact ⟨_,_,_,e⟩
theorem isSl_cell {x:CV}(h:isSl x=true):isCell x=true:=by cases x <;> first | rfl | cases h
theorem pairs2_ok:∀ {r l:List CV} {us:List Value},pairs2 r=some l->RCs E us r->r.length=l.length*2/\zat l=true/\∃ zs:List (Int×Option Addr×Nat×Nat),zs.length=l.length/\
  RCs E (zs.map fun z=>Value.slice z.2.1 z.2.2.1 z.2.2.2) l/\∀ j z,zs[j]?=some z->us[j*2]?=some (.int .i64 z.1)/\us[j*2+1]?=some (.slice z.2.1 z.2.2.1 z.2.2.2)
 | [],l,us,h,hr=>by cases h; exact ⟨rfl,rfl,[],rfl,.nil,fun j z h=>by simp at h⟩
 | [x],l,us,h,_=>by
  unfold pairs2 at h;split at h
  ·rename_i h1; cases h1
  ·rename_i h1; cases h1
  ·cases h
 | x::b::r,l,us,h,hr=>by
  unfold pairs2 at h;split at h
  ·rename_i h1; cases h1
  ·rename_i n b' r' h1;simp only [List.cons.injEq] at h1;obtain ⟨rfl,rfl,rfl⟩:=h1;split at h
   ·rename_i hb;split at h
    ·rename_i l' hl;cases h;obtain ⟨u0,us0,rfl,h2,h3⟩:=hr.inv;obtain ⟨u1,us1,rfl,h4,h5⟩:=h3.inv;obtain ⟨g1,g2,zs,g3,g4,g5⟩:=pairs2_ok hl h5;obtain ⟨ad,k,c,rfl⟩:=isSl_inv hb h4;cases h2;refine ⟨by simp [g1]; omega,by simp only [zat,isSl_cell hb]; exact g2,(n,ad,k,c)::zs,by simp [g3],All2.cons h4 g4,fun j z hj=>?_⟩;cases j with
     | zero=>simp at hj; subst hj; exact ⟨by simp,by simp⟩
     | succ j=>
      have:=g5 j z (by simpa using hj);rw [show (j+1)*2=j*2+2 by omega,show j*2+2+1=(j*2+1)+2 by omega];simpa using this
    ·cases h
   ·cases h
  ·cases h
theorem backTo_eq {α:Type}(zs:List α)(d:α):(Go.Dm.backTo (fun j=>zs.getD j d) zs.length zs.length).map (·.2)=zs.reverse:=by
 apply xbz;intro j;simp only [Go.Dm.backTo,xdd,xbf];by_cases hj:j<zs.length
 ·rw [xdu hj,xd8 hj];simp [xci,show zs.length - 1 - j<zs.length by omega]
 ·rw [xcv (by simp; omega),xcv (by simp; omega)]; rfl
theorem put_ok {sp:Sp}{tc:Nat}(hC:CallOk P call)(hput:Go.Dm.PutW P sp.pu sp.me tc){x y z:CV}{l:List CV}{v0 v1:Value}(hS:St E H w)(hw:WfH H)(hx:RC E v0 x)(hy:RC E v1 y)(hb:backOf H x y=some l)(hsx:isSl x=true)(hle:l.length*24<=140737488351232)
  {H1:Hp}(hnb:newB H (.cells H.nx l)=some H1)(hcall:call sp.me [.sl H.nx 0 l.length l.length false 1] H1=some (z,H'))(hle2:H1.nx<=H'.nx)(hfr:Fresh E H.nx H'.nx) :
  Calls P sp.pu #[v0,v1] w fun e w'=>∃ v E',e = .returned v/\Stp E H.t.get w E' H'.t.get w'/\Dom E E' H.nx H'.nx/\St E' H' w'/\RC E' v z:=by
 obtain ⟨a0,n0,c0,rfl⟩:=isSl_inv hsx hx;obtain ⟨a,len,cap,l0,zs,rfl,hl,hzl,hzr,hac,hN⟩:∃ (a:Option Addr) (len cap:Nat) (l0:List CV) (zs:List (Int×Option Addr×Nat×Nat)),v1 = .slice a len cap/\l=l0.reverse++[x]/\zs.length=len/\RCs E (zs.map fun z=>Value.slice z.2.1 z.2.2.1 z.2.2.2) l0/\zat l0=true/\
   Go.Dm.Notes2 w.heap.size w (.slice a len cap) len (fun j=>zs.getD j default):=by
  unfold backOf at hb;split at hb
  ·cases hb;have:=hy.nils_inv;subst this;exact ⟨none,0,0,[],[],rfl,rfl,rfl,.nil,rfl,.inl ⟨none,0,rfl,rfl⟩⟩
  ·rename_i i off len cap ex sz;split at hb
   ·rename_i f cs hcs;split at hb
    ·rename_i r hr;split at hb
     ·rename_i l0 hp;cases hb;obtain ⟨c,b,β,n,hE,rfl,_⟩:=hy.sl_inv;obtain ⟨b',β',n',ty,fr,vs,e1,e2,e3,e4,e5,e6⟩:=hS.ok.blk i _ (zcw hcs);rw [hE] at e1; cases e1;obtain ⟨us,u1,u2,u3,u4,u5⟩:=zm8 e2 e6 hr;obtain ⟨g1,g2,zs,g3,g4,g5⟩:=pairs2_ok hp u2;have hll:l0.length=len:=by
       have:=u2.1; omega
      refine ⟨_,len,c,l0,zs,rfl,rfl,by omega,g4,g2,.inr ⟨b,β+off,c,rfl,zky e2,fun j hj=>?_,fun j hj=>?_⟩⟩
      ·have hz:zs[j]?=some zs[j]:=xag (by omega);have hgd:zs.getD j default=zs[j]:=by rw [xci,hz]; rfl
       rw [u5 _ _ (g5 j _ hz).1];simp only [hgd]
      ·have hz:zs[j]?=some zs[j]:=xag (by omega);have:=u5 _ _ (g5 j _ hz).2;rw [<- xcf] at this;have hgd:zs.getD j default=zs[j]:=by rw [xci,hz]; rfl
       rw [this];simp only [hgd]
     ·cases hb
    ·cases hb
   ·cases hb
  ·cases hb
 subst hzl;have hlen:l.length=zs.length+1:=by rw [hl]; simp; rw [<- hzr.1]; simp
 refine hput a0 n0 c0 a zs.length cap _ w _ (by rw [<- hlen]; exact hle) hN fun W v D hD hK hB hown=>?_;obtain ⟨n1,n2,n3,n4⟩:=ziz hnb hw rfl
 rcases hown.2 with ⟨_,h0⟩ | ⟨g,cap',cur,rfl,hgl,hgb,hcl,hcm,hcs,htk⟩
 ·omega
 have hL:(Go.Dm.backTo (fun j=>zs.getD j default) zs.length zs.length).map (fun x=>Value.slice x.2.2.1 x.2.2.2.1 x.2.2.2.2)=zs.reverse.map fun z=>Value.slice z.2.1 z.2.2.1 z.2.2.2:=by
  rw [<- backTo_eq zs default,xdd]; rfl
 rw [hL,Nat.mul_one] at htk;have hrev:RCs E ((zs.reverse.map fun z=>Value.slice z.2.1 z.2.2.1 z.2.2.2)++[Value.slice a0 n0 c0]) l:=by
  rw [hl,List.map_reverse];refine All2.append ⟨by simp [<- hzr.1],fun j u c h1 h2=>?_⟩ (All2.cons hx .nil);have hj:=(xac.1 h2).1;simp only [List.length_reverse] at hj;rw [xd8 (by rw [hzr.1]; exact hj)] at h1;rw [xd8 hj] at h2;rw [hzr.1] at h1;exact hzr.2 _ _ _ h1 h2
 have hlac:zat l=true:=by
  rw [hl];refine zmj ?_ (by simp only [zat,isSl_cell hsx]);have:∀ (l:List CV),(∀ c∈l,isCell c=true)->zat l=true:=by
   intro l
   induction l with
   | nil=>intro _; rfl
   | cons x l ih=>intro h; simp only [zat,h x (by simp)]; exact ih fun c hc=>h c (by simp [hc])
  refine this _ fun c hc=>?_;obtain ⟨j,hj⟩:=xcc (List.mem_reverse.1 hc);exact zeu hac hj
 have hfree:E H.nx=none:=hfr _ (xaf _) (by omega);have hle':=Env.le_add (x:=(g,0,cur.size)) hfree;obtain ⟨s1,s2⟩:=hS.ok.newAt (W:=W) (h':=H1.t.get) (B:=.cells H.nx l) (m:=cur.size) hfree (fun b hb=>hB.block b hb) hB.size hgl hB.os hB.tape hB.output
  ⟨g,0,cur.size,tc,(0,0),cur,xad rfl,hgb,thaw0 _,rfl,by rw [xbr,hlen,hcs,Nat.mul_one]; exact hcl,fun j c hj=>by
   obtain ⟨u,h1,h2⟩:=hrev.get hj;refine ⟨u,?_,h2.mono hle',zeu hlac hj⟩;rw [<- htk,xau] at h1;split at h1
   ·rw [xbr,<- xd9]; exact h1
   ·cases h1⟩
  (fun C hC=>by rw [n3] at hC; exact (Option.some.inj hC).symm) (fun j C hj hC=>by rw [n4 j hj] at hC; exact hC)
 have d1:Dom E (E.add H.nx (g,0,cur.size)) H.nx H1.nx:=by rw [n2]; exact .add _ _ _
 have hv:RC (E.add H.nx (g,0,cur.size)) (.slice (some ⟨g,0,none⟩) (zs.length+1) cap') (.sl H.nx 0 l.length l.length false 1):=by
  have:=RC.sl (E:=E.add H.nx (g,0,cur.size)) H.nx 0 l.length l.length false 1 cap' _ _ _ (xad rfl) (by omega) (fun h=>by cases h) (by omega) hcm (xaf _);rw [hlen] at this ⊢;simpa using this
 have hgo:=hC _ _ _ _ _ hcall n1 (E.add H.nx (g,0,cur.size)) W [_] ⟨s1⟩ (hfr.next d1 (by omega)) (All2.cons hv .nil);refine hgo.mono ?_;rintro e W' ⟨r,E',rfl,t1,t2,t3,t4⟩;have hDl:D<W.heap.size:=zky hK;have hnD:¬ Own (E.add H.nx (g,0,cur.size)) H1.t.get D:=by
  rintro ⟨i,B,β,k,h1,h2⟩;by_cases e:i=H.nx
  ·subst e;have h3:(E.add H.nx (g,0,cur.size)) H.nx=some (g,0,cur.size):=xad rfl;rw [h3] at h2; cases h2;rw [hgb] at hK; cases hK
  ·rw [n4 i e] at h1;obtain ⟨b',β',k',f1,f2⟩:=(hS.ok.blk i B h1).env;rw [hle' _ _ f1] at h2; cases h2;omega
 refine ⟨r,rfl,by rw [t1.keep D hDl hnD]; exact hK,r,E',rfl,?_,d1.trans t2 (by omega) hle2,⟨?_⟩,t4⟩
 ·have s3:=s2.trans t1;refine ⟨s3.le,by simpa [World.putObj] using s3.size,fun b hb hno=>?_,s3.own,s3.os,s3.tape,s3.output⟩;rw [World.putObj_heap_other (by omega)]; exact s3.keep b hb hno
 ·refine t3.ok.mono E'.le_refl (fun _ _ h=>h) fun b hb=>World.putObj_heap_other fun e=>?_;subst e
  rcases t1.own b hb with h | h
  ·exact hnD h
  ·omega
theorem evalF_wf {sp:Sp}:∀ (d:Nat),zj4 (evalF P sp d)
 | 0,_,_,_,_,_,h,_=>by cases h
 | d+1,f,xs,H,x,H',h,hw=>by
  simp only [evalF] at h;split at h
  ·split at h
   ·split at h
    ·split at h
     ·split at h
      ·rename_i hn;obtain ⟨h1,h2,_⟩:=ziz hn hw rfl;obtain ⟨h3,h4⟩:=evalF_wf d _ _ _ _ _ h h1;exact ⟨h3,by omega⟩
      ·cases h
     ·cases h
    ·cases h
   ·cases h
  ·split at h
   ·split at h
    ·split at h
     ·split at h
      ·split at h
       ·cases h
       ·rename_i hc;split at h
        ·rw [zn9] at h; cases h; exact zgr (evalF_wf d) _ _ _ _ _ _ hc hw
        ·rw [zn9] at h; cases h; exact zgr (evalF_wf d) _ _ _ _ _ _ hc hw
        ·cases h
       ·cases h
      ·cases h
     ·cases h
    ·cases h
   ·cases h
theorem evalF_ok {sp:Sp}{tc:Nat}(hm:P.follows .mixedOrders=true)(hN:NoNum P)(hput:Go.Dm.PutW P sp.pu sp.me tc):∀ (d:Nat),CallOk P (evalF P sp d)
 | 0,_,_,_,_,_,h,_=>by cases h
 | d+1,f,xs,H,x,H',h,hw=>by
  have ih:=evalF_ok hm hN hput d;have ihw:=evalF_wf (P:=P) (sp:=sp) d;intro E w vs hS hfr hr;simp only [evalF] at h;split at h
  ·rename_i hf;have hf:=xam hf;subst hf;split at h
   ·rename_i x0 y0;split at h
    ·rename_i l hb;split at h
     ·rename_i hck;obtain ⟨hk1,hk2⟩:=xa2.1 hck;split at h
      ·rename_i H1 hn;obtain ⟨v0,vs0,rfl,h1,h2⟩:=hr.inv;obtain ⟨v1,vs1,rfl,h3,h4⟩:=h2.inv;have:=h4.inv0;subst this;obtain ⟨g1,_⟩:=ziz hn hw rfl;exact put_ok ih hput hS hw h1 h3 hb hk1 (xap hk2) hn h (ihw _ _ _ _ _ h g1).2 hfr
      ·cases h
     ·cases h
    ·cases h
   ·cases h
  ·split at h
   ·rename_i fn hfn;split at h
    ·rename_i c hbody;split at h
     ·rename_i hcode;split at h
      ·rename_i L hL;have hloc:Loc E L.get ⟨vs.toArray++Array.replicate (fn.ntmps - vs.toArray.size) undef,[]⟩:=fun t c hc=>by
        rcases argL_get hL t c hc with ⟨_,h2⟩ | h2
        ·rw [Nat.sub_zero] at h2;obtain ⟨v,h3,h4⟩:=hr.get h2;have hlt:=(xac.1 h3).1;show RC E ((vs.toArray++_).getD t undef) c;rw [xan,xc5 (by simpa using hlt),xa1,h3];exact h4
        ·rw [Tr.get_lf] at h2; cases h2
       have hg:Gd E L H fn.ntmps ⟨vs.toArray++Array.replicate (fn.ntmps - vs.toArray.size) undef,[]⟩ w:=⟨hloc,hS,rfl,by simp; omega⟩;refine calls_of_wp hfn hbody ?_;have fin:∀ {e:Ex} {L':Lo} {H1:Hp} {y:CV},evalC P (evalF P sp d) sp.R c L H=some (e,L',H1)->(e = .normal\/e = .ret)->H1=H'->(∃ xs,seqL (resOne P L' H1) fn.results.toList=some xs/\resV xs=x)->
         c.wp P (bodyPost P fn fun e w'=>∃ v E',e = .returned v/\Stp E H.t.get w E' H'.t.get w'/\Dom E E' H.nx H'.nx/\St E' H' w'/\RC E' v x) ⟨vs.toArray++Array.replicate (fn.ntmps - vs.toArray.size) undef,[]⟩ w:=by
        rintro e L' H1 y hc he rfl ⟨xs,hxs,hx⟩;refine wp_mono (zje hm hN ihw ih c hcode _ _ _ _ _ hc hw E _ w hg hfr) ?_;rintro q a1 w1 ⟨rfl,E1,s1,s2,s3⟩;obtain ⟨v,g1,g2⟩:=results_run (P:=P) (fn:=fn) s3.loc s3.st.ok hxs;have hvx:RC E1 v x:=by rw [<- hx]; exact g2
        rcases he with rfl | rfl
        ·exact ⟨s3.df,v,g1,v,E1,rfl,s1,s2,s3.st,hvx⟩
        ·exact ⟨s3.df,v,g1,v,E1,rfl,s1,s2,s3.st,hvx⟩
       split at h
       ·cases h
       ·rename_i e L' H1 hne hc;have he:e = .normal\/e = .ret:=by
         cases e with
         | normal=>exact .inl rfl
         | ret=>exact .inr rfl
         | exit i=>exact absurd rfl (hne i)
        split at h
        ·rename_i y hy;rw [zn9] at h; cases h;exact fin (y:=x) hc he rfl ⟨_,hy,rfl⟩
        ·rename_i l hno hy;rw [zn9] at h; cases h;refine fin (y:=.tup l) hc he rfl ⟨_,hy,?_⟩
         match l,hno with
         | [z],hno=>exact absurd rfl (hno z)
         | [],_=>rfl
         | _::_::_,_=>rfl
        ·cases h
       ·cases h
      ·cases h
     ·cases h
    ·cases h
   ·cases h
end
end Go.Cm
namespace Go.Cm
open Go
def numOk (P:Program):Bool:=P.funcs.toList.all fun fn=>!(fn.name == "runtime.NumGoroutine")
theorem noNum_of {P:Program}(h:numOk P=true):NoNum P:=fun f fn hf=>by
 have:=(xcl.1 h) fn (xbk (by simpa using hf));simpa using this
theorem run_closed {P:Program}{sp:Sp}{tc d f:Nat}(hm:P.follows .mixedOrders=true)(hN:numOk P=true)(hput:Go.Dm.PutW P sp.pu sp.me tc)(h:yes (evalF P sp d f [] ⟨.lf,.lf,0⟩)=true)(w:World) :
  Calls P f #[] w fun e w'=>e = .returned (.bool true)/\w.heap.size<=w'.heap.size/\(∀ b,b<w.heap.size->w'.heap[b]?=w.heap[b]?)/\w'.os=w.os/\w'.tape=w.tape/\w'.output=w.output:=by
 unfold yes at h;split at h
 ·rename_i H' he;have hw:WfH ⟨.lf,.lf,0⟩:=⟨fun i B h=>(by rw [Tr.get_lf] at h; cases h),fun i f cs h=>(by rw [Tr.get_lf] at h; cases h)⟩;have hs:St (fun _=>none) ⟨.lf,.lf,0⟩ w:=⟨⟨fun i B h=>(by rw [Tr.get_lf] at h; cases h),fun i B j C b β n β' n' h=>(by rw [Tr.get_lf] at h; cases h)⟩⟩;refine (evalF_ok hm (noNum_of hN) hput d f [] _ _ _ he hw (fun _=>none) w [] hs (fun _ _ _=>rfl) .nil).mono ?_;rintro e w' ⟨v,E',rfl,s1,s2,s3,s4⟩;rw [s4.bool_inv];refine ⟨rfl,s1.size,fun b hb=>s1.keep b hb ?_,s1.os,s1.tape,s1.output⟩;rintro ⟨i,B,β,n,h1,_⟩;rw [Tr.get_lf] at h1; cases h1
 ·cases h
theorem pe_closed {P:Program}{f:FuncId}(hb:Go.Dm.Bodied P f)(h:∀ w:World,Calls P f #[] w fun e w'=>e = .returned (.bool true)/\w.heap.size<=w'.heap.size/\(∀ b,b<w.heap.size->w'.heap[b]?=w.heap[b]?)/\w'.os=w.os/\w'.tape=w.tape/\w'.output=w.output) :
  Go.Dm.Pe P f Go.Dm.S.none [] (.bool true) Go.Dm.S.none:=by
 refine ⟨hb,fun w M E F vs hs hr=>?_⟩;have hv:vs=[]:=xai hr.1;subst hv;refine (h w).mono ?_;rintro e w' ⟨rfl,h1,h2,h3,h4,h5⟩;have hm:∀ b j v,M b j=some v->w'.cell? ⟨b,j,none⟩=some v:=fun b j v h=>by
  have h0:=(hs.mem b j v h).1;rw [xeb (h2 b (xcg _ _ h0))];exact h0
 have hc:Go.Dm.St ⟨w,fun b=>b<w.heap.size,M,Go.Dm.Env.none⟩ 0 M Go.Dm.Env.none Go.Dm.S.none #[] w':={ size:=rfl,fr:=fun i av h=>(by cases h),mem:=fun b j v h=>⟨hm b j v h,fun o h=>(by cases h)⟩,bx:=fun i cs h=>(by cases h),bxn:=fun _ _=>rfl,rw:=fun i r h=>(by cases h),rwn:=fun _ _=>rfl,mp:=fun i es h=>(by cases h),mpn:=fun _ _=>rfl,ar:=fun i r h=>(by cases h),arn:=fun _ _=>rfl,live:=fun b o h=>(by cases h),foreign:=fun b hb=>⟨xbi hb h1,h2 b hb,rfl⟩,m0:=fun _ _ _ h=>h,mf:=fun _ _ _ h _=>h,os:=h3,tape:=h4,output:=h5,grow:=h1,lay:=Go.Dm.lay_re hs.lay (fun _ _=>rfl) (fun b h=>(hs.foreign b h).1) };exact ⟨M,E,_,rfl,⟨fun i b b' h h'=>(by rw [h] at h'; exact (Option.some.inj h').symm),fun i q q' h h'=>(by rw [h] at h'; cases h'; exact ⟨xaf _,fun _=>⟨rfl,rfl,rfl,rfl⟩⟩),fun i r r' h h'=>(by rw [h] at h'; exact (Option.some.inj h').symm),fun i bs bs' h h'=>⟨[],by rw [h] at h'; cases h'; simp⟩⟩,
  hs.borrowed hc,.cell (.pure (.bool true))⟩
end Go.Cm
