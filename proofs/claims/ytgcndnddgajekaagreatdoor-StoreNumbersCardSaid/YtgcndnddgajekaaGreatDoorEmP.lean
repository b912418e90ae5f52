/- The machine over the model's code, part EmP. -/
import Derived.RangeFuncNested
import Derived.RangeFuncBound
import Derived.RangeFuncCalls
import Derived.RangeFuncLeaves
import Derived.Shelf.Abstract
import Derived.WalkKit
import Derived.OwnWalkIn
import Derived.TacticsInMore
import Derived.LoopNIn
import Derived.LoopIn
import Derived.Maps.AppendAt
import Derived.Test.YtgcndnddgajekaaGreatDoorEmA
set_option linter.unusedVariables false
set_option linter.unusedSimpArgs false
set_option linter.unusedSectionVars false
namespace Go.Dm
open Go Go.RowKit
def backTo {α:Type}(f:Nat->α)(n k:Nat):List (Nat×α):=(List.range k).map fun j=>(n - 1 - j,f (n - 1 - j))
theorem backTo_succ {α:Type}(f:Nat->α)(n k:Nat):backTo f n (k+1)=backTo f n k++[(n - 1 - k,f (n - 1 - k))]:=by simp [backTo,List.range_succ]
theorem backTo_length {α:Type}(f:Nat->α)(n k:Nat):(backTo f n k).length=k:=by simp [backTo]
def KpB (n₀ Bs:Nat)(W W':World):Prop:=Below n₀ W W'/\W'.heap[Bs]?=W.heap[Bs]?
theorem KpB.refl (n₀ Bs:Nat)(W:World):KpB n₀ Bs W W:=⟨Below.refl _ _,rfl⟩
theorem KpB.trans {n₀ Bs:Nat}{A B C:World}(h:KpB n₀ Bs A B)(k:KpB n₀ Bs B C):KpB n₀ Bs A C:=⟨h.1.trans k.1,k.2.trans h.2⟩
theorem KpB.cell {n₀ Bs:Nat}{A B:World}(h:KpB n₀ Bs A B){j:Nat}{v:Value}(hc:A.cell? ⟨Bs,j,none⟩=some v):B.cell? ⟨Bs,j,none⟩=some v:=by
 unfold World.cell? at hc ⊢;simp only [h.2];exact hc
def Notes2 (n₀:Nat)(W:World)(sv:Value)(len:Nat)(zs:Nat->Int×Option Addr×Nat×Nat):Prop:=
 (∃ a cap,sv = .slice a 0 cap/\len=0)\/∃ b off cap,sv = .slice (some ⟨b,off,none⟩) len cap/\b<n₀/\(∀ j,j<len->W.cell? ⟨b,off+j*2,none⟩=some (.int .i64 (zs j).1))/\∀ j,j<len->W.cell? ⟨b,off+j*2+1,none⟩=some (.slice (zs j).2.1 (zs j).2.2.1 (zs j).2.2.2)
theorem Notes2.below {n₀:Nat}{A B:World}(h:Below n₀ A B){sv:Value}{len:Nat}{zs:Nat->Int×Option Addr×Nat×Nat}:Notes2 n₀ A sv len zs->Notes2 n₀ B sv len zs
 | .inl e=>.inl e
 | .inr ⟨b,off,cap,e,hb,hc,hd⟩=>.inr ⟨b,off,cap,e,hb,fun j hj=>(h.cell (p:=⟨b,off+j*2,none⟩) hb).trans (hc j hj),fun j hj=>(h.cell (p:=⟨b,off+j*2+1,none⟩) hb).trans (hd j hj)⟩
theorem boxed2 {W:World}{B:Nat}{t:TypeId}{x y:Value}(h:W.heap[B]?=some (.cells #[x,y] t (0,0))):W.cell? ⟨B,0,none⟩=some x/\W.cell? ⟨B,1,none⟩=some y/\W.frozen? ⟨B,0,none⟩=false/\W.frozen? ⟨B,1,none⟩=false:=by
 simp [World.cell?,World.frozen?,h]
def PutW (P:Program)(pu me tc:Nat):Prop:=∀ (a0:Option Addr) (n0 c0:Nat) (a:Option Addr) (len cap:Nat) (zs:Nat->Int×Option Addr×Nat×Nat) (w:World) (R:Ending->World->Prop),(len+1)*24<=140737488351232->
 Notes2 w.heap.size w (.slice a len cap) len zs->
 (∀ (W:World) (v:Value) (D:Nat),w.heap.size<=D->W.heap[D]?=some (.deferred (some []))->Below w.heap.size w W->W.ownsRow w.heap.size tc 1 v (len+1) ((backTo zs len len).map (fun x=>Value.slice x.2.2.1 x.2.2.2.1 x.2.2.2.2)++[.slice a0 n0 c0])->
  Calls P me #[v] W fun e W'=>∃ r,e = .returned r/\W'.heap[D]?=some (.deferred (some []))/\R (.returned r) (W'.putObj D (.deferred none)))->
 Calls P pu #[.slice a0 n0 c0,.slice a len cap] w R
theorem St.turn {W w W':World}{F' F:Nat->Prop}{M' M M1:Mem}{E1:Env}{s1:S}(hst:St ⟨W,F',M',Env.none⟩ 0 M1 E1 s1 #[] W'){D:Nat}{o:Obj}(hD:W'.heap[D]?=some (.deferred (some [])))(hown:E1.own D=none)
  (hF:∀ b,F b->b<w.heap.size)(hw:∀ b,b<w.heap.size->F' b/\W.heap[b]?=w.heap[b]?/\b≠D)(hM:∀ b j v,M b j=some v->M' b j=some v)(hM':∀ b j v,M' b j=some v->b<w.heap.size->M b j=some v)
  (hB:Below w.heap.size w W)(hL:Lay w F):St ⟨w,F,M,Env.none⟩ 0 M1 E1 s1 #[] (W'.putObj D o):=by
 have hne:∀ b,b≠D->(W'.putObj D o).heap[b]?=W'.heap[b]?:=fun b h=>by
  simp only [World.putObj];rw [Array.getElem?_setIfInBounds,xab (fun e=>h e.symm)]
 have hk:∀ b q,E1.own b=some q->E1.own b=some q/\(W'.putObj D o).heap[b]?=W'.heap[b]?:=fun b q h=>⟨h,hne b fun e=>by rw [e,hown] at h; cases h⟩;have hsz:(W'.putObj D o).heap.size=W'.heap.size:=by simp [World.putObj]
 have hg:=hst.grow;refine ⟨hst.size,hst.fr,fun b j v h=>?_,fun i cs h=>?_,hst.bxn,fun i r h=>?_,hst.rwn,fun i es h=>?_,hst.mpn,fun i r h=>?_,hst.arn,fun b q h=>?_,fun b h=>?_,fun b j v h=>hst.m0 b j v (hM b j v h),fun b j v h hb=>?_,?_,?_,?_,?_,hL⟩
 ·obtain ⟨h1,h2⟩:=hst.mem b j v h;have hbD:b≠D:=by
   rintro rfl;unfold World.cell? at h1;simp only [hD] at h1;cases h1
  exact ⟨by rw [xeb (hne b hbD)]; exact h1,h2⟩
 ·obtain ⟨b,h1,h2,t,vs,h3,h4⟩:=hst.bx i cs h;exact ⟨b,h1,h2,t,vs,by rw [(hk b _ h2).2]; exact h3,h4⟩
 ·obtain ⟨q,h1,h2⟩:=hst.rw i r h;exact ⟨q,h1,h2.mono (fun _ _ _ h=>h) (Env.le_refl _) (fun b hb=>hk b _ hb) (fun b j hb=>hk b _ hb)⟩
 ·obtain ⟨r,h1,h2,ents,clock,h3,h4⟩:=hst.mp i es h;exact ⟨r,h1,h2,ents,clock,by rw [(hk r _ h2).2]; exact h3,h4⟩
 ·obtain ⟨bs,h1,h2⟩:=hst.ar i r h;exact ⟨bs,h1,h2.mono (fun _ _ _ h=>h) (Env.le_refl _) (fun b j hb=>hk b _ hb) (fun b j hb=>hk b _ hb)⟩
 ·rw [hsz]; exact hst.live b q h
 ·obtain ⟨h1,h2,h3⟩:=hw b (hF b h);obtain ⟨g1,g2,g3⟩:=hst.foreign b h1;exact ⟨by rw [hsz]; exact g1,by rw [hne b h3,g2,h2],g3⟩
 ·obtain ⟨h1,h2,h3⟩:=hw b (hF b hb);exact hM' b j v (hst.mf b j v h h1) (hF b hb)
 ·exact hst.os.trans hB.os
 ·exact hst.tape.trans hB.tape
 ·exact hst.output.trans hB.output
 ·rw [hsz]; exact xct hB.size hg
theorem flat_cells1:∀ {l:List AV},(∀ x∈l,x.cells=[x])->zc0 l=l
 | [],_=>rfl
 | x::l,h=>by
  show x.cells++zc0 l=_;rw [h x (xbo ..),flat_cells1 fun y hy=>h y (xb3 _ hy)]; rfl
theorem flat_pairs {α:Type}(f g:α->AV):∀ (l:List α) (j:Nat) (x:α),l[j]?=some x->(zc0 (l.map fun x=>AV.agg [f x,g x]))[j*2]?=some (f x)/\(zc0 (l.map fun x=>AV.agg [f x,g x]))[j*2+1]?=some (g x)
 | [],j,x,h=>by cases h
 | y::l,0,x,h=>by
  cases h;exact ⟨rfl,rfl⟩
 | y::l,j+1,x,h=>by
  have:=flat_pairs f g l j x h;have e1:(j+1)*2=j*2+2:=by omega
  rw [e1];exact this
theorem flat_pairs_len {α:Type}(f g:α->AV):∀ (l:List α),(zc0 (l.map fun x=>AV.agg [f x,g x])).length=l.length*2
 | []=>rfl
 | y::l=>by
  have:=flat_pairs_len f g l;show (AV.cells _++zc0 _).length=_;rw [xaa,this,xal];show 2+_=_;omega
theorem Pe_put {P:Program}{pu me tc csz:Nat}(hb:Bodied P pu)(hw:PutW P pu me tc){xs:List AV}{nts:List (Int×List AV)}{r:AV}{s1:S}(hlen:(nts.length+1)*24<=140737488351232)
  (hM:Pe P me ⟨[],[],[],[],[]⟩ [.sl 1 ((nts.reverse.map fun x=>AV.sl csz x.2)++[.sl csz xs])] r s1):Pe P pu ⟨[],[],[],[],[]⟩ [.sl csz xs,.sl 2 (nts.map fun x=>.agg [.int .i64 x.1,.sl csz x.2])] r s1:=by
 refine ⟨hb,fun w M E F vs hs hrel=>?_⟩;obtain ⟨hl,hv⟩:=hrel
 match vs,hl with
 | [v0,v1],_=>
 obtain ⟨p0,a0,c0,rfl,_,_⟩:=Rel.sl_inv (hv 0 v0 _ rfl rfl);obtain ⟨p1,a,cap,rfl,_,_⟩:=Rel.sl_inv (hv 1 v1 _ rfl rfl);rw [xa5] at p1 ⊢;generalize hN0:nts.length=N0 at p1;cases p1 with
 | sl _ _ _ _ _ f hn hc hbd hz ha hf=>
 subst hN0;have hnt:∀ j,∃ z:Int×Option Addr×Nat×Nat,∀ x,nts[j]?=some x->f (j*2) = .int .i64 z.1/\f (j*2+1) = .slice z.2.1 z.2.2.1 z.2.2.2/\RelP M (.slice z.2.1 z.2.2.1 z.2.2.2) (.sl csz x.2):=by
  intro j;cases hx:nts[j]? with
  | none=>exact ⟨default,fun x h=>by cases h⟩
  | some x=>
   obtain ⟨h1,h2⟩:=flat_pairs (fun x:Int×List AV=>AV.int .i64 x.1) (fun x=>AV.sl csz x.2) nts j x hx;have r1:=hf _ _ h1;have r2:=hf _ _ h2;have e1:=Rel.int_inv (E:=Env.none) (.cell (.pure r1));obtain ⟨q2,a',c',e2,_,_⟩:=Rel.sl_inv (E:=Env.none) (.cell (.pure r2));refine ⟨(x.1,a',x.2.length,c'),fun y hy=>?_⟩;cases hy;exact ⟨e1,e2,by rw [<- e2]; exact r2⟩
 obtain ⟨zs,hzs⟩:=Classical.axiomOfChoice hnt;have hN:Notes2 w.heap.size w (.slice a nts.length cap) nts.length zs:=by
  by_cases h0:nts=[]
  ·subst h0; exact .inl ⟨a,cap,rfl,rfl⟩
  ·obtain ⟨blk,off,rfl,hm⟩:=ha (fun e=>h0 (by simpa using e));have hlt:∀ j,j<nts.length->∃ x,nts[j]?=some x:=fun j hj=>⟨nts[j],by simp [hj]⟩;have hcell:∀ k,k<nts.length*2->w.cell? ⟨blk,off+k,none⟩=some (f k):=fun k hk=>(hs.mem _ _ _ (hm k (by rw [flat_pairs_len (fun x:Int×List AV=>AV.int .i64 x.1) (fun x=>AV.sl csz x.2)]; exact hk))).1;refine .inr ⟨blk,off,cap,rfl,?_,fun j hj=>?_,fun j hj=>?_⟩
   ·have:0<nts.length:=by cases nts with | nil=>exact absurd rfl h0 | cons _ _=>simp
    exact xcg _ _ (hcell 0 (by omega))
   ·obtain ⟨x,hx⟩:=hlt j hj;rw [hcell (j*2) (by omega),(hzs j x hx).1]
   ·obtain ⟨x,hx⟩:=hlt j hj;have:=hcell (j*2+1) (by omega);rw [<- xcf] at this;rw [this,(hzs j x hx).2.1]
 refine hw a0 _ c0 a nts.length cap zs w _ hlen hN ?_;intro W v D hD hK hB hown
 rcases hown.2 with ⟨_,h0⟩ | ⟨g,cap',cur,rfl,hgl,hgb,hcl,hcm,hcs,htk⟩
 ·omega
 rw [Nat.mul_one] at htk;obtain ⟨L,hL⟩:∃ L,L=(backTo zs nts.length nts.length).map (fun x=>Value.slice x.2.2.1 x.2.2.2.1 x.2.2.2.2)++[.slice a0 xs.length c0]:=⟨_,rfl⟩;rw [<- hL] at htk;have hLl:L.length=nts.length+1:=by rw [hL]; simp [backTo]
 obtain ⟨M',hM'⟩:∃ M':Mem,M'=fun b j=>if b=g then L[j]? else M b j:=⟨_,rfl⟩;have hMg:∀ b j u,M b j=some u->b<w.heap.size:=fun b j u h=>xcg _ _ (hs.mem _ _ _ h).1;have hMM:∀ b j u,M b j=some u->M' b j=some u:=fun b j u h=>by
  have:=hMg b j u h;rw [hM'];simp only;rw [xab (by omega)]; exact h
 have hSt:St ⟨W,fun b=>b<W.heap.size,M',Env.none⟩ 0 M' Env.none ⟨[],[],[],[],[]⟩ #[] W:=by
  refine { size:=rfl,fr:=(fun i av h=>nomatch h),mem:=fun b j u h=>?_,bx:=(fun i cs h=>nomatch h),bxn:=fun _ _=>rfl,rw:=(fun i cs h=>nomatch h),rwn:=fun _ _=>rfl,mp:=(fun i cs h=>nomatch h),mpn:=fun _ _=>rfl,ar:=(fun i cs h=>nomatch h),arn:=fun _ _=>rfl,live:=(fun b o h=>nomatch h),foreign:=fun b h=>⟨h,rfl,rfl⟩,m0:=fun _ _ _ h=>h,mf:=fun _ _ _ h _=>h,os:=rfl,tape:=rfl,output:=rfl,grow:=xaf _,lay:=lay_re hs.lay (fun b h=>hB.block b (hs.foreign b h).1) (fun b h=>xbi (hs.foreign b h).1 hB.size) };refine ⟨?_,fun o h=>by cases h⟩;rw [hM'] at h;simp only at h;split at h
  ·rename_i e;subst e;rw [<- htk,xau] at h;split at h
   ·unfold World.cell?;simp only [hgb];simpa using h
   ·cases h
  ·exact hB.cell (p:=⟨b,j,none⟩) (hMg b j u h) |>.trans (hs.mem _ _ _ h).1
 have hlist:RelP M' (.slice (some ⟨g,0,none⟩) (nts.length+1) cap') (.sl 1 ((nts.reverse.map fun x=>AV.sl csz x.2)++[.sl csz xs])):=by
  have hfl:zc0 ((nts.reverse.map fun x=>AV.sl csz x.2)++[.sl csz xs])=(nts.reverse.map fun x=>AV.sl csz x.2)++[.sl csz xs]:=flat_cells1 fun x hx=>by
   rcases xax.1 hx with h | h
   ·obtain ⟨y,_,rfl⟩:=xb1.1 h; rfl
   ·rw [xba.1 h]; rfl
  refine .sl _ _ _ 1 _ (fun j=>L.getD j undef) (by simp) (by omega) hcm (fun x hx=>?_) (fun _=>⟨g,0,rfl,fun j hj=>?_⟩) (fun j u hu=>?_)
  ·rcases xax.1 hx with h | h
   ·obtain ⟨y,_,rfl⟩:=xb1.1 h; rfl
   ·rw [xba.1 h]; rfl
  ·rw [hfl] at hj;have hjl:j<L.length:=by rw [hLl]; simpa using hj
   rw [hM'];simp only [xc1];rw [xbr,xci,xag hjl]; rfl
  ·rw [hfl] at hu;by_cases hj:j<nts.length
   ·rw [xak (by simpa using hj),xbf,xd8 hj] at hu;obtain ⟨x,hx,rfl⟩:=xay.1 hu;have hLj:L.getD j undef = .slice (zs (nts.length - 1 - j)).2.1 (zs (nts.length - 1 - j)).2.2.1 (zs (nts.length - 1 - j)).2.2.2:=by
     rw [hL,xci,xak (by simpa [backTo] using hj)];simp [backTo,hj]
    rw [hLj];exact ((hzs _ x hx).2.2).mono hMM
   ·have hje:j=nts.length:=by
     have:=(xac.1 hu).1;simp at this; omega
    subst hje;rw [xas (by simp)] at hu;simp at hu;subst hu;have hLj:L.getD nts.length undef = .slice a0 xs.length c0:=by
     rw [hL,xci,xas (by simp [backTo])];simp [backTo]
    rw [hLj];exact p0.mono hMM
 refine (hM.c W M' Env.none (fun b=>b<W.heap.size) [.slice (some ⟨g,0,none⟩) (nts.length+1) cap'] hSt ⟨rfl,fun j v c hj hc=>?_⟩).mono ?_
 ·match j,hj with
  | 0,hj=>
   simp only [xe1,Option.some.injEq] at hj hc;subst hj; subst hc;exact .cell (.pure hlist)
 ·rintro e W' ⟨M1,E1,u,rfl,hlw,hst,hr⟩;have hDl:D<W.heap.size:=(xcb.1 hK).1;obtain ⟨f1,f2,f3⟩:=hst.foreign D hDl;have hK':W'.heap[D]?=some (.deferred (some [])):=f2.trans hK;have hsw:=hB.size;refine ⟨u,rfl,hK',M1,E1,u,rfl,⟨fun i b b' h=>?_,fun i q q' h=>?_,fun i b b' h=>?_,fun i b b' h=>?_⟩,hst.turn hK' f3 (fun b h=>(hs.foreign b h).1) (fun b h=>⟨by omega,hB.block b h,by omega⟩) hMM (fun b j x h hlt=>?_) hB hs.lay,hr⟩
  ·rw [hs.bxn i rfl] at h; cases h
  ·rw [hs.rwn i rfl] at h; cases h
  ·rw [hs.mpn i rfl] at h; cases h
  ·rw [hs.arn i rfl] at h; cases h
  ·rw [hM'] at h;simp only at h;rw [xab (by omega)] at h;exact h
end Go.Dm
