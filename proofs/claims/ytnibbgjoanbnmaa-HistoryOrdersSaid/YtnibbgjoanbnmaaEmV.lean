/- The machine over the model's code, part EmV. -/
import Derived.Test.YtnibbgjoanbnmaaEmQ
import Derived.Test.YtnibbgjoanbnmaaEmT
import Derived.RangeFuncOwn
import Derived.Shelf.Abstract
import Derived.WalkKit
import Derived.Below
set_option linter.unnecessarySimpa false
set_option linter.constructorNameAsVariable false
set_option linter.unusedSectionVars false
set_option linter.unusedSimpArgs false
set_option linter.unusedVariables false
namespace Go.Dm
open Go Go.RowKit
abbrev encP (b:Nat):Value:=.pointer (some ⟨b,0,none⟩)
structure PEnts (ents:Array MapEntry) (m:Nat) (bl:List Nat):Prop where
 sz:ents.size=m
 ln:bl.length=m
 bn:∀ (j:Nat) (e:MapEntry),ents[j]?=some e→e.born=j
 vl:∀ (j:Nat) (e:MapEntry),ents[j]?=some e→∃ b,bl[j]?=some b∧e.val=encP b
theorem perm_map {α β:Type} (f:α→β) {ss:List β} {l:List β} (h:ss.Perm l):∀ xs:List α,l=xs.map f→∃ ys:List α,ys.Perm xs∧ss=ys.map f:=by
 induction h with
 | nil=>
  intro xs h
  cases xs with
  | nil=>exact ⟨[],.nil,rfl⟩
  | cons _ _=>cases h
 | cons x h ih=>
  intro xs e
  cases xs with
  | nil=>cases e
  | cons y xs=>
   simp only [List.map_cons,List.cons.injEq] at e
   obtain ⟨ys,h1,h2⟩:=ih xs e.2
   exact ⟨y::ys,h1.cons y,by rw [List.map_cons,e.1,h2]⟩
 | swap x y l=>
  intro xs e
  match xs,e with
  | a::b::xs,e=>
   simp only [List.map_cons,List.cons.injEq] at e
   exact ⟨b::a::xs,.swap _ _ _,by rw [List.map_cons,List.map_cons,e.1,e.2.1,e.2.2]⟩
 | trans h1 h2 ih1 ih2=>
  intro xs e
  obtain ⟨ys,a,b⟩:=ih2 xs e
  obtain ⟨zs,c,d⟩:=ih1 ys b
  exact ⟨zs,c.trans a,d⟩
section
variable {g:Gh} {N:Nat} {M:Mem} {E:Env} {s:S} {tmps:Array Value} {w w':World}
theorem St.below (hs:St g N M E s tmps w) (hB:Below w.heap.size w w'):St g N M E s tmps w':=
 hs.swap (fun b o h=>hB.block b (hs.live b o h)) (fun b h=>hB.block b (hs.foreign b h).1) (fun b j v h=>by
  have h1:=(hs.mem b j v h).1
  exact (hB.cell (p:=⟨b,j,none⟩) (World.block_lt_of_cell? _ _ h1)).trans h1) hB.size hB.os hB.tape hB.output
theorem flat_aptrs (A:Nat):∀ ys:List Nat,flat (ys.map fun k=>AV.aptr A k 0)=ys.map fun k=>AV.aptr A k 0
 | []=>rfl
 | x::l=>by rw [List.map_cons,flat_cons,flat_aptrs A l]; rfl
theorem St.rowP (hs:St g N M E s tmps w) (hB:Below w.heap.size w w') {A j:Nat} (hj:aget s.rw j=none) (hjB:j<nB) {r:Arn} {bs:List Nat} (hA:aget s.ar A=some r) (hbs:E.ar A=some bs) {tp:TypeId} {v:Value} {ys:List Nat}
  (hys:∀ k∈ys,k<r.xs.length) (ho:w'.ownsRow w.heap.size tp 1 v ys.length (ys.map fun k=>encP (bs.getD k 0))) :
  ∃ E',E.up E'∧St g N M E' { s with rw:=(j,⟨tp,1,0,0,0,false,1,[A],ys.map fun k=>.aptr A k 0⟩)::s.rw } tmps w'∧Rel M E' v (.row j 0):=by
 have hs1:=hs.below hB
 obtain ⟨bs',hbs',hok⟩:=hs.ar A r hA
 rw [hbs] at hbs'; cases hbs'
 have hmx:maxLen=9223372036854775807:=rfl
 obtain ⟨a,c,hv,hnc,hcm,hblk⟩:∃ a c,v = .slice a ys.length c∧ys.length≤c∧c≤maxLen∧(c=0∨∃ (g2:Nat) (cur:Array Value),a=some ⟨g2,0,none⟩∧w.heap.size≤g2∧w'.heap[g2]?=some (.cells cur tp (0,0))∧cur.size=c*1∧cur.toList.take (ys.length*1)=ys.map fun k=>encP (bs.getD k 0)):=by
  rcases ho.2 with ⟨rfl,h0⟩ | ⟨g2,cap,cur,rfl,hgl,hgb,h1,h2,h3,h4⟩
  ·exact ⟨none,0,by rw [h0],by omega,by omega,.inl rfl⟩
  ·exact ⟨_,cap,rfl,h1,h2,.inr ⟨g2,cur,rfl,hgl,hgb,h3,h4⟩⟩
 have hX:∀ b o,E.own b=some o→w.heap.size≤b→False:=fun b o h1 h2=>by have:=hs.live b o h1; omega
 have hle:E.le { E with rw:=fun i=>if i=j then some ⟨a,ys.length,c,1,0⟩ else E.rw i,own:=fun b=>if c≠0∧a=some ⟨b,0,none⟩∧w.heap.size≤b then some (1,j,0) else if E.own b=some (1,j,0) then none else E.own b }:=by
  refine ⟨fun i b hb=>hb,fun i q hq=>?_,fun i r hr=>hr,fun i l h=>⟨[],by simpa using h⟩⟩
  have hne:i≠j:=by rintro rfl; rw [hs.rwn i hj] at hq; cases hq
  exact ⟨q,by simp only [if_neg hne]; exact hq,Nat.le_refl _,fun _=>⟨rfl,rfl,rfl,rfl⟩⟩
 refine ⟨_,⟨hle,fun E0 hp=>⟨hp.bx,fun i q hi h hv=>hp.rw i q hi (by simp only at h; rwa [if_neg (by omega)] at h) hv,hp.mp,hp.ar⟩⟩,?_,?_⟩
 rotate_left
 ·rw [hv]
  exact .cell (.row j 0 ys.length c a ⟨a,ys.length,c,1,0⟩ (if_pos rfl) (Nat.le_refl _) fun _=>⟨rfl,rfl,rfl⟩)
 have hm:∀ b jj v,E.own b=some (1,j,0)→M b jj=some v→False:=by
  intro b jj v h hv
  have:=(hs.mem b jj v hv).2 _ h
  simp [sealN,hj] at this
 refine hs.grow' (fun b=>E.own b=some (1,j,0)) (fun b _ h=>⟨_,h⟩) ⟨hB.os,hB.tape,hB.output,hB.size,fun b hb _=>hB.block b hb⟩ hle (fun b hb hX=>?_) (fun b o hb=>?_) rfl (fun b jj v hX hv=>(hm b jj v hX hv).elim) (fun b o ho hX=>?_)
  (fun k cs hk=>.inl (hs.bxK (fun b i' h ho=>by rw [ho] at h; cases h) k cs hk)) hs.bxn (fun i r2 hi=>?_) (fun i hi=>?_)
  (fun k es hk=>.inl (hs.mpK (fun b i' h ho=>by rw [ho] at h; cases h) k es hk)) hs.mpn
  (fun k r hk=>.inl ⟨hk,rfl,fun b p ho h=>by rcases ho with ho | ho <;> (rw [ho] at h; cases h)⟩) hs.arn
 ·show (if c≠0∧a=some ⟨b,0,none⟩∧w.heap.size≤b then some ((1:Nat),j,0) else if E.own b=some (1,j,0) then none else E.own b)=E.own b
  rw [if_neg (by omega),if_neg hX]
 ·simp only at hb
  split at hb
  ·rename_i h
   rcases hblk with h0 | ⟨g2,cur,e1,_,e3,_⟩
   ·exact absurd h0 h.1
   ·rw [e1] at h
    have:=h.2.1
    simp only [Option.some.injEq,Addr.mk.injEq,and_true] at this
    rw [← this]
    exact (Array.getElem?_eq_some_iff.1 e3).1
  ·split at hb
   ·cases hb
   ·exact Nat.lt_of_lt_of_le (hs.live b o hb) hB.size
 ·obtain ⟨kd,i,p⟩:=o
  by_cases hij:i=j
  ·subst hij
   by_cases h5:kd=5
   ·subst h5; simp [sealN,hj]
   ·by_cases h1:kd=1
    ·subst h1
     by_cases hp:p=0
     ·subst hp; exact absurd ho hX
     ·simp [sealN,hp]
    ·simp [sealN,h1,h5]
  ·simp only [sealN,aget_cons,if_neg hij]; exact Nat.le_refl _
 ·simp only [aget_cons] at hi
  split at hi
  ·rename_i e; subst e
   cases hi
   refine .inr ⟨_,if_pos rfl,⟨rfl,rfl,by simp,hnc,hcm,fun x hx=>?_,Nat.zero_le _,Nat.zero_le _,(fun h=>by cases h),?_⟩⟩
   ·obtain ⟨k,_,rfl⟩:=List.mem_map.1 hx
    rfl
   ·rcases hblk with h0 | ⟨g2,cur,e1,e2,e3,e4,e5⟩
    ·exact .inl h0
    ·by_cases h0:c=0
     ·exact .inl h0
     ·refine .inr ⟨g2,cur,e1,if_pos ⟨h0,e1,e2⟩,e3,e4,fun p u hu=>?_⟩
      have hfl:flat (ys.map fun k=>AV.aptr A k 0)=ys.map fun k=>AV.aptr A k 0:=by
       exact flat_aptrs A ys
      have hu:(flat (ys.map fun k=>AV.aptr A k 0))[p]?=some u:=hu
      rw [hfl,List.getElem?_map,Option.map_eq_some_iff] at hu
      obtain ⟨k,hk,rfl⟩:=hu
      have hpl:=(List.getElem?_eq_some_iff.1 hk).1
      have hcp:cur[p]?=some (encP (bs.getD k 0)):=by
       have h1:(cur.toList.take (ys.length*1))[p]?=some (encP (bs.getD k 0)):=by rw [e5,List.getElem?_map,hk]; rfl
       rw [List.getElem?_take] at h1
       split at h1
       ·simpa using h1
       ·cases h1
      refine ⟨_,hcp,?_⟩
      have hkl:=hys k (List.mem_of_getElem? hk)
      have hn:=hok.n
      have hbk:bs[k]?=some (bs.getD k 0):=by simp [List.getD,List.getElem?_eq_getElem (show k<bs.length by omega)]
      refine (RelS.aptr A k 0 bs _ ?_ hbk:RelS M (Env.arO _ [A]) _ _)
      show (if memN A [A]=true then E.ar A else none)=some bs
      rw [if_pos (by simp [memN]),hbs]
  ·rename_i hne
   exact .inl ⟨hi,if_neg hne,fun b p ho h=>by rcases ho with ho | ho <;> (rw [ho] at h; first | (cases h; done) | (cases h; exact hne rfl))⟩
 ·simp only [aget_cons] at hi
  split at hi
  ·cases hi
  ·rename_i hne
   show (if i=j then _ else E.rw i)=none
   rw [if_neg hne]; exact hs.rwn i hi
end
def ValsC (P:Program) (tp:TypeId) (fv fc:FuncId):Prop:=
 ∀ (r0 m:Nat) (ents:Array MapEntry) (bl:List Nat),PEnts ents m bl→m*8≤140737488351232→∀ w:World,w.heap[r0]?=some (.map ents m)→
  Calls P fv #[.map (some r0)] w fun e w1=>∃ c,e = .returned c∧Calls P fc #[c] w1 fun e w2=>∃ (v:Value) (ss:List Nat),e = .returned v∧ss.Perm bl∧w2.ownsRow w.heap.size tp 1 v ss.length (ss.map encP)∧Below w.heap.size w w2
section
variable {C:Cx} {k:List It} {s:S}
theorem step_call {P:Program} {ops:Array Oper} {rest:List Oper} {o:Oper} {a:Act} {w:World} {Q:Exit→Act→World→Prop} {c:Call} {f:FuncId} (hg:o.guard=none) (ho:o.op = .call c) (hc:c.callee = .value (.func f)) (hb:Bodied P f)
  (h:Calls P f ((c.args.toList.map a.eval).toArray) w fun e w'=>∃ v,e = .returned v∧wpList P ops Q rest (a.put o.dst v) w'):wpList P ops Q (o::rest) a w:=
 wpList_plain hg fun K hK=>by
  unfold Oper.wp
  rw [run_call ho hc a w,run_callFunc hb,Oper.upon_enter]
  refine h.mono ?_
  rintro e w' ⟨v,rfl,h2⟩
  exact hK _ _ h2
theorem Wk_vals {τ:TyTab} (hτ:TyOk C.P τ) {k0:List It} {i0:Nat} {o1 o2 o3 o4:Oper} {c2 c3:Call} {fv fc:FuncId} {x d1 d2 d3 d4 b mi A j:Nat} {mt tp:TypeId} {ti:TI} {cs:List AV} {es:List (AV×AV)} {kl:List Nat} {r:Arn}
  (hv:ValsC C.P tp fv fc) (hbv:Bodied C.P fv) (hbc:Bodied C.P fc)
  (h1:o1.op = .load mt (.tmp x)) (h1d:o1.dst=some d1) (h1g:o1.guard=none) (h2:o2.op = .call c2) (h2c:c2.callee = .value (.func fv)) (h2a:c2.args.toList=[.tmp d1]) (h2d:o2.dst=some d2) (h2g:o2.guard=none)
  (h3:o3.op = .call c3) (h3c:c3.callee = .value (.func fc)) (h3a:c3.args.toList=[.tmp d2]) (h3d:o3.dst=some d3) (h3g:o3.guard=none) (h4:o4.op = .assign (.tmp d3)) (h4d:o4.dst=some d4) (h4g:o4.guard=none)
  (hx:aget s.fr x=some (.ptr b 0)) (hbx:aget s.bx b=some cs) (hti:τ mt=some ti) (hpt:partOf ti cs 0=some (.mp mi)) (hes:aget s.mp mi=some es) (hks:es.map (·.2)=kl.map fun i=>.aptr A i 0) (hA:aget s.ar A=some r) (hlt:∀ i∈kl,i<r.xs.length)
  (hm:kl.length*8≤140737488351232) (hno:noK s [d1,d2,d3]=true) (hN:d1<C.N∧d2<C.N∧d3<C.N∧d4<C.N) (hj:aget s.rw j=none) (hjB:j<nB)
  (hk0:flt 99 k0 = .code (.region i0 [o1,o2,o3,o4].toArray false)::k)
  (hk:∀ ys:List Nat,ys.Perm kl→Wk C k { s with fr:=(d4,.row j 0)::s.fr,rw:=(j,⟨tp,1,0,0,0,false,1,[A],ys.map fun i=>.aptr A i 0⟩)::s.rw }) :
  Wk C k0 s:=by
 intro a w hH
 refine flt_pt C 99 k0 a w ?_
 rw [hk0]
 refine (?_:(Code.region i0 [o1,o2,o3,o4].toArray false).wp C.P _ a w)
 refine wp_region_lit ?_
 have hd1:Does C o1 s { s with fr:=(d1,.mp mi)::s.fr }:=by
  have hq:=Sound.load (C:=C) (s:=s) hτ h1 (fun d hd=>by rw [h1d] at hd; cases hd; exact hN.1) (an:=[]) (u:=.ptr b 0) (fun a w M E hs=>(hs.fr x _ hx).2)
  have he:evalLoad τ s [] mt (.ptr b 0)=some ⟨[],[],⟨some (.mp mi),[],[],[],[]⟩,[(1,b)],[]⟩:=by
   simp only [evalLoad,hti,hbx,hpt]
  have:=hq _ he trivial trivial
  simpa only [Eff.app,h1d,List.nil_append] using this
 obtain ⟨v1,w1,hrun,hdf,M,E,hs1,hp⟩:=hd1 a w hH
 have g1:=noK_get hno (d:=d1) (by simp)
 have g2:=noK_get hno (d:=d2) (by simp)
 have g3:=noK_get hno (d:=d3) (by simp)
 obtain ⟨q1,q2⟩:=hs1.fr d1 (.mp mi) (by simp [aget_cons])
 obtain ⟨r0,hr0,hval⟩:=q2.mp_inv
 have hs:St C.g C.N M E s (a.put o1.dst v1).tmps w1:={ hs1 with fr:=fun i y hi=>hs1.fr i y (by
  rw [aget_cons,if_neg (by rintro rfl; rw [g1] at hi; cases hi)]; exact hi) }
 refine wpList_plain h1g fun K hK=>?_
 have hgo:∀ a1,a1=a.put o1.dst v1→wpList C.P [o1,o2,o3,o4].toArray (mean C k) [o2,o3,o4] a1 w1:=by
  rintro a1 ha1
  rw [← ha1] at hs hdf
  have hev:a1.eval (.tmp d1) = .map (some r0):=by rw [ha1]; exact hval
  obtain ⟨r0',hr0',hown,ents,clock,hh,⟨hsz,hclk,hborn⟩,hent⟩:=hs.mp mi es hes
  rw [hr0] at hr0'; cases hr0'
  subst hclk
  obtain ⟨bs,hbs,hok⟩:=hs.ar A r hA
  have hlen:es.length=kl.length:=by have:=congrArg List.length hks; simpa using this
  have hP:PEnts ents es.length (kl.map fun i=>bs.getD i 0):=by
   refine ⟨hsz,by simp [hlen],hborn,fun j e he=>?_⟩
   have hjl:j<es.length:=by have:=(Array.getElem?_eq_some_iff.1 he).1; omega
   have hp2:es[j]?=some es[j]:=List.getElem?_eq_getElem hjl
   have hk2:kl[j]?=some (kl[j]'(by omega)):=List.getElem?_eq_getElem (by omega)
   have e2:es[j].2 = .aptr A (kl[j]'(by omega)) 0:=by
    have h5:=congrArg (fun l=>l[j]?) hks
    simp only [List.getElem?_map,hp2,hk2,Option.map_some,Option.some.injEq] at h5
    exact h5
   have h6:=(hent j e _ he hp2).2
   rw [e2] at h6
   obtain ⟨bs',blk,f1,f2,f3⟩:=(Rel.monoE (Env.arO_sub E _) h6).aptr_inv
   rw [hbs] at f1; cases f1
   refine ⟨blk,?_,f3⟩
   rw [List.getElem?_map,hk2,Option.map_some]
   simp [List.getD,f2]
  have hcall:=hv r0 es.length ents _ hP (by omega) w1 hh
  refine step_call h2g h2 h2c hbv ?_
  have ea:(c2.args.toList.map a1.eval).toArray=#[.map (some r0)]:=by rw [h2a,List.map_cons,List.map_nil,hev]
  rw [ea]
  refine hcall.mono ?_
  rintro e w2 ⟨c,rfl,hcall2⟩
  refine ⟨c,rfl,?_⟩
  refine step_call h3g h3 h3c hbc ?_
  have eb:(c3.args.toList.map (a1.put o2.dst c).eval).toArray=#[c]:=by rw [h3a,h2d,List.map_cons,List.map_nil,put_get (by rw [hs.size]; exact hN.2.1)]
  rw [eb]
  refine hcall2.mono ?_
  rintro e w3 ⟨v,ss,rfl,hperm,hrow,hbel⟩
  refine ⟨v,rfl,?_⟩
  obtain ⟨ys,hys,rfl⟩:=perm_map (fun i=>bs.getD i 0) hperm kl rfl
  rw [List.length_map,List.map_map] at hrow
  obtain ⟨E',hup,hst,hrel⟩:=hs.rowP hbel hj hjB hA hbs (v:=v) (ys:=ys) (fun i hi=>hlt i (hys.mem_iff.1 hi)) hrow
  have hsq:=(hst.putN (d:=d2) g2 c).putN (d:=d3) g3 v
  refine step_value h4g (?_:(execOp _ o4).run C.P w3 = .ok (.value v) w3) ?_
  ·rw [run_move (.inr h4) _ _,h3d,put_get (by simpa [Act.put,h2d] using (by rw [hs.size]; exact hN.2.2.1))]
  ·refine wpList_nil (hk ys hys _ _ ⟨by simp only [defers_put]; exact hdf,M,E',?_,hup.p _ hp⟩)
   rw [h2d,h3d,h4d]
   exact hsq.putS hN.2.2.2 hrel
 rcases hrun with hrun | ⟨hrun,rfl⟩
 ·unfold Oper.wp
  rw [hrun,Oper.upon_value]
  exact hK _ _ (hgo _ rfl)
 ·unfold Oper.wp
  rw [hrun,Oper.upon_skip]
  exact hK _ _ (hgo _ rfl)
end
theorem lwK {E E':Env} (h:E.up E') (kb kr km ka:Nat→Bool):E.lw (E'.keep kb kr km ka):=by
 have hk:=Env.keep_le E' kb kr km ka
 refine ⟨fun i b b' h1 h2=>?_,fun i q q' h1 h2=>?_,fun i r r' h1 h2=>?_,fun i bs bs' h1 h2=>?_⟩
 ·have a:=h.le.bx i b h1
  have c:=hk.bx i b' h2
  rw [a] at c; cases c; rfl
 ·obtain ⟨q1,a1,a2,a3⟩:=h.le.rw i q h1
  have c:E'.rw i=some q':=by
   simp only [Env.keep] at h2
   split at h2
   ·exact h2
   ·cases h2
  rw [a1] at c; cases c
  exact ⟨a2,a3⟩
 ·have a:=h.le.mp i r h1
  have c:=hk.mp i r' h2
  rw [a] at c; cases c; rfl
 ·obtain ⟨l,a⟩:=h.le.ar i bs h1
  have c:E'.ar i=some bs':=by
   simp only [Env.keep] at h2
   split at h2
   ·exact h2
   ·cases h2
  rw [a] at c; cases c
  exact ⟨l,rfl⟩
def SortC (P:Program) (tp:TypeId) (f g:FuncId):Prop:=
 (∀ (p:Option Addr) (cap:Nat) (fv:Value) (w:World),Calls P f #[.slice p 0 cap,fv] w fun e w'=>e = .returned (.tuple #[])∧w'=w)∧
 ∀ (blk cap:Nat) (bs:Nat→Nat) (val:Nat→Int) (d:List Nat) (cur:Array Value) (w:World),w.heap[blk]?=some (.cells cur tp (0,0))→d.length≤cur.size→cur.toList.take d.length=d.map (fun i=>encP (bs i))→
  (∀ i,w.cell? ⟨bs i,0,none⟩=some (.int .i64 (val i)))→(∀ i,bs i≠blk)→d.length<4611686018427387904→
  Calls P f #[.slice (some ⟨blk,0,none⟩) d.length cap,.func (.func g) #[] #[]] w fun e w'=>e = .returned (.tuple #[])∧∃ (d':List Nat) (cur':Array Value),d'.Perm d∧d'.Pairwise (fun x y=>val x≤val y)∧
   w'.heap[blk]?=some (.cells cur' tp (0,0))∧cur'.size=cur.size∧cur'.toList.take d.length=d'.map (fun i=>encP (bs i))∧Grow w w' (fun b=>b=blk)
theorem sorted_eq (val:Nat→Int):∀ {xs ys:List Nat},xs.Perm ys→xs.Pairwise (fun x y=>val x≤val y)→ys.Pairwise (fun x y=>val x<val y)→xs=ys
 | [],ys,h,_,_=>(List.nil_perm.1 h).symm
 | x::xs,[],h,_,_=>absurd h.length_eq (by simp)
 | x::xs,y::ys,h,h1,h2=>by
  have hy:=List.pairwise_cons.1 h2
  have hx:=List.pairwise_cons.1 h1
  have e:x=y:=by
   rcases List.mem_cons.1 (h.mem_iff.1 (List.mem_cons_self ..):x∈y::ys) with e | e
   ·exact e
   ·have a1:=hy.1 x e
    rcases List.mem_cons.1 (h.mem_iff.2 (List.mem_cons_self ..):y∈x::xs) with e2 | e2
    ·exact e2.symm
    ·have a2:=hx.1 y e2
     omega
  subst e
  rw [sorted_eq val ((List.perm_cons x).1 h) hx.2 hy.2]
theorem ownK_aptr {A:Nat} {ys:List Nat} (p:Nat):ownK (flat (ys.map fun i=>AV.aptr A i 0))[p]?=0:=by
 rw [flat_aptrs,List.getElem?_map]
 cases ys[p]? <;> rfl
theorem Pe_sortP {P:Program} {f g:FuncId} {tp:TypeId} (hb:Bodied P f) (hS:SortC P tp f g) {A i:Nat} {r:Arn} {ys zs:List Nat} {cm:Nat} {nl:Bool} {val:Nat→Int}
  (hval:∀ k∈ys,∃ u,r.xs[k]?=some u∧u.isHole=false∧u.cells[0]?=some (.int .i64 (val k))) (hz:zs.Perm ys) (hs':zs.Pairwise (fun x y=>val x<val y)) (hn:ys.length<4611686018427387904)
  (hcl:closedB ⟨[],[],[(i,⟨tp,1,0,0,cm,nl,1,[A],zs.map fun k=>.aptr A k 0⟩)],[],[(A,r)]⟩=true) :
  Pe P f ⟨[],[],[(i,⟨tp,1,0,0,cm,nl,1,[A],ys.map fun k=>.aptr A k 0⟩)],[],[(A,r)]⟩ [.row i 0,.fn g []] (.tup []) ⟨[],[],[(i,⟨tp,1,0,0,cm,nl,1,[A],zs.map fun k=>.aptr A k 0⟩)],[],[(A,r)]⟩:=by
 refine ⟨hb,fun w M E F vs hs hrel=>?_⟩
 obtain ⟨hl,hv⟩:=hrel
 match vs,hl with
 | [v0,v1],_=>
 obtain ⟨n,c,a,q,rfl,hq,hve,hh⟩:=Rel.row_inv (hv 0 v0 _ rfl rfl)
 obtain ⟨cl,rfl,hcl,_⟩:=Rel.fn_inv (hv 1 v1 _ rfl rfl)
 cases List.eq_nil_of_length_eq_zero hcl
 have hr:aget (⟨[],[],[(i,⟨tp,1,0,0,cm,nl,1,[A],ys.map fun k=>.aptr A k 0⟩)],[],[(A,r)]⟩:S).rw i=some ⟨tp,1,0,0,cm,nl,1,[A],ys.map fun k=>.aptr A k 0⟩:=by simp [aget_cons]
 have hA:aget (⟨[],[],[(i,⟨tp,1,0,0,cm,nl,1,[A],ys.map fun k=>.aptr A k 0⟩)],[],[(A,r)]⟩:S).ar A=some r:=by simp [aget_cons]
 obtain ⟨q',hq',hok⟩:=hs.rw i _ hr
 rw [hq] at hq'; cases hq'
 obtain ⟨bs,hbs,hoa⟩:=hs.ar A r hA
 have hqv:q.ver=0:=hok.ver
 obtain ⟨rfl,rfl,rfl⟩:=hh (by omega)
 have hqn:q.n=ys.length:=by have:=hok.n; simpa using this
 have hlw0:E.lw E:=⟨fun _ _ _ h1 h2=>by rw [h1] at h2; cases h2; rfl,fun _ _ _ h1 h2=>by rw [h1] at h2; cases h2; exact ⟨Nat.le_refl _,fun _=>⟨rfl,rfl,rfl,rfl⟩⟩,fun _ _ _ h1 h2=>by rw [h1] at h2; cases h2; rfl,fun _ _ _ h1 h2=>by rw [h1] at h2; cases h2; exact ⟨[],by simp⟩⟩
 have htup:∀ (M:Mem) (E:Env),Rel M E (.tuple #[]) (.tup []):=fun M E=>.tup [] [] rfl fun j v c h=>by simp at h
 by_cases h0:ys=[]
 ·subst h0
  cases List.perm_nil.1 hz
  rw [hqn]
  refine (hS.1 _ _ _ w).mono ?_
  rintro e w' ⟨rfl,rfl⟩
  exact ⟨M,E,_,rfl,hlw0,hs,htup _ _⟩
 ·rcases hok.blk with hc0 | ⟨blk,cur,hqa,hown,hheap,hcur,hcs⟩
  ·have:=hok.nc
   have:ys.length=0:=by omega
   exact absurd (List.eq_nil_of_length_eq_zero this) h0
  have hsz:q.sz=1:=hok.sz
  rw [hsz,Nat.mul_one] at hcur
  have hnc:=hok.nc
  obtain ⟨y0,hy0⟩:=List.exists_mem_of_ne_nil ys h0
  have hel:∀ k∈ys,∃ blk',bs[k]?=some blk'∧w.cell? ⟨blk',0,none⟩=some (.int .i64 (val k))∧E.own blk'=some (3,A,k):=fun k hk=>by
   obtain ⟨u,hu,hhole,hc0⟩:=hval k hk
   obtain ⟨b,vs,g1,g2,⟨ty',g3⟩,g4,g5⟩:=hoa.el k u hu hhole
   obtain ⟨v,hv0,hrc⟩:=g5 0 _ hc0
   refine ⟨b,g1,?_,g2⟩
   unfold World.cell?
   simp only [g3]
   have hvv:v = .int .i64 (val k):=by
    have h5:RelC M (E.arO r.ns) w 6 A (k*r.sz+0) v (.int .i64 (val k)):=hrc
    cases h5 with
    | rel h5=>exact Rel.int_inv (.cell h5)
   rw [hvv] at hv0
   exact hv0
  obtain ⟨bf,hbf⟩:∃ bf:Nat→Nat,bf=fun k=>if k∈ys then bs.getD k 0 else bs.getD y0 0:=⟨_,rfl⟩
  obtain ⟨vf,hvf⟩:∃ vf:Nat→Int,vf=fun k=>if k∈ys then val k else val y0:=⟨_,rfl⟩
  have hg:∀ k blk',bs[k]?=some blk'→bs.getD k 0=blk':=fun k blk' h=>by simp [List.getD,h]
  have hbf1:∀ k∈ys,bs[k]?=some (bf k):=fun k hk=>by
   obtain ⟨blk',h1,_⟩:=hel k hk
   rw [hbf]; simp only [if_pos hk]; rw [hg k _ h1]; exact h1
  have hcell:∀ k,w.cell? ⟨bf k,0,none⟩=some (.int .i64 (vf k)):=fun k=>by
   rw [hbf,hvf]
   by_cases hk:k∈ys
   ·obtain ⟨blk',h1,h2,_⟩:=hel k hk
    simp only [if_pos hk]; rw [hg k _ h1]; exact h2
   ·obtain ⟨blk',h1,h2,_⟩:=hel y0 hy0
    simp only [if_neg hk]; rw [hg y0 _ h1]; exact h2
  have hne:∀ k,bf k≠blk:=fun k e=>by
   have:∃ k',E.own (bf k)=some (3,A,k'):=by
    rw [hbf]
    by_cases hk:k∈ys
    ·obtain ⟨blk',h1,_,h3⟩:=hel k hk
     simp only [if_pos hk]; rw [hg k _ h1]; exact ⟨_,h3⟩
    ·obtain ⟨blk',h1,_,h3⟩:=hel y0 hy0
     simp only [if_neg hk]; rw [hg y0 _ h1]; exact ⟨_,h3⟩
   obtain ⟨k',h5⟩:=this
   rw [e,hown] at h5; cases h5
  have htk:cur.toList.take ys.length=ys.map fun k=>encP (bf k):=by
   apply List.ext_getElem?
   intro p
   rw [List.getElem?_take,List.getElem?_map]
   split
   ·rename_i hp
    have hyp:ys[p]?=some ys[p]:=List.getElem?_eq_getElem hp
    obtain ⟨v,hv2,hrc⟩:=hcs p (.aptr A ys[p] 0) (by rw [flat_aptrs,List.getElem?_map,hyp]; rfl)
    have hrc:RelS M (E.arO [A]) v (.aptr A ys[p] 0):=hrc
    obtain ⟨bs',b',f1,f2,f3⟩:=Rel.aptr_inv (.cell hrc)
    have f1:(if memN A [A]=true then E.ar A else none)=some bs':=f1
    rw [if_pos (by simp [memN]),hbs] at f1; cases f1
    rw [hbf1 _ (List.getElem_mem hp)] at f2; cases f2
    rw [hyp,Option.map_some,Array.getElem?_toList,hv2,f3]
   ·rename_i hp
    rw [List.getElem?_eq_none (by omega)]; rfl
  rw [hqa,hqn]
  refine (hS.2 blk q.c bf vf ys cur w hheap (by omega) htk hcell hne hn).mono ?_
  rintro e w' ⟨rfl,d',cur',hp',hso,hW,hcz,htk',hgrow⟩
  have hmem:∀ k∈d',k∈ys:=fun k hk=>hp'.mem_iff.1 hk
  have hd':d'=zs:=by
   refine sorted_eq val (hp'.trans hz.symm) ?_ hs'
   refine hso.imp_of_mem fun {x y} hx hy h=>?_
   rw [hvf] at h
   simpa only [if_pos (hmem x hx),if_pos (hmem y hy)] using h
  subst hd'
  have hlen:d'.length=ys.length:=hp'.length_eq
  obtain ⟨E',hup,hE',hst⟩:=hs.rowPut (w':=w') hr hq (r':=⟨tp,1,0,0,cm,nl,1,[A],d'.map fun k=>.aptr A k 0⟩) (n':=q.n) (.inl ⟨rfl,rfl⟩) (hgrow.mono fun b e=>by rw [e]; exact hown) rfl (by rw [hqn]; simp [hlen]) hnc
   (fun x hx=>by obtain ⟨k,_,rfl⟩:=List.mem_map.1 hx; rfl) (Nat.zero_le _) hok.cm (fun h=>by
    have:=hok.nl h
    rw [this]
    have hd0:d'≠[]:=by intro e; rw [e] at hlen; exact h0 (List.eq_nil_of_length_eq_zero hlen.symm)
    simp [h0,hd0]) (Nat.le_refl _) (fun p=>by
    have e:sealN (⟨[],[],[(i,⟨tp,1,0,0,cm,nl,1,[A],ys.map fun k=>.aptr A k 0⟩)],[],[(A,r)]⟩:S) (5,i,p)=ownK (flat (ys.map fun k=>AV.aptr A k 0))[p]?:=by simp [sealN,aget_cons]
    rw [e,ownK_aptr]; exact Nat.zero_le _)
   (fun b j v hb hM=>by
    have:=(hs.mem _ _ _ hM).2 _ hb
    simp [sealN,aget_cons] at this)
   (fun blk' vs' hq1 _ hh2 _ _=>by
    rw [hqa] at hq1
    cases hq1
    rw [hheap] at hh2
    cases hh2
    refine ⟨cur',hW,hcz,fun p u hu=>?_⟩
    rw [flat_aptrs,List.getElem?_map,Option.map_eq_some_iff] at hu
    obtain ⟨k,hk,rfl⟩:=hu
    have hpl:=(List.getElem?_eq_some_iff.1 hk).1
    have hcp:cur'[p]?=some (encP (bf k)):=by
     have h1:(cur'.toList.take ys.length)[p]?=some (encP (bf k)):=by rw [htk',List.getElem?_map,hk]; rfl
     rw [List.getElem?_take] at h1
     split at h1
     ·simpa using h1
     ·cases h1
    refine ⟨_,hcp,?_⟩
    refine (RelS.aptr A k 0 bs _ ?_ (hbf1 k (hmem k (List.mem_of_getElem? hk))):RelS M (Env.arO _ [A]) _ _)
    show (if memN A [A]=true then E.ar A else none)=some bs
    rw [if_pos (by simp [memN]),hbs])
  refine ⟨M,_,_,rfl,lwK hup _ _ _ _,hst.sub (t:=⟨[],[],[(i,⟨tp,1,0,0,cm,nl,1,[A],d'.map fun k=>.aptr A k 0⟩)],[],[(A,r)]⟩) (fun i v h=>by cases h) (fun i v h=>by cases h)
   (fun j v h=>by
    rw [aget_cons] at h ⊢
    split at h
    ·rename_i e; rw [if_pos e]; exact h
    ·cases h) (fun i v h=>by cases h) (fun i v h=>h) hcl,htup _ _⟩
theorem mlookP_ok {κ:Type} [DecidableEq κ] {tk:TK} {e:κ→AV} (h:KEnc tk e) (l:List (κ×Nat)) (k:κ):lkQ (mlook (e k) (l.map fun p=>(e p.1,ea p.2))) .nilp (.popt (mget l k).isSome (ea ((mget l k).getD 0))):=by
 rw [mlook_eq h]
 refine .inr ⟨rfl,_,_,_,_,rfl,?_⟩
 cases mget l k with
 | none=>exact .inr ⟨rfl,rfl⟩
 | some n=>exact .inl ⟨rfl,rfl⟩
section
variable {α:Type} [Inhabited α]
theorem hole_ok (f:α→AV) (l:List α) {K:Nat} (c m:Nat) (h:0≤(K:Int)∧(K:Int)<(l.length:Int)):∃ m',((l.map f).set K (hole c m))[K]?=some (hole c m'):=
 ⟨m,by rw [List.getElem?_set_self (by rw [List.length_map]; omega)]⟩
theorem back_ok (f:α→AV) (l:List α) (K:Nat) (ne:α) (h:AV):(lset l (K:Int) ne).map f=((l.map f).set K h).set K (f ne):=by
 rw [List.set_set,set_ok]; rfl
theorem alen_ok (f:α→AV) {l:List α} {K:Nat} (h:K<l.length):K<(l.map f).length:=by rw [List.length_map]; exact h
end
theorem mks_ok {κ:Type} (e:κ→AV) (l:List (κ×Nat)):(l.map fun p=>(e p.1,ea p.2)).map (·.2)=(l.map fun p=>p.2).map fun i=>AV.aptr 100000 i 0:=by
 rw [List.map_map,List.map_map]; rfl
noncomputable def sortZ (val:Nat→Int) (n:Nat) (l:List Nat):Option (List Nat):=
 asrt ((∀ k∈l,k<n)∧(l.map val).Nodup∧l.length<4611686018427387904) <| some (l.mergeSort fun x y=>decide (val x≤val y))
theorem sorted_lt (val:Nat→Int) {zs:List Nat} (h1:zs.Pairwise (fun x y=>val x≤val y)) (h2:(zs.map val).Nodup):zs.Pairwise (fun x y=>val x<val y):=by
 have h2:zs.Pairwise (fun x y=>val x≠val y):=List.pairwise_map.1 h2
 exact (h1.and h2).imp fun {a b} h=>by omega
theorem sortZ_spec {val:Nat→Int} {n:Nat} {l zs:List Nat} (h:sortZ val n l=some zs):zs.Perm l∧zs.Pairwise (fun x y=>val x<val y)∧(∀ k∈l,k<n)∧l.length<4611686018427387904:=by
 obtain ⟨⟨h1,h2,h3⟩,h⟩:=asrt_elim h
 cases h
 have hp:=List.mergeSort_perm l (fun x y=>decide (val x≤val y))
 refine ⟨hp,sorted_lt val ?_ ((hp.map val).nodup_iff.2 h2),h1,h3⟩
 have:=List.pairwise_mergeSort (le:=fun x y=>decide (val x≤val y)) (fun a b c=>by simp only [decide_eq_true_eq]; omega) (fun a b=>by simp only [Bool.or_eq_true,decide_eq_true_eq]; omega) l
 exact this.imp fun {a b} h=>by simpa using h
theorem sortZ_perm {val:Nat→Int} {n:Nat} {ys kl:List Nat} (h:ys.Perm kl):sortZ val n ys=sortZ val n kl:=by
 by_cases hc:(∀ k∈kl,k<n)∧(kl.map val).Nodup∧kl.length<4611686018427387904
 ·have hc':(∀ k∈ys,k<n)∧(ys.map val).Nodup∧ys.length<4611686018427387904:=⟨fun k hk=>hc.1 k (h.mem_iff.1 hk),(h.map val).nodup_iff.2 hc.2.1,by rw [h.length_eq]; exact hc.2.2⟩
  have e1:sortZ val n ys=some (ys.mergeSort fun x y=>decide (val x≤val y)):=asrt_pos hc' _
  have e2:sortZ val n kl=some (kl.mergeSort fun x y=>decide (val x≤val y)):=asrt_pos hc _
  obtain ⟨a1,a2,_⟩:=sortZ_spec e1
  obtain ⟨b1,b2,_⟩:=sortZ_spec e2
  rw [e1,e2,sorted_eq val (a1.trans (h.trans b1.symm)) (a2.imp fun {a b} h=>Int.le_of_lt h) b2]
 ·have hc':¬ ((∀ k∈ys,k<n)∧(ys.map val).Nodup∧ys.length<4611686018427387904):=fun q=>hc ⟨fun k hk=>q.1 k (h.mem_iff.2 hk),(h.map val).nodup_iff.1 q.2.1,by rw [← h.length_eq]; exact q.2.2⟩
  have e1:sortZ val n ys=none:=if_neg hc'
  have e2:sortZ val n kl=none:=if_neg hc
  rw [e1,e2]
theorem Pe_sortZ {P:Program} {f g:FuncId} {tp ty sz:TypeId} (hb:Bodied P f) (hS:SortC P tp f g) {α:Type} [Inhabited α] (en:α→AV) (v:α→Int) (hen:∀ a,(en a).isHole=false∧(en a).cells[0]?=some (.int .i64 (v a))) {ar:List α} {ys zs:List Nat} {cm:Nat} {nl:Bool}
  (hF:sortZ (fun k=>v (lget ar (k:Int))) ar.length ys=some zs) :
  Pe P f ⟨[],[],[(100000,⟨tp,1,0,0,cm,nl,1,[100000],ys.map ea⟩)],[],[(100000,⟨ty,sz,[],ar.map en⟩)]⟩ [.row 100000 0,.fn g []] (.tup []) ⟨[],[],[(100000,⟨tp,1,0,0,cm,nl,1,[100000],zs.map ea⟩)],[],[(100000,⟨ty,sz,[],ar.map en⟩)]⟩:=by
 obtain ⟨h1,h2,h3,h4⟩:=sortZ_spec hF
 refine Pe_sortP hb hS (val:=fun k=>v (lget ar (k:Int))) (fun k hk=>?_) h1 h2 h4 rfl
 exact ⟨en (lget ar (k:Int)),ldr_ok en (n:=(k:Int)) ⟨by omega,by have:=h3 k hk; omega⟩,hen _⟩
theorem clr0_ok {α:Type} (f:α→AV) (l:List α) {off:Nat} (n:Nat) (z:AV) (h:off=l.length):l.map f=(l.map f).take off++List.replicate (min n ((l.map f).length - off)) z++(l.map f).drop (off+n):=by
 subst h
 rw [List.length_map,Nat.sub_self,Nat.min_zero,List.replicate_zero,List.append_nil,List.drop_of_length_le (by rw [List.length_map]; omega),List.append_nil,List.take_of_length_le (by rw [List.length_map]; omega)]
end Go.Dm
