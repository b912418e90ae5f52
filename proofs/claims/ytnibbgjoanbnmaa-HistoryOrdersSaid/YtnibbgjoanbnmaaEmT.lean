/- The machine over the model's code, part EmT. -/
import Derived.Test.YtnibbgjoanbnmaaEmD
set_option linter.unnecessarySimpa false
set_option linter.constructorNameAsVariable false
set_option linter.unusedSectionVars false
set_option linter.unusedSimpArgs false
set_option linter.unusedVariables false
namespace Go.Dm
open Go Go.RowKit
def hole (c n:Nat):AV:=.agg (.ptr c 0::List.replicate n .any)
theorem flat_set_get {xs:List AV} {sz K:Nat} {u u':AV} (hz:∀ y∈xs,y.cells.length=sz) (hu:xs[K]?=some u) (hu':u'.cells.length=sz) (p:Nat) :
  (flat (xs.set K u'))[p]?=if K*sz≤p∧p<K*sz+sz then u'.cells[p - K*sz]? else (flat xs)[p]?:=by
 have hk:=(List.getElem?_eq_some_iff.1 hu).1
 have hul:u.cells.length=sz:=hz u (List.mem_of_getElem? hu)
 have hT:(flat (xs.take K)).length=K*sz:=by rw [flat_len (fun y hy=>hz y (List.mem_of_mem_take hy)),List.length_take,Nat.min_eq_left (by omega)]
 have e1:flat xs=flat (xs.take K)++(u.cells++flat (xs.drop (K+1))):=by
  conv=>lhs; rw [← List.take_append_drop K xs,List.drop_eq_getElem_cons hk,(List.getElem?_eq_some_iff.1 hu).2,flat_append,flat_cons]
 have e2:flat (xs.set K u')=flat (xs.take K)++(u'.cells++flat (xs.drop (K+1))):=by
  rw [List.set_eq_take_append_cons_drop,if_pos hk,flat_append,flat_cons]
 rw [e1,e2]
 by_cases h1:p<K*sz
 ·rw [if_neg (by omega),List.getElem?_append_left (by omega),List.getElem?_append_left (by omega)]
 ·have r1:∀ X:List AV,(flat (xs.take K)++X)[p]?=X[p - K*sz]?:=fun X=>by rw [List.getElem?_append_right (by omega),hT]
  rw [r1,r1]
  by_cases h2:p<K*sz+sz
  ·rw [if_pos ⟨by omega,h2⟩,List.getElem?_append_left (by omega)]
  ·rw [if_neg (by omega),List.getElem?_append_right (by omega),List.getElem?_append_right (by omega),hul,hu']
theorem far {K L sz i j:Nat} (h:K≠L) (hi:i<sz) (hj:j<sz):K*sz+i≠L*sz+j:=by
 rcases Nat.lt_or_gt_of_ne h with q | q
 ·have:=Nat.mul_le_mul_right sz (show K+1≤L by omega)
  rw [Nat.succ_mul] at this; omega
 ·have:=Nat.mul_le_mul_right sz (show L+1≤K by omega)
  rw [Nat.succ_mul] at this; omega
section
variable {g:Gh} {N:Nat} {M:Mem} {E E':Env} {s:S} {tmps:Array Value} {w:World} {v:Value}
theorem arO7 (h:E.le E') (ns:List Nat):(E.arO ns).le (E'.arO (7::ns)):=by
 refine ⟨fun i b e=>(by cases e),fun i q e=>(by cases e),fun i r e=>(by cases e),fun i bs e=>?_⟩
 simp only [Env.arO] at e ⊢
 split at e
 ·rename_i hm
  obtain ⟨l,hl⟩:=h.ar i bs e
  refine ⟨l,?_⟩
  simp only [memN,hm]
  cases Nat.beq i 7 <;> exact hl
 ·cases e
theorem hole_cells (c:Nat) {n:Nat} (h:1≤n):(hole c (n - 1)).cells.length=n:=by simp [hole,AV.cells]; omega
theorem hole_own (c n p:Nat):ownK (hole c n).cells[p]?=0:=by
 cases p with
 | zero=>rfl
 | succ p=>
  show ownK (List.replicate n AV.any)[p]?=0
  rw [List.getElem?_replicate]
  split <;> rfl
theorem ownK_cell {c:Option AV} (h:∀ x,c=some x→x.isCell=true):ownK c=0:=by
 cases c with
 | none=>rfl
 | some x=>
  have:=h x rfl
  cases x <;> first | rfl | (simp [AV.isCell] at this)
theorem St.take (hs:St g N M E s tmps w) {A K o c j:Nat} {r:Arn} {cs:List AV} {ty sz kk:Nat} {ys:List AV} (hA:aget s.ar A=some r) (hu:r.xs[K]?=some (.agg cs)) (hh:(AV.agg cs).isHole=false) (hown:cs[o]?=some (.own ty sz kk ys))
  (hcell:∀ q c',q≠o→cs[q]?=some c'→c'.isCell=true) (hc:aget s.bx c=none) (hcB:c<nB) (hj:aget s.rw j=none) (hjB:j<nB) (hsz:1≤r.sz) :
  ∃ E',E.up E'∧St g N M E' { s with bx:=(c,cs.set o (.row j 0))::s.bx,rw:=(j,⟨ty,sz,0,kk,0,false,0,[],ys⟩)::s.rw,ar:=(A,{ r with ns:=7::r.ns,xs:=r.xs.set K (hole c (r.sz - 1)) })::s.ar } tmps w∧
   ∀ v off,Rel M E v (.aptr A K off)→Rel M E' v (.ptr c off):=by
 obtain ⟨bs,hbs,hok⟩:=hs.ar A r hA
 obtain ⟨blk,vs,g1,g2,⟨ty',g3⟩,g4,g5⟩:=hok.el K _ hu hh
 have hcsl:cs.length=r.sz:=hok.es _ (List.mem_of_getElem? hu)
 have hol:=(List.getElem?_eq_some_iff.1 hown).1
 have hat:(flat r.xs)[K*r.sz+o]?=some (.own ty sz kk ys):=flat_at hok.es hu hown
 obtain ⟨v0,hv0,hrel⟩:=g5 o _ hown
 obtain ⟨a,n,cc,rfl,hn,hnc,hm,hz,hkk,hblk⟩:=hrel.own_inv
 generalize hP:K*r.sz+o=P at hat hblk
 have hle:E.le { E with bx:=fun i=>if i=c then some blk else E.bx i,rw:=fun j'=>if j'=j then some ⟨a,n,cc,sz,0⟩ else E.rw j',own:=fun b=>if E.own b=some (3,A,K) then some (0,c,0) else if E.own b=some (6,A,P) then some (1,j,0) else if E.own b=some (1,j,0) then none else E.own b }:=by
  refine ⟨fun i b hb=>?_,fun j' q hq=>?_,fun j r hr=>hr,fun j bs h=>⟨[],by simpa using h⟩⟩
  ·have hne:i≠c:=by rintro rfl; rw [hs.bxn i hc] at hb; cases hb
   simp only [if_neg hne]; exact hb
  ·have hne:j'≠j:=by rintro rfl; rw [hs.rwn j' hj] at hq; cases hq
   exact ⟨q,by simp only [if_neg hne]; exact hq,Nat.le_refl _,fun _=>⟨rfl,rfl,rfl,rfl⟩⟩
 have hkeep:∀ b o',E.own b=some o'→o'≠(3,A,K)→o'≠(6,A,P)→o'≠(1,j,0)→(if E.own b=some (3,A,K) then some ((0:Nat),c,0) else if E.own b=some (6,A,P) then some ((1:Nat),j,0) else if E.own b=some (1,j,0) then none else E.own b)=some o':=fun b o' h h0 h1 h2=>by
  rw [if_neg (by rw [h]; simpa using h0),if_neg (by rw [h]; simpa using h1),if_neg (by rw [h]; simpa using h2)]; exact h
 have hcs:∀ (q:Nat) (v:Value) (c':AV),vs[q]?=some v→(cs.set o (.row j 0))[q]?=some c'→RelS M { E with bx:=fun i=>if i=c then some blk else E.bx i,rw:=fun j'=>if j'=j then some ⟨a,n,cc,sz,0⟩ else E.rw j',own:=fun b=>if E.own b=some (3,A,K) then some (0,c,0) else if E.own b=some (6,A,P) then some (1,j,0) else if E.own b=some (1,j,0) then none else E.own b } v c':=fun q v c' hv hc'=>by
  rw [List.getElem?_set] at hc'
  by_cases e:o=q
  ·subst e
   rw [if_pos rfl,if_pos hol] at hc'
   cases hc'
   rw [hv0] at hv; cases hv
   exact .row j 0 n cc a ⟨a,n,cc,sz,0⟩ (if_pos rfl) (Nat.le_refl _) fun _=>⟨rfl,rfl,rfl⟩
  ·rw [if_neg e] at hc'
   obtain ⟨v',hv',hr'⟩:=g5 q c' hc'
   rw [hv] at hv'; cases hv'
   exact RelS.monoE hle (cR.cell (pu:=2) hr' (hcell q c' (fun z=>e z.symm) hc'))
 refine ⟨_,⟨hle,fun E0 hp=>⟨fun i b hi h=>hp.bx i b hi (by simp only at h; rwa [if_neg (by omega)] at h),fun j' q2 hj' h hv=>hp.rw j' q2 hj' (by simp only at h; rwa [if_neg (by omega)] at h) hv,hp.mp,hp.ar⟩⟩,?_,fun v off hv=>?_⟩
 rotate_left
 ·obtain ⟨bs',b,f1,f2,f3⟩:=hv.aptr_inv
  rw [hbs] at f1; cases f1
  rw [g1] at f2; cases f2
  rw [f3]
  exact .cell (.ptr c off _ (if_pos rfl))
 refine hs.grow' (fun b=>E.own b=some (3,A,K)∨E.own b=some (6,A,P)∨E.own b=some (1,j,0)) (fun b _ h=>by rcases h with h | h | h <;> exact ⟨_,h⟩) (Grow.refl w _) hle (fun b hb hX=>?_) (fun b o' hb=>?_) rfl (fun b jj v hX hM=>?_) (fun b o' ho hX=>?_)
  (fun i cs' hi=>?_) (fun i hi=>?_) (fun j2 r2 hj2=>?_) (fun j2 hj2=>?_)
  (fun k es hk=>.inl (hs.mpK (fun b i' h ho=>by rcases h with h | h | h <;> (rw [ho] at h; cases h)) k es hk)) hs.mpn
  (fun i r2 hi=>?_) (fun i hi=>?_)
 ·show (if E.own b=some (3,A,K) then some ((0:Nat),c,0) else if E.own b=some (6,A,P) then some ((1:Nat),j,0) else if E.own b=some (1,j,0) then none else E.own b)=E.own b
  rw [if_neg fun h=>hX (.inl h),if_neg fun h=>hX (.inr (.inl h)),if_neg fun h=>hX (.inr (.inr h))]
 ·simp only at hb
  split at hb
  ·rename_i h; exact hs.live b _ h
  ·split at hb
   ·rename_i h; exact hs.live b _ h
   ·split at hb
    ·cases hb
    ·exact hs.live b _ hb
 ·obtain ⟨h1,h2⟩:=hs.mem b jj v hM
  refine ⟨h1,fun o' ho'=>?_⟩
  simp only at ho'
  rcases hX with h | h | h
  ·have:=h2 _ h
   simp [sealN] at this
  ·rw [if_neg (by rw [h]; simp),if_pos h] at ho'
   cases ho'
   have:=h2 _ h
   rw [sealN_row (by rw [aget_cons,if_pos rfl])]
   simpa [sealN,hA,hat,ownK] using this
  ·have:=h2 _ h
   simp [sealN,hj] at this
 ·obtain ⟨kd,j',p⟩:=o'
  by_cases h6:kd=6
  ·subst h6
   by_cases hAA:j'=A
   ·subst hAA
    have hp:P≠p:=by rintro rfl; exact hX (.inr (.inl ho))
    have e:=flat_set_get (p:=p) hok.es hu (hole_cells c hsz)
    simp only [sealN,aget_cons,if_true,hA]
    have:ownK (flat r.xs)[p]?≤ownK (flat (r.xs.set K (hole c (r.sz - 1))))[p]?:=by
     rw [e]
     split
     ·rename_i hr
      have hx:(flat r.xs)[p]?=cs[p - K*r.sz]?:=by
       have hlt:p - K*r.sz<cs.length:=by omega
       have:=flat_at hok.es hu (j:=p - K*r.sz) (c:=cs[p - K*r.sz]) (List.getElem?_eq_getElem hlt)
       rw [show K*r.sz+(p - K*r.sz)=p by omega] at this
       rw [this,List.getElem?_eq_getElem hlt]
      rw [hx,ownK_cell fun x hx'=>hcell _ x (by omega) hx']
      exact Nat.zero_le _
     ·exact Nat.le_refl _
    simpa using this
   ·simp [sealN,aget_cons,hAA]
  ·by_cases hjj:j'=j
   ·subst hjj
    by_cases h5:kd=5
    ·subst h5; simp [sealN,hj]
    ·by_cases h1:kd=1
     ·subst h1
      by_cases hp:p=0
      ·subst hp; exact absurd (.inr (.inr ho)) hX
      ·simp [sealN,hp]
     ·simp [sealN,h1,h5,h6]
   ·simp only [sealN,aget_cons,if_neg hjj,h6,if_false]; exact Nat.le_refl _
 ·simp only [aget_cons] at hi
  split at hi
  ·rename_i e; subst e
   cases hi
   exact .inr ⟨blk,if_pos rfl,if_pos g2,ty',vs,g3,by rw [g4,List.length_set,hcsl],hcs⟩
  ·rename_i hne
   refine .inl ⟨hi,fun b hb hX=>?_⟩
   obtain ⟨b',h1,h2,_⟩:=hs.bx i cs' hi
   rw [hb] at h1; cases h1
   rcases hX with h | h | h <;> (rw [h2] at h; cases h)
 ·simp only [aget_cons] at hi
  split at hi
  ·cases hi
  ·rename_i hne
   show (if i=c then some blk else E.bx i)=none
   rw [if_neg hne]; exact hs.bxn i hi
 ·simp only [aget_cons] at hj2
  split at hj2
  ·rename_i e; subst e
   cases hj2
   refine .inr ⟨_,if_pos rfl,⟨rfl,rfl,hn,hnc,hm,hz,by show kk≤ys.length; omega,Nat.zero_le _,(fun h=>by cases h),?_⟩⟩
   rcases hblk with h0 | ⟨b2,vs2,e1,e2,e3,e4,e5⟩
   ·exact .inl h0
   ·refine .inr ⟨b2,vs2,e1,?_,e3,e4,fun jj u2 hu2=>e5 jj u2 hu2⟩
    show (if E.own b2=some (3,A,K) then _ else if E.own b2=some (6,A,P) then _ else _)=_
    rw [if_neg (by rw [e2]; simp),if_pos e2]
  ·rename_i hne
   refine .inl ⟨hj2,if_neg hne,fun b p ho h=>?_⟩
   rcases ho with ho | ho <;> rcases h with h | h | h <;> (rw [ho] at h; cases h) <;> exact hne rfl
 ·simp only [aget_cons] at hj2
  split at hj2
  ·cases hj2
  ·rename_i hne
   show (if j2=j then _ else E.rw j2)=none
   rw [if_neg hne]; exact hs.rwn j2 hj2
 ·simp only [aget_cons] at hi
  split at hi
  ·rename_i e; subst e
   cases hi
   refine .inr ⟨bs,hbs,⟨by simpa using hok.n,fun x hx=>?_,fun k2 x hx hh2=>?_,fun k2 c2 o2 l hx=>?_⟩⟩
   ·rcases List.mem_or_eq_of_mem_set hx with h | h
    ·exact hok.es x h
    ·rw [h]; exact hole_cells c hsz
   ·have hx:(r.xs.set K (hole c (r.sz - 1)))[k2]?=some x:=hx
    rw [List.getElem?_set] at hx
    by_cases e:K=k2
    ·subst e
     rw [if_pos rfl,if_pos (List.getElem?_eq_some_iff.1 hu).1] at hx
     cases hx
     cases hh2
    ·rw [if_neg e] at hx
     obtain ⟨b2,vs2,f1,f2,f3,f4,f5⟩:=hok.el k2 x hx hh2
     have hxl:=hok.es x (List.mem_of_getElem? hx)
     refine ⟨b2,vs2,f1,hkeep b2 _ f2 (fun z=>by cases z; exact e rfl) (by simp) (by simp),f3,f4,fun jj u2 hu2=>?_⟩
     obtain ⟨v2,hv2,hr2⟩:=f5 jj u2 hu2
     have hjl:=(List.getElem?_eq_some_iff.1 hu2).1
     refine ⟨v2,hv2,?_⟩
     have hr2:RelC M (E.arO r.ns) w 6 i (k2*r.sz+jj) v2 u2:=hr2
     refine RelC.mono (fun _ _ _ h=>h) (arO7 hle r.ns) (fun b hb=>⟨hkeep b _ hb (by simp) (fun z=>?_) (by simp),rfl⟩) hr2
     simp only [Prod.mk.injEq] at z
     exact far (fun q=>e q.symm) (by omega) (by omega) (z.2.2.trans hP.symm)
   ·have hx:(r.xs.set K (hole c (r.sz - 1)))[k2]?=some (.agg (.ptr c2 o2::l)):=hx
    rw [List.getElem?_set] at hx
    by_cases e:K=k2
    ·subst e
     rw [if_pos rfl,if_pos (List.getElem?_eq_some_iff.1 hu).1] at hx
     cases hx
     exact ⟨rfl,blk,g1,if_pos rfl⟩
    ·rw [if_neg e] at hx
     obtain ⟨h1,b,h2,h3⟩:=hok.ho k2 c2 o2 l hx
     refine ⟨?_,b,h2,hle.bx _ _ h3⟩
     show memN 7 (7::r.ns)=true
     rfl
  ·rename_i hne
   refine .inl ⟨hi,rfl,fun b p ho h=>?_⟩
   rcases ho with ho | ho <;> rcases h with h | h | h <;> (rw [ho] at h; cases h) <;> exact hne rfl
 ·simp only [aget_cons] at hi
  split at hi
  ·cases hi
  ·exact hs.arn i hi
def delK {α:Type} (c:Nat):List (Nat×α)→List (Nat×α)
 | []=>[]
 | (i,x)::l=>match Nat.beq i c with
  | true=>delK c l
  | false=>(i,x)::delK c l
theorem delK_get {α:Type} (c:Nat):∀ (l:List (Nat×α)) (i:Nat),aget (delK c l) i=if i=c then none else aget l i
 | [],i=>by simp [delK,aget]
 | (j,x)::l,i=>by
  have ih:=delK_get c l i
  simp only [delK]
  split
  ·rename_i e
   have e:=beq_true e
   rw [ih,aget_cons]
   by_cases q:i=c
   ·rw [if_pos q,if_pos q]
   ·rw [if_neg q,if_neg q,if_neg (by omega)]
  ·rename_i e
   have e:=beq_false e
   rw [aget_cons,aget_cons,ih]
   by_cases q:i=j
   ·rw [if_pos q,if_pos q,if_neg (by omega)]
   ·rw [if_neg q,if_neg q]
def neq (c i:Nat):Bool:=!Nat.beq i c
theorem neq_ne {c i:Nat} (h:neq c i=true):i≠c:=by
 rintro rfl
 simp [neq] at h
theorem St.putBack (hs:St g N M E s tmps w) {A K o c j vr m:Nat} {r:Arn} {rj:Rw} {cs zs:List AV} {ns0:List Nat} (hA:aget s.ar A=some r) (hu:r.xs[K]?=some (hole c m)) (hc:aget s.bx c=some cs) (hcj:cs[o]?=some (.row j vr))
  (hj:aget s.rw j=some rj) (hvr:vr=rj.ver) (hpj:rj.pu=0) (hcell:∀ q c',q≠o→cs[q]?=some c'→c'.isCell=true∧c'.okIn no no no (fun i=>memN i ns0)=true) (hl:cs.length=r.sz)
  (hz:zs=r.xs.set K (.agg (cs.set o (.own rj.ty rj.sz rj.k rj.xs)))) (hnh:∀ x∈zs,x.isHole=false) (hns:∀ i,memN i r.ns=true→memN i ns0=true∨i=7) (hns':∀ i,memN i ns0=true→memN i r.ns=true) (h7:aget s.ar 7=none) (hno:∀ i r2,i≠A→aget s.ar i=some r2→memN 7 r2.ns=false)
  {fr':List (Nat×AV)} (hfr:∀ i x,aget fr' i=some x→(x = .aptr A K 0∧aget s.fr i=some (.ptr c 0))∨(aget s.fr i=some x∧x.okIn (neq c) (neq j) yes yes=true))
  (hb:okB (AV.okInL (neq c) (neq j) yes yes) (delK c s.bx)=true) (h2:p2R (delK j s.rw)=true) (E0:Env) (hp0:Env.p0 E0 E) :
  ∃ E',Env.p0 E0 E'∧St g N M E' ⟨fr',delK c s.bx,delK j s.rw,s.mp,(A,{ r with ns:=ns0,xs:=zs })::s.ar⟩ tmps w:=by
 obtain ⟨bs,hbs,hok⟩:=hs.ar A r hA
 obtain ⟨-,blk,g1,gb⟩:=hok.ho K c 0 _ hu
 obtain ⟨blk',hb1,hob,ty',vs,hh,hvl,hrel⟩:=hs.bx c cs hc
 rw [gb] at hb1; cases hb1
 obtain ⟨qj,hqj,hokj⟩:=hs.rw j rj hj
 have hol:=(List.getElem?_eq_some_iff.1 hcj).1
 have hat:=flat_at hok.es hu (j:=o) (c:=(hole c m).cells[o]'(by have:=hok.es _ (List.mem_of_getElem? hu); omega)) (List.getElem?_eq_getElem _)
 have hPdef:∃ P,P=K*r.sz+o:=⟨_,rfl⟩
 obtain ⟨P,hP⟩:=hPdef
 have hes:∀ x∈zs,x.cells.length=r.sz:=fun x hx=>by
  rw [hz] at hx
  rcases List.mem_or_eq_of_mem_set hx with h | h
  ·exact hok.es x h
  ·rw [h]
   show (cs.set o _).length=_
   rw [List.length_set,hl]
 have hfl:∀ p,(flat zs)[p]?=if K*r.sz≤p∧p<K*r.sz+r.sz then (cs.set o (.own rj.ty rj.sz rj.k rj.xs))[p - K*r.sz]? else (flat r.xs)[p]?:=fun p=>by
  rw [hz]
  exact flat_set_get hok.es hu (u':=.agg (cs.set o (.own rj.ty rj.sz rj.k rj.xs))) (by show (cs.set o _).length=_; rw [List.length_set,hl]) p
 have hfP:(flat zs)[P]?=some (.own rj.ty rj.sz rj.k rj.xs):=by
  rw [hfl,if_pos (by omega),show P - K*r.sz=o by omega,List.getElem?_set_self hol]
 obtain ⟨E',hE'⟩:∃ E':Env,E'={ E with bx:=fun i=>if i=c then none else E.bx i,rw:=fun i=>if i=j then none else E.rw i,own:=fun b=>if b=blk then some (3,A,K) else if E.own b=some (1,j,0) then some (6,A,P) else if E.own b=some (3,A,K)∨E.own b=some (6,A,P)∨is5 j (E.own b)=true then none else E.own b }:=⟨_,rfl⟩
 have har:E'.ar=E.ar:=by rw [hE']
 have hmp:E'.mp=E.mp:=by rw [hE']
 have hbx:∀ i,i≠c→E'.bx i=E.bx i:=fun i h=>by rw [hE']; exact if_neg h
 have hbxc:E'.bx c=none:=by rw [hE']; exact if_pos rfl
 have hrw:∀ i,i≠j→E'.rw i=E.rw i:=fun i h=>by rw [hE']; exact if_neg h
 have hrwj:E'.rw j=none:=by rw [hE']; exact if_pos rfl
 have hoblk:E'.own blk=some (3,A,K):=by rw [hE']; exact if_pos rfl
 have hown:∀ b,E'.own b=if b=blk then some (3,A,K) else if E.own b=some (1,j,0) then some (6,A,P) else if E.own b=some (3,A,K)∨E.own b=some (6,A,P)∨is5 j (E.own b)=true then none else E.own b:=fun b=>by rw [hE']
 have hkeep:∀ b o',E.own b=some o'→o'≠(0,c,0)→o'≠(1,j,0)→o'≠(3,A,K)→o'≠(6,A,P)→¬ (o'.1=5∧o'.2.1=j)→E'.own b=some o':=fun b o' h h0 h1 h3 h6 h5=>by
  rw [hown,if_neg (fun e=>by rw [e,hob] at h; cases h; exact h0 rfl),if_neg (by rw [h]; simpa using h1),if_neg]
  ·exact h
  ·rw [h]
   rintro (q | q | q)
   ·cases q; exact h3 rfl
   ·cases q; exact h6 rfl
   ·exact h5 (by simpa [is5] using q)
 have hK:(E.keep (neq c) (neq j) yes yes).le E':=by
  refine ⟨fun i b e=>?_,fun i q e=>?_,fun i r e=>?_,fun i l e=>?_⟩ <;> simp only [Env.keep] at e <;> split at e <;> first | (cases e; done) | skip
  ·rename_i h; rw [hbx i (neq_ne h)]; exact e
  ·rename_i h; exact ⟨q,by rw [hrw i (neq_ne h)]; exact e,Nat.le_refl _,fun _=>⟨rfl,rfl,rfl,rfl⟩⟩
  ·rw [hmp]; exact e
  ·exact ⟨[],by rw [har,List.append_nil]; exact e⟩
 have hA0:∀ ns,(E.arO ns).le (E'.arO ns):=fun ns=>arO_le_of (E:=E) (E':=E') har ns
 have hAns:(E.arO r.ns).le (E'.arO ns0):=by
  refine ⟨fun i b e=>(by cases e),fun i q e=>(by cases e),fun i r e=>(by cases e),fun i l e=>⟨[],?_⟩⟩
  simp only [Env.arO,List.append_nil] at e ⊢
  split at e
  ·rename_i hm
   rcases hns i hm with h | rfl
   ·rw [if_pos h,har]; exact e
   ·rw [hs.arn 7 h7] at e; cases e
  ·cases e
 have hMb:∀ jj v,M blk jj=some v→False:=fun jj v h=>by
  have:=(hs.mem blk jj v h).2 _ hob
  simp [sealN] at this
 refine ⟨E',⟨fun i b hi e=>?_,fun i q hi e hv=>?_,fun i r hi e=>hp0.mp i r hi (by rw [← hmp]; exact e),fun i l hi e=>hp0.ar i l hi (by rw [← har]; exact e)⟩,?_⟩
 ·by_cases q:i=c
  ·rw [q,hbxc] at e; cases e
  ·rw [hbx i q] at e; exact hp0.bx i b hi e
 ·by_cases z:i=j
  ·rw [z,hrwj] at e; cases e
  ·rw [hrw i z] at e; exact hp0.rw i q hi e hv
 refine ⟨hs.size,fun i x hi=>?_,fun b jj v h=>⟨(hs.mem b jj v h).1,fun o' ho'=>?_⟩,fun i cs' hi=>?_,fun i hi=>?_,fun i r2 hi=>?_,fun i hi=>?_,fun i es hi=>?_,fun i hi=>?_,fun i r2 hi=>?_,fun i hi=>?_,fun b o' ho'=>?_,fun b hF=>?_,hs.m0,hs.mf,hs.os,hs.tape,hs.output,hs.grow⟩
 ·rcases hfr i x hi with ⟨rfl,h⟩ | ⟨h,hx⟩
  ·obtain ⟨f1,f2⟩:=hs.fr i _ h
   refine ⟨f1,?_⟩
   obtain ⟨b,e1,e2⟩:=f2.ptr_inv
   rw [gb] at e1; cases e1
   rw [e2]
   exact .cell (.aptr A K 0 bs blk (by rw [har]; exact hbs) g1)
  ·obtain ⟨f1,f2⟩:=hs.fr i _ h
   exact ⟨f1,(f2.keep hx).monoE hK⟩
 ·obtain ⟨f1,f2⟩:=hs.mem b jj v h
  by_cases hbb:b=blk
  ·subst hbb; exact (hMb jj v h).elim
  rw [hown,if_neg hbb] at ho'
  by_cases h1:E.own b=some (1,j,0)
  ·rw [if_pos h1] at ho'
   cases ho'
   have:=f2 _ h1
   rw [sealN_row hj] at this
   simpa [sealN,aget_cons,hfP,ownK] using this
  rw [if_neg h1] at ho'
  split at ho'
  ·cases ho'
  rename_i hno
  have f3:=f2 o' ho'
  have hn5:¬ (o'.1=5∧o'.2.1=j):=fun q=>hno (.inr (.inr (by rw [ho']; simpa [is5] using q)))
  have hn6:o'≠(6,A,P):=fun q=>hno (.inr (.inl (by rw [ho',q])))
  have hn1:o'≠(1,j,0):=fun q=>h1 (by rw [ho',q])
  obtain ⟨kd,i,p⟩:=o'
  refine Nat.lt_of_lt_of_le f3 ?_
  by_cases k6:kd=6
  ·subst k6
   by_cases hAA:i=A
   ·subst hAA
    have hp:p≠P:=fun q=>hn6 (by rw [q])
    simp only [sealN,aget_cons,if_true,hA]
    have:ownK (flat r.xs)[p]?≤ownK (flat zs)[p]?:=by
     rw [hfl]
     split
     ·rename_i hr
      have hhl:(hole c m).cells.length=r.sz:=hok.es _ (List.mem_of_getElem? hu)
      have hx:(flat r.xs)[p]?=(hole c m).cells[p - K*r.sz]?:=by
       have hlt:p - K*r.sz<(hole c m).cells.length:=by omega
       have:=flat_at hok.es hu (j:=p - K*r.sz) (List.getElem?_eq_getElem hlt)
       rw [show K*r.sz+(p - K*r.sz)=p by omega] at this
       rw [this,List.getElem?_eq_getElem hlt]
      rw [hx,hole_own]
      exact Nat.zero_le _
     ·exact Nat.le_refl _
    simpa using this
   ·simp [sealN,aget_cons,hAA]
  ·by_cases hij:i=j
   ·subst hij
    by_cases k5:kd=5
    ·exact absurd ⟨k5,rfl⟩ hn5
    ·by_cases k1:kd=1
     ·subst k1
      have hp:p≠0:=fun q=>hn1 (by rw [q])
      simp [sealN,hp]
     ·simp [sealN,k1,k5,k6]
   ·have:aget (delK j s.rw) i=aget s.rw i:=by rw [delK_get,if_neg hij]
    simp only [sealN,this,k6,if_false]; exact Nat.le_refl _
 ·have hi:aget (delK c s.bx) i=some cs':=hi
  have hok2:=okB_get hb hi
  rw [delK_get] at hi
  by_cases q:i=c
  ·rw [if_pos q] at hi; cases hi
  ·rw [if_neg q] at hi
   obtain ⟨b,f1,f2,t,vs',f3,f4,f5⟩:=hs.bx i cs' hi
   exact ⟨b,by rw [hbx i q]; exact f1,hkeep b _ f2 (by simpa using q) (by simp) (by simp) (by simp) (by simp),t,vs',f3,f4,fun a v c' hv hc'=>RelS.monoE hK ((f5 a v c' hv hc').keep (okInL_get hok2 hc'))⟩
 ·have hi:aget (delK c s.bx) i=none:=hi
  rw [delK_get] at hi
  by_cases q:i=c
  ·rw [q]; exact hbxc
  ·rw [if_neg q] at hi; rw [hbx i q]; exact hs.bxn i hi
 ·have hi:aget (delK j s.rw) i=some r2:=hi
  have hpu:=p2R_get h2 hi
  rw [delK_get] at hi
  by_cases q:i=j
  ·rw [if_pos q] at hi; cases hi
  ·rw [if_neg q] at hi
   obtain ⟨q2,f1,f2⟩:=hs.rw i r2 hi
   refine ⟨q2,by rw [hrw i q]; exact f1,{ f2 with blk:=?_ }⟩
   rcases f2.blk with h0 | ⟨b2,vs2,k1,k2,k3,k4,k5⟩
   ·exact .inl h0
   ·exact .inr ⟨b2,vs2,k1,hkeep b2 _ k2 (by simp) (by simpa using q) (by simp) (by simp) (by simp),k3,k4,k5.mono (fun _ _ _ h=>h) (fun _=>Env.arP_of hpu (hA0 _)) fun b p ho=>⟨hkeep b _ ho (by simp) (by simp) (by simp) (by simp) (by simpa using q),rfl⟩⟩
 ·have hi:aget (delK j s.rw) i=none:=hi
  rw [delK_get] at hi
  by_cases q:i=j
  ·rw [q]; exact hrwj
  ·rw [if_neg q] at hi; rw [hrw i q]; exact hs.rwn i hi
 ·obtain ⟨b,f1,f2,ents,clock,f3,f4,f5⟩:=hs.mp i es hi
  exact ⟨b,by rw [hmp]; exact f1,hkeep b _ f2 (by simp) (by simp) (by simp) (by simp) (by simp),ents,clock,f3,f4,fun a e p he hp=>⟨(f5 a e p he hp).1,(f5 a e p he hp).2.monoE (hA0 _)⟩⟩
 ·rw [hmp]; exact hs.mpn i hi
 ·simp only [aget_cons] at hi
  split at hi
  ·rename_i e; subst e
   cases hi
   refine ⟨bs,by rw [har]; exact hbs,⟨by show bs.length=zs.length; rw [hz,List.length_set]; exact hok.n,hes,fun k2 x hx hh2=>?_,fun k2 c2 o2 l hx=>?_⟩⟩
   ·have hx:zs[k2]?=some x:=hx
    by_cases e:K=k2
    ·subst e
     rw [hz,List.getElem?_set_self (List.getElem?_eq_some_iff.1 hu).1] at hx
     cases hx
     refine ⟨blk,vs,g1,hoblk,⟨ty',hh⟩,hvl.trans hl,fun q u2 hu2=>?_⟩
     have hu2:(cs.set o (.own rj.ty rj.sz rj.k rj.xs))[q]?=some u2:=hu2
     have hq:=(List.getElem?_eq_some_iff.1 hu2).1
     rw [List.length_set] at hq
     have hv2:vs[q]?=some (vs[q]'(by omega)):=Array.getElem?_eq_getElem (by omega)
     refine ⟨_,hv2,?_⟩
     show RelC M (E'.arO ns0) w 6 i (K*r.sz+q) _ u2
     rw [List.getElem?_set] at hu2
     by_cases eo:o=q
     ·subst eo
      rw [if_pos rfl,if_pos hol] at hu2
      cases hu2
      have h1:=hrel o _ _ hv2 hcj
      obtain ⟨n,c0,a,q',e0,hq',_,himp⟩:=(Rel.cell h1).row_inv
      rw [hqj] at hq'; cases hq'
      obtain ⟨e1,e2,e3⟩:=himp (by rw [hvr,hokj.ver])
      rw [e0]
      have k1:=hokj.n
      have k2:=hokj.nc
      have k3:=hokj.cap
      have k4:=hokj.k
      refine RelC.own rj.ty rj.sz rj.k rj.xs a n c0 (by omega) (by omega) (by omega) hokj.es (by omega) ?_
      rcases hokj.blk with h0 | ⟨b2,vs2,f1,f2,f3,f4,f5⟩
      ·exact .inl (by omega)
      ·refine .inr ⟨b2,vs2,by rw [e1,f1],?_,f3,by rw [f4,e3,hokj.sz],fun jj u3 hu3=>cs_pure f5 hpj jj u3 hu3⟩
       show E'.own b2=_
       rw [hown,if_neg (fun z=>by rw [z,hob] at f2; cases f2),if_pos f2,hP]
     ·rw [if_neg eo] at hu2
      obtain ⟨hc1,hc2⟩:=hcell q u2 (fun z=>eo z.symm) hu2
      have h1:=hrel q _ _ hv2 hu2
      refine .rel (RelS.monoE ?_ (h1.keep hc2))
      exact ⟨fun i b e=>by simp [Env.keep,no] at e,fun i q e=>by simp [Env.keep,no] at e,fun i r e=>by simp [Env.keep,no] at e,fun i l e=>⟨[],by
       simp only [Env.keep] at e
       simp only [Env.arO,List.append_nil,har]; exact e⟩⟩
    ·rw [hz,List.getElem?_set_ne e] at hx
     obtain ⟨b2,vs2,f1,f2,f3,f4,f5⟩:=hok.el k2 x hx hh2
     have hxl:=hok.es x (List.mem_of_getElem? hx)
     refine ⟨b2,vs2,f1,hkeep b2 _ f2 (by simp) (by simp) (fun z=>by cases z; exact e rfl) (by simp) (by simp),f3,f4,fun jj u2 hu2=>?_⟩
     obtain ⟨v2,hv2,hr2⟩:=f5 jj u2 hu2
     have hjl:=(List.getElem?_eq_some_iff.1 hu2).1
     refine ⟨v2,hv2,?_⟩
     have hr2:RelC M (E.arO r.ns) w 6 i (k2*r.sz+jj) v2 u2:=hr2
     refine RelC.mono (fun _ _ _ h=>h) hAns (fun b hb=>⟨hkeep b _ hb (by simp) (by simp) (by simp) (fun z=>?_) (by simp),rfl⟩) hr2
     simp only [Prod.mk.injEq] at z
     exact far (fun q=>e q.symm) (by omega) (by omega) (z.2.2.trans hP)
   ·have hx:zs[k2]?=some (.agg (.ptr c2 o2::l)):=hx
    have:=hnh _ (List.mem_of_getElem? hx)
    cases this
  ·rename_i hne
   obtain ⟨bs2,f1,f2⟩:=hs.ar i r2 hi
   refine ⟨bs2,by rw [har]; exact f1,⟨f2.n,f2.es,fun k2 x hx hh2=>?_,fun k2 c2 o2 l hx=>?_⟩⟩
   ·obtain ⟨b2,vs2,k1,k3,k4,k5,k6⟩:=f2.el k2 x hx hh2
    exact ⟨b2,vs2,k1,hkeep b2 _ k3 (by simp) (by simp) (by simpa using fun z=>absurd z hne) (by simp) (by simp),k4,k5,k6.mono (fun _ _ _ h=>h) (fun _=>hA0 _) fun b p ho=>⟨hkeep b _ ho (by simp) (by simp) (by simp) (by simpa using fun z=>absurd z hne) (by simp),rfl⟩⟩
   ·have:=(f2.ho k2 c2 o2 l hx).1
    rw [hno i r2 hne hi] at this
    cases this
 ·simp only [aget_cons] at hi
  split at hi
  ·cases hi
  ·rw [har]; exact hs.arn i hi
 ·rw [hown] at ho'
  split at ho'
  ·rename_i e; rw [e]; exact hs.live blk _ hob
  ·split at ho'
   ·rename_i e; exact hs.live b _ e
   ·split at ho'
    ·cases ho'
    ·exact hs.live b _ ho'
 ·obtain ⟨f1,f2,f3⟩:=hs.foreign b hF
  refine ⟨f1,f2,?_⟩
  rw [hown,if_neg (fun e=>by rw [e,hob] at f3; cases f3),f3]
  simp [is5]
def otherCells (o:Nat):Nat→List AV→Bool
 | _,[]=>true
 | q,c::l=>match Nat.beq q o with
  | true=>otherCells o (q+1) l
  | false=>match c.isCell with
   | true=>otherCells o (q+1) l
   | false=>false
theorem otherCells_get {o:Nat}:∀ {l:List AV} {n q:Nat} {c:AV},otherCells o n l=true→n+q≠o→l[q]?=some c→c.isCell=true
 | [],_,_,_,_,_,h=>by cases h
 | d::l,n,q,c,hl,hq,h=>by
  simp only [otherCells] at hl
  cases q with
  | zero=>
   have:d=c:=by simpa using h
   subst this
   split at hl
   ·rename_i e; exact absurd (beq_true e) hq
   ·split at hl
    ·assumption
    ·cases hl
  | succ q=>
   have h:l[q]?=some c:=by simpa using h
   have hq:n+1+q≠o:=by omega
   split at hl
   ·exact otherCells_get hl hq h
   ·split at hl
    ·exact otherCells_get hl hq h
    ·cases hl
def otherOk (ns:List Nat) (o:Nat):Nat→List AV→Bool
 | _,[]=>true
 | q,c::l=>match Nat.beq q o with
  | true=>otherOk ns o (q+1) l
  | false=>match c.okIn no no no (fun i=>memN i ns) with
   | true=>otherOk ns o (q+1) l
   | false=>false
theorem otherOk_get {ns:List Nat} {o:Nat}:∀ {l:List AV} {n q:Nat} {c:AV},otherOk ns o n l=true→n+q≠o→l[q]?=some c→c.okIn no no no (fun i=>memN i ns)=true
 | [],_,_,_,_,_,h=>by cases h
 | d::l,n,q,c,hl,hq,h=>by
  simp only [otherOk] at hl
  cases q with
  | zero=>
   have:d=c:=by simpa using h
   subst this
   split at hl
   ·rename_i e; exact absurd (beq_true e) hq
   ·split at hl
    ·assumption
    ·cases hl
  | succ q=>
   have h:l[q]?=some c:=by simpa using h
   have hq:n+1+q≠o:=by omega
   split at hl
   ·exact otherOk_get hl hq h
   ·split at hl
    ·exact otherOk_get hl hq h
    ·cases hl
def reptr (c:Nat):List Nat→List (Nat×AV)→List (Nat×AV)
 | [],fr=>fr
 | i::l,fr=>(i,.ptr c 0)::reptr c l fr
theorem reptr_get (c:Nat):∀ (l:List Nat) (fr:List (Nat×AV)) (i:Nat),aget (reptr c l fr) i=if memN i l=true then some (.ptr c 0) else aget fr i
 | [],fr,i=>by simp [reptr,memN]
 | j::l,fr,i=>by
  have ih:=reptr_get c l fr i
  have hm:memN i (j::l)=(Nat.beq i j||memN i l):=by
   simp only [memN]
   cases Nat.beq i j <;> rfl
  rw [reptr,aget_cons,ih,hm]
  by_cases e:i=j
  ·subst e
   rw [if_pos rfl,if_pos (by simp)]
  ·rw [if_neg e]
   have:Nat.beq i j=false:=by
    cases q:Nat.beq i j with
    | true=>exact absurd (beq_true q) e
    | false=>rfl
   simp only [this,Bool.false_or]
theorem AllP_map {P:Nat→Prop}:∀ {l:List Nat},AllP (l.map P)→∀ i,memN i l=true→P i
 | [],_,i,hi=>by cases hi
 | j::l,h,i,hi=>by
  simp only [memN] at hi
  split at hi
  ·rename_i e; rw [beq_true e]; exact h.1
  ·exact AllP_map h.2 i hi
def gTake (A K o c j:Nat) (fl:List Nat) (u:AV) (s:S):Option (List Prop×List (Bool×Bool)×S):=
 match aget s.ar A with
 | some r=>match u with
  | .agg cs=>match cs[o]? with
   | some (.own ty sz kk ys)=>match otherCells o 0 cs&&(!u.isHole&&(Nat.blt c nB&&(Nat.blt j nB&&(!hasKey s.bx c&&(!hasKey s.rw j&&Nat.ble 1 r.sz))))) with
    | true=>some ([r.xs[K]?=some u]++fl.map (fun i=>aget s.fr i=some (.aptr A K 0)),[],{ s with fr:=reptr c fl s.fr,bx:=(c,cs.set o (.row j 0))::s.bx,rw:=(j,⟨ty,sz,0,kk,0,false,0,[],ys⟩)::s.rw,ar:=(A,{ r with ns:=7::r.ns,xs:=r.xs.set K (hole c (r.sz - 1)) })::s.ar })
    | false=>none
   | _=>none
  | _=>none
 | none=>none
theorem L_take {C:Cx} {k:List It} {s:S} (A K o c j:Nat) (fl:List Nat) {u:AV} {gs:List Prop} (hg:HL gs) (h:outG (gTake A K o c j fl u s)=some (gs,[]):=by kernel_rfl) (hk:Wk C k (nxt (gTake A K o c j fl u s))):Wk C k s:=by
 refine L_G (fun gs es t hf hg {M} {E} {tmps} {w} hs=>?_) hg h hk
 unfold gTake at hf
 split at hf
 case h_2=>cases hf
 rename_i r hA
 split at hf
 case h_2=>cases hf
 rename_i cs
 split at hf
 case h_2=>cases hf
 rename_i ty sz kk ys hown
 split at hf
 case h_2=>cases hf
 rename_i hb
 cases hf
 simp only [Bool.and_eq_true,Bool.not_eq_true'] at hb
 obtain ⟨b1,b2,b3,b4,b5,b6,b7⟩:=hb
 have nk:∀ {α:Type} {l:List (Nat×α)} {i:Nat},hasKey l i=false→aget l i=none:=fun {α l i} h=>by
  cases hh:aget l i with
  | none=>rfl
  | some v=>rw [hasKey_some hh] at h; cases h
 obtain ⟨E',hup,hs',hp⟩:=hs.take (K:=K) (c:=c) (j:=j) hA hg.1 b2 hown (fun q c' hq hc'=>otherCells_get b1 (by omega) hc') (nk b5) (Nat.le_of_ble_eq_true b3) (nk b6) (Nat.le_of_ble_eq_true b4) (Nat.le_of_ble_eq_true b7)
 refine ⟨M,E',hup,{ hs' with fr:=fun i x hi=>?_ }⟩
 have hi:aget (reptr c fl s.fr) i=some x:=hi
 rw [reptr_get] at hi
 split at hi
 ·rename_i hm
  cases hi
  obtain ⟨f1,f2⟩:=hs.fr i _ (AllP_map hg.2 i hm)
  exact ⟨f1,hp _ 0 f2⟩
 ·exact hs'.fr i x hi
def gPut (A K o c:Nat) (fl fs:List Nat) (zs:List AV) (s:S):Option (List Prop×List (Bool×Bool)×S):=
 match aget s.ar A with
 | some r=>match aget s.bx c with
  | some cs=>match cs[o]? with
   | some (.row j vr)=>match aget s.rw j with
    | some rj=>match r.ns with
     | 7::ns0=>match selF fs s.fr with
      | some f=>match Nat.beq vr rj.ver&&(Nat.beq rj.pu 0&&(otherCells o 0 cs&&(otherOk ns0 o 0 cs&&(Nat.beq cs.length r.sz&&(!memN 7 ns0&&(!hasKey s.ar 7&&(okF (AV.okIn (neq c) (neq j) yes yes) f&&(okB (AV.okInL (neq c) (neq j) yes yes) (delK c s.bx)&&(p2R (delK j s.rw)&&noH (delK A s.ar)))))))))) with
       | true=>some ([∃ m,r.xs[K]?=some (hole c m),zs=r.xs.set K (.agg (cs.set o (.own rj.ty rj.sz rj.k rj.xs))),∀ x∈zs,x.isHole=false]++fl.map (fun i=>aget s.fr i=some (.ptr c 0)),[],⟨fl.map (fun i=>(i,.aptr A K 0))++f,delK c s.bx,delK j s.rw,s.mp,(A,{ r with ns:=ns0,xs:=zs })::s.ar⟩)
       | false=>none
      | none=>none
     | _=>none
    | none=>none
   | _=>none
  | none=>none
 | none=>none
theorem map_get (x:AV):∀ (l:List Nat) (i:Nat) (y:AV),aget (l.map fun i=>(i,x)) i=some y→y=x∧memN i l=true
 | [],i,y,h=>by cases h
 | j::l,i,y,h=>by
  simp only [List.map_cons,aget_cons] at h
  split at h
  ·rename_i e; subst e; cases h; exact ⟨rfl,by simp [memN]⟩
  ·obtain ⟨h1,h2⟩:=map_get x l i y h
   refine ⟨h1,?_⟩
   simp only [memN]
   split
   ·rfl
   ·exact h2
theorem L_put {C:Cx} {k:List It} {s:S} (A K o c:Nat) (fl fs:List Nat) {zs:List AV} {gs:List Prop} (hg:HL gs) (h:outG (gPut A K o c fl fs zs s)=some (gs,[]):=by kernel_rfl) (hk:Wk C k (nxt (gPut A K o c fl fs zs s))):Wk C k s:=by
 cases hf:gPut A K o c fl fs zs s with
 | none=>rw [hf] at h; cases h
 | some p=>
 obtain ⟨gs',es,t⟩:=p
 rw [hf] at h hk
 simp only [outG,Option.some.injEq,Prod.mk.injEq] at h
 obtain ⟨rfl,_⟩:=h
 intro a w ⟨hd,M,E,hs,hp⟩
 have hg:=hg.all
 unfold gPut at hf
 split at hf
 case h_2=>cases hf
 rename_i r hA
 split at hf
 case h_2=>cases hf
 rename_i cs hc
 split at hf
 case h_2=>cases hf
 rename_i j vr hcj
 split at hf
 case h_2=>cases hf
 rename_i rj hj
 split at hf
 case h_2=>cases hf
 rename_i ns0 hns
 split at hf
 case h_2=>cases hf
 rename_i f hsf
 split at hf
 case h_2=>cases hf
 rename_i hb
 cases hf
 simp only [Bool.and_eq_true,Bool.not_eq_true'] at hb
 obtain ⟨b1,b2,b3,b4,b5,b6,b7,b8,b9,b10,b11⟩:=hb
 have nk:∀ {α:Type} {l:List (Nat×α)} {i:Nat},hasKey l i=false→aget l i=none:=fun {α l i} h=>by
  cases hh:aget l i with
  | none=>rfl
  | some v=>rw [hasKey_some hh] at h; cases h
 obtain ⟨⟨m,g1⟩,g2,g3,g4⟩:=hg
 have g4:=AllP_map g4
 obtain ⟨E',hp',hs'⟩:=hs.putBack (K:=K) (ns0:=ns0) hA g1 hc hcj hj (beq_true b1) (beq_true b2) (fun q c' hq hc'=>⟨otherCells_get b3 (by omega) hc',otherOk_get b4 (by omega) hc'⟩) (beq_true b5) g2 g3 (fun i hi=>by
   rw [hns] at hi
   simp only [memN] at hi
   split at hi
   ·rename_i e; exact .inr (beq_true e)
   ·exact .inl hi) (fun i hi=>by
   rw [hns]
   simp only [memN]
   split
   ·rfl
   ·exact hi) (nk b7) (fun i r2 hne hi=>noH_get b11 (by rw [delK_get,if_neg hne]; exact hi)) (fr':=fl.map (fun i=>(i,.aptr A K 0))++f) (fun i x hi=>by
   rw [aget_append] at hi
   split at hi
   ·rename_i v e
    cases hi
    obtain ⟨e1,e2⟩:=map_get _ fl i _ e
    exact .inl ⟨e1,g4 i e2⟩
   ·exact .inr ⟨selF_get hsf hi,okF_get b8 hi⟩) b9 b10 _ hp
 exact hk a w ⟨hd,M,E',hs',hp'⟩
def is6 (i:Nat):Option (Nat×Nat×Nat)→Bool
 | some (k,j,_)=>k == 6&&j == i
 | none=>false
theorem is6_iff {i:Nat} {o:Option (Nat×Nat×Nat)}:is6 i o=true↔∃ p,o=some (6,i,p):=by
 cases o with
 | none=>simp [is6]
 | some o=>
  obtain ⟨k,j,p⟩:=o
  simp only [is6,Bool.and_eq_true,beq_iff_eq,Option.some.injEq,Prod.mk.injEq]
  constructor
  ·rintro ⟨rfl,rfl⟩; exact ⟨p,rfl,rfl,rfl⟩
  ·rintro ⟨_,rfl,rfl,_⟩; exact ⟨rfl,rfl⟩
def Env.un6 (E:Env) (i:Nat):Env:={ E with own:=fun b=>if is6 i (E.own b)=true then Option.none else E.own b }
theorem un6_le (E:Env) (i:Nat):E.le (E.un6 i):=⟨fun _ _ h=>h,fun _ q h=>⟨q,h,Nat.le_refl _,fun _=>⟨rfl,rfl,rfl,rfl⟩⟩,fun _ _ h=>h,fun _ bs h=>⟨[],by simpa [Env.un6] using h⟩⟩
theorem un6_up (E:Env) (i:Nat):E.up (E.un6 i):=⟨un6_le E i,fun E0 hp=>⟨hp.bx,hp.rw,hp.mp,hp.ar⟩⟩
theorem un6_other {E:Env} {i b:Nat} {o:Nat×Nat×Nat} (h:E.own b=some o) (hn:¬ (o.1=6∧o.2.1=i)):(E.un6 i).own b=some o:=by
 show (if is6 i (E.own b)=true then none else E.own b)=some o
 rw [if_neg,h]
 intro h5
 obtain ⟨p,hp⟩:=is6_iff.1 h5
 rw [h] at hp; cases hp
 exact hn ⟨rfl,rfl⟩
theorem un6_some {E:Env} {i b:Nat} {o:Nat×Nat×Nat} (h:(E.un6 i).own b=some o):E.own b=some o∧is6 i (E.own b)=false:=by
 have h:(if is6 i (E.own b)=true then none else E.own b)=some o:=h
 split at h
 ·cases h
 ·rename_i hn; exact ⟨h,by simpa using hn⟩
theorem St.freezeA (hs:St g N M E s tmps w) {i:Nat} {r:Arn} (hr:aget s.ar i=some r) (hokc:∀ x∈r.xs,x.cells.all okc=true) :
  ∃ M',(∀ b j v,M b j=some v→M' b j=some v)∧St g N M' (E.un6 i) { s with ar:=(i,{ r with xs:=r.xs.map frz })::s.ar } tmps w:=by
 let M':Mem:=fun b j=>if is6 i (E.own b)=true then w.cell? ⟨b,j,none⟩ else M b j
 have hM:∀ b j v,M b j=some v→M' b j=some v:=fun b j v h=>by
  show (if is6 i (E.own b)=true then w.cell? ⟨b,j,none⟩ else M b j)=some v
  split
  ·exact (hs.mem b j v h).1
  ·exact h
 have hE:=un6_le E i
 obtain ⟨bs,hq,hok⟩:=hs.ar i r hr
 have hnoh:∀ x∈r.xs,x.isHole=false:=fun x hx=>by
  have h1:=hokc x hx
  cases x with
  | agg cs=>
   cases cs with
   | nil=>rfl
   | cons c l=>cases c <;> first | rfl | (simp [AV.cells,okc,AV.isP] at h1)
  | _=>rfl
 have hnew:ArOk M' (E.un6 i) w i bs { r with xs:=r.xs.map frz }:=by
  refine ⟨by simpa using hok.n,fun x hx=>?_,fun k x hx hh=>?_,fun k c o l hx=>?_⟩
  ·obtain ⟨y,hy,rfl⟩:=List.mem_map.1 hx
   rw [frz_cells,List.length_map]; exact hok.es y hy
  ·have hx:(r.xs.map frz)[k]?=some x:=hx
   rw [List.getElem?_map,Option.map_eq_some_iff] at hx
   obtain ⟨y,hy,rfl⟩:=hx
   have hym:=List.mem_of_getElem? hy
   obtain ⟨b,vs,g1,g2,g3,g4,g5⟩:=hok.el k y hy (hnoh y hym)
   refine ⟨b,vs,g1,un6_other g2 (by simp),g3,g4,fun p u hu=>?_⟩
   rw [frz_cells,List.getElem?_map,Option.map_eq_some_iff] at hu
   obtain ⟨c,hc,rfl⟩:=hu
   obtain ⟨v,hv,hrel⟩:=g5 p c hc
   refine ⟨v,hv,?_⟩
   suffices h:RelP M' v (frc c) from RelC.rel (.pure h)
   have hcc:okc c=true:=List.all_eq_true.1 (hokc y hym) c (List.mem_of_getElem? hc)
   by_cases hP:c.isP=true
   ·have hfc:frc c=c:=by cases c <;> first | rfl | cases hP
    have hcell:c.isCell=true:=by cases c <;> first | rfl | cases hP
    rw [hfc]
    exact (isP_rel hP (cR.cell (pu:=2) hrel hcell)).mono hM
   ·cases c with
    | own ty sz kk ys=>
     have hrel:RelC M (E.arO r.ns) w 6 i (k*r.sz+p) v (.own ty sz kk ys):=hrel
     cases hrel with
     | rel h=>cases h with
      | pure h=>cases h
     | own _ _ _ _ a n c hn hnc hm hz hk hb=>
      subst hn
      rcases hb with h0 | ⟨b2,vs2,e1,e2,e3,e4,e5⟩
      ·have hy:ys=[]:=List.eq_nil_of_length_eq_zero (by omega)
       refine .sl a _ c sz ys (fun _=>undef) rfl hnc hm hz (fun h=>absurd hy h) (fun j u hu=>?_)
       rw [hy] at hu; simp [flat] at hu
      ·have e2:E.own b2=some (6,i,k*r.sz+p):=e2
       refine .sl a _ c sz ys (fun j=>vs2.getD j undef) rfl hnc hm hz (fun _=>⟨b2,0,e1,fun j hj=>?_⟩) (fun j u hu=>?_)
       ·obtain ⟨v2,hv2,_⟩:=e5 j _ (List.getElem?_eq_getElem hj)
        show (if is6 i (E.own b2)=true then w.cell? ⟨b2,0+j,none⟩ else M b2 (0+j))=_
        rw [if_pos (is6_iff.2 ⟨_,e2⟩),Nat.zero_add,cell_of_row w b2 j vs2 ty (0,0) e3,hv2]
        simp [Array.getD_eq_getD_getElem?,hv2]
       ·obtain ⟨v2,hv2,hr2⟩:=e5 j u hu
        simp only [Array.getD_eq_getD_getElem?,hv2,Option.getD_some]
        exact hr2.mono hM
    | _=>exact absurd hcc hP
  ·have hx:(r.xs.map frz)[k]?=some (.agg (.ptr c o::l)):=hx
   rw [List.getElem?_map,Option.map_eq_some_iff] at hx
   obtain ⟨y,hy,e⟩:=hx
   have h1:=hokc y (List.mem_of_getElem? hy)
   have e2:(frz y).cells = .ptr c o::l:=by rw [e]; rfl
   rw [frz_cells] at e2
   cases hyc:y.cells with
   | nil=>rw [hyc] at e2; cases e2
   | cons d m=>
    rw [hyc] at e2 h1
    simp only [List.map_cons,List.cons.injEq] at e2
    simp only [List.all_cons,Bool.and_eq_true] at h1
    obtain ⟨e3,_⟩:=e2
    obtain ⟨h2,_⟩:=h1
    cases d <;> simp [frc,okc,AV.isP] at e3 h2
 refine ⟨M',hM,?_⟩
 refine {
  size:=hs.size
  fr:=fun n av hn=>⟨(hs.fr n av hn).1,(hs.fr n av hn).2.mono hM hE⟩
  mem:=fun b j v h=>?_
  bx:=fun n cs hn=>?_
  bxn:=hs.bxn
  rw:=fun n r2 hn=>?_
  rwn:=hs.rwn
  mp:=fun n es hn=>?_
  mpn:=hs.mpn
  ar:=fun n r2 hn=>?_
  arn:=fun n hn=>?_
  live:=fun b o h=>hs.live b o (un6_some h).1
  foreign:=fun b h=>?_
  m0:=fun b j v h=>hM b j v (hs.m0 b j v h)
  mf:=fun b j v h hF=>?_
  os:=hs.os
  tape:=hs.tape
  output:=hs.output
  grow:=hs.grow }
 ·have h:(if is6 i (E.own b)=true then w.cell? ⟨b,j,none⟩ else M b j)=some v:=h
  split at h
  ·rename_i h5
   refine ⟨h,fun o ho=>?_⟩
   have:=(un6_some ho).2
   rw [h5] at this; cases this
  ·obtain ⟨h1,h2⟩:=hs.mem b j v h
   refine ⟨h1,fun o ho=>?_⟩
   obtain ⟨ho1,ho2⟩:=un6_some ho
   have:=h2 o ho1
   obtain ⟨kd,j',p⟩:=o
   by_cases hj:j'=i
   ·subst hj
    have h5:kd≠6:=by
     rintro rfl
     rw [is6_iff.2 ⟨p,ho1⟩] at ho2; cases ho2
    simp only [sealN,h5,if_false] at this ⊢
    exact this
   ·simp only [sealN,aget_cons,if_neg hj] at this ⊢; exact this
 ·obtain ⟨b,h1,h2,t,vs,h3,h4,h5⟩:=hs.bx n cs hn
  exact ⟨b,h1,un6_other h2 (by simp),t,vs,h3,h4,fun j v c hv hc=>(h5 j v c hv hc).mono hM hE⟩
 ·obtain ⟨q2,h1,hok2⟩:=hs.rw n r2 hn
  exact ⟨q2,h1,hok2.mono hM hE (fun b h=>⟨un6_other h (by simp),rfl⟩) (fun b j h=>⟨un6_other h (by simp),rfl⟩)⟩
 ·obtain ⟨r2,h1,h2,ents,clock,h3,h4,h5⟩:=hs.mp n es hn
  exact ⟨r2,h1,un6_other h2 (by simp),ents,clock,h3,h4,fun j e p he hp=>⟨(h5 j e p he hp).1.mono hM,((h5 j e p he hp).2.monoM hM).monoE (Env.arO_le hE _)⟩⟩
 ·simp only [aget_cons] at hn
  split at hn
  ·rename_i e; subst e; cases hn
   exact ⟨bs,hq,hnew⟩
  ·rename_i hne
   obtain ⟨bs2,h1,hok2⟩:=hs.ar n r2 hn
   exact ⟨bs2,h1,hok2.mono hM hE (fun b j h=>⟨un6_other h (by simp),rfl⟩) (fun b j h=>⟨un6_other h (by simpa using hne),rfl⟩)⟩
 ·simp only [aget_cons] at hn
  split at hn
  ·cases hn
  ·exact hs.arn n hn
 ·obtain ⟨h1,h2,h3⟩:=hs.foreign b h
  refine ⟨h1,h2,?_⟩
  show (if is6 i (E.own b)=true then none else E.own b)=none
  rw [h3]; simp
 ·have h:(if is6 i (E.own b)=true then w.cell? ⟨b,j,none⟩ else M b j)=some v:=h
  rw [(hs.foreign b hF).2.2] at h
  simp only [is6,Bool.false_eq_true,if_false] at h
  exact hs.mf b j v h hF
def gFreezeA (i:Nat) (zs:List AV) (s:S):Option (List Prop×List (Bool×Bool)×S):=
 match aget s.ar i with
 | some r=>some ([∀ x∈r.xs,x.cells.all okc=true,zs=r.xs.map frz],[],{ s with ar:=(i,{ r with xs:=zs })::s.ar })
 | none=>none
theorem L_freezeA {C:Cx} {k:List It} {s:S} (i:Nat) {zs:List AV} {gs:List Prop} (hg:HL gs) (h:outG (gFreezeA i zs s)=some (gs,[]):=by kernel_rfl) (hk:Wk C k (nxt (gFreezeA i zs s))):Wk C k s:=by
 refine L_G (fun gs es t hf hg {M} {E} {tmps} {w} hs=>?_) hg h hk
 unfold gFreezeA at hf
 split at hf
 ·rename_i r hr
  cases hf
  obtain ⟨hoc,hz,_⟩:=hg
  subst hz
  obtain ⟨M',hM,hs'⟩:=hs.freezeA hr hoc
  exact ⟨M',_,un6_up E i,hs'⟩
 ·cases hf
theorem nhL {α:Type} {f:α→AV} (h:∀ a,(f a).isHole=false) (l:List α):∀ x∈l.map f,x.isHole=false:=fun x hx=>by
 obtain ⟨a,_,rfl⟩:=List.mem_map.1 hx
 exact h a
end
end Go.Dm
