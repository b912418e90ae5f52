/- The plain law. -/
import Derived.Test.YthiighaapaomcaaPAll0
namespace Go.Proofs.Ythiighaapaomcaa
open Go Go.Dm
set_option linter.unusedVariables false
set_option linter.unusedSimpArgs false
set_option linter.unusedSectionVars false
namespace G
theorem loop_inv {σ ρ:Type} {step:σ→Option (σ⊕ρ)} {R:ρ→Prop} (n:Nat) (I:Nat→σ→Prop) (h:∀ k s,k<n→I k s→∃ s',step s=some (.inl s')∧I (k+1) s') (he:∀ s,I n s→∃ r,step s=some (.inr r)∧R r):∀ (m k:Nat) (s:σ),k+m=n→I k s→∃ r,loopO step s=some r∧R r
 | 0,k,s,hk,hi=>by
  have:k=n:=by omega
  subst this
  obtain ⟨r,h1,h2⟩:=he s hi
  exact ⟨r,loopO_inr h1,h2⟩
 | m+1,k,s,hk,hi=>by
  obtain ⟨s',h1,h2⟩:=h k s (by omega) hi
  rw [loopO_inl h1]
  exact loop_inv n I h he m (k+1) s' (by omega) h2
theorem mget_mem {κ ν:Type} [DecidableEq κ] {l:List (κ×ν)} {k:κ} {v:ν} (h:mget l k=some v):(k,v)∈l:=by
 induction l with
 | nil=>cases h
 | cons p l ih=>
  rw [mget] at h
  by_cases c:p.1=k
  ·rw [if_pos c] at h; cases h; subst c; exact List.mem_cons_self
  ·rw [if_neg c] at h; exact List.mem_cons_of_mem _ (ih h)
theorem mem_mput {κ ν:Type} [DecidableEq κ] {l:List (κ×ν)} {k:κ} {v:ν} {q:κ×ν} (h:q∈mput l k v):q=(k,v)∨q∈l:=by
 induction l with
 | nil=>simp [mput] at h; exact .inl h
 | cons p l ih=>
  rw [mput] at h
  by_cases c:p.1=k
  ·rw [if_pos c] at h
   rcases List.mem_cons.1 h with h | h
   ·exact .inl h
   ·exact .inr (List.mem_cons_of_mem _ h)
  ·rw [if_neg c] at h
   rcases List.mem_cons.1 h with h | h
   ·exact .inr (by rw [h]; exact List.mem_cons_self)
   ·rcases ih h with h | h
    ·exact .inl h
    ·exact .inr (List.mem_cons_of_mem _ h)
theorem Cm.gl {n:Nat} {G H:Gh} (g:Gl G H) {T:Int} {k:Nat} (h:Cm n G T k):Cm n H T k:=by
 obtain ⟨_,_,_,g1,g2,g3,_⟩:=g
 obtain ⟨h0,⟨e,h1,h2⟩,Q,q1,q2,q3⟩:=h
 exact ⟨h0,⟨e,pre_get (g2 T) h1,h2⟩,Q,q1,q2,fun j hj=>⟨(q3 j hj).1,Nat.le_trans (q3 j hj).2 (g3 j T)⟩⟩
structure LI (n:Nat) (G:Gh) (a:List (Int×Int)) (b:List (Int×List Entry)) (c:List (Int×goodAt)):Prop where
 le:∀ T i,mget a T=some i→∃ l,G.el T=some (i,l)
 lo:∀ q∈b,∃ i l,G.el q.1=some (i,l)∧l <+: q.2
 kn:∀ q∈c,0≤q.1∧∃ T,T≤q.2.term∧∃ k:Nat,q.1<(k:Int)∧Cm n G T k∧(G.ll T)[q.1.toNat]?=some q.2.e
theorem LI.gl {n:Nat} {G H:Gh} (g:Gl G H) {a b c} (h:LI n G a b c):LI n H a b c:=by
 have g':=g
 obtain ⟨_,_,_,g1,g2,g3,_⟩:=g'
 refine ⟨fun T i hi=>?_,fun q hq=>?_,fun q hq=>?_⟩
 ·obtain ⟨l,hl⟩:=h.le T i hi
  exact ⟨l,g1 _ _ hl⟩
 ·obtain ⟨i,l,h1,h2⟩:=h.lo q hq
  exact ⟨i,l,g1 _ _ h1,h2⟩
 ·obtain ⟨h0,T,h1,k,h2,h3,h4⟩:=h.kn q hq
  exact ⟨h0,T,h1,k,h2,h3.gl g,pre_get (g2 T) h4⟩
section
variable {n:Nat} {G:Gh}
theorem KN.at {T0:Int} {l:Log} {c:Int} (h:KN n G T0 l c) {p:Nat} (hp:(p:Int)<c):∃ T,T≤T0∧∃ k:Nat,(p:Int)<(k:Int)∧Cm n G T k∧(G.ll T)[p]?=l[p]?:=by
 obtain ⟨h1,h2,h3⟩:=h
 rcases h3 with h3 | ⟨T,t1,k,t2,t3,t4⟩
 ·omega
 ·refine ⟨T,t1,k,by omega,t3,?_⟩
  have hl:p<l.length:=by omega
  have:(l.take c.toNat)[p]?=some l[p]:=by rw [List.getElem?_take,if_pos (by omega),List.getElem?_eq_getElem hl]
  rw [pre_get t4 this,List.getElem?_eq_getElem hl]
theorem KN.of {T:Int} {k:Nat} (hc:Cm n G T k) {p:Nat} (hp:p<k):KN n G T ((G.ll T).take (p+1)) ((p:Int)+1):=by
 have hkl:k≤(G.ll T).length:=by obtain ⟨k0,⟨e,he,_⟩,_⟩:=hc; have:=(List.getElem?_eq_some_iff.1 he).1; omega
 refine ⟨by omega,by rw [List.length_take]; omega,.inr ⟨T,Int.le_refl _,k,by omega,hc,?_⟩⟩
 exact (List.take_prefix _ _).trans (List.take_prefix _ _)
theorem KN.less {T0:Int} {l:Log} {c d:Int} (h:KN n G T0 l c) (h0:0≤d) (hd:d≤c):KN n G T0 l d:=by
 obtain ⟨h1,h2,h3⟩:=h
 refine ⟨h0,by omega,?_⟩
 rcases h3 with h3 | ⟨T,t1,k,t2,t3,t4⟩
 ·exact .inl (by omega)
 ·refine .inr ⟨T,t1,k,by omega,t3,?_⟩
  have:l.take d.toNat=(l.take c.toNat).take d.toNat:=by rw [List.take_take,Nat.min_eq_left (by omega)]
  rw [this]
  exact (List.take_prefix _ _).trans t4
theorem known_same (hG:GG n G) {a b c} (h:LI n G a b c) {q:Int×goodAt} (hq:q∈c) {T0:Int} {l:Log} {d:Int} (hk:KN n G T0 l d) (hp:q.1<d):l[q.1.toNat]?=some q.2.e:=by
 obtain ⟨h0,T,h1,k,h2,h3,h4⟩:=h.kn q hq
 obtain ⟨p,hpp⟩:∃ p:Nat,q.1=(p:Int):=⟨q.1.toNat,by omega⟩
 rw [hpp] at h2 h4 hp ⊢
 rw [Int.toNat_natCast] at h4 ⊢
 have k1:=KN.of h3 (p:=p) (by omega)
 have k2:=hk.less (d:=(p:Int)+1) (by omega) (by omega)
 have two:=KN.two hG k1 k2 (Int.le_refl _)
 have e1:(((G.ll T).take (p+1)).take ((p:Int)+1).toNat)[p]?=some q.2.e:=by
  rw [List.getElem?_take,if_pos (by omega),List.getElem?_take,if_pos (by omega),h4]
 have e2:=pre_get two e1
 rw [List.getElem?_take,if_pos (by omega)] at e2
 exact e2
theorem fin_M2 (hG:GG n G) {a b c} (h:LI n G a b c) {p:Int×List Entry} (hp:p∈b) {q:Int×goodAt} (hq:q∈c):law_ClanAgrees_M2 p q=some (Sum.inl ()):=by
 obtain ⟨h0,T,h1,k,h2,h3,h4⟩:=h.kn q hq
 obtain ⟨i,l,l1,l2⟩:=h.lo p hp
 unfold law_ClanAgrees_M2
 rw [asrt_pos (fun c1 _=>by simp at c1; omega)]
 by_cases c1:q.2.term<p.1
 ·have hl:=lead_has hG h3 p.1.toNat p.1 i l (by have:=(hG.el1 _ _ _ l1).1; omega) (by omega) l1
  have e1:((G.ll T).take k)[q.1.toNat]?=some q.2.e:=by rw [List.getElem?_take,if_pos (by omega)]; exact h4
  have e2:=pre_get l2 (pre_get hl e1)
  have hlt:=(List.getElem?_eq_some_iff.1 e2).1
  have e3:lget p.2 q.1=q.2.e:=by simp [lget,List.getD,e2]
  rw [if_neg]
  rw [e3]
  simp
  omega
 ·rw [if_neg]
  simp
  omega
theorem fin_J1 (hG:GG n G) {a b c} (h:LI n G a b c):law_ClanAgrees_J1 (b,c)=some true:=by
 unfold law_ClanAgrees_J1
 rw [asrt_pos]
 intro p hp
 unfold law_ClanAgrees_M3
 rw [asrt_pos (fun q hq=>fin_M2 hG h hp hq)]
end
section
variable {n:Nat} {G:Gh} {x2:Clan×Fault}
theorem pair_L4 {v3:(List (Int×Int))×(List (Int×List Entry))×(List (Int×goodAt))×Int} {i j:Int} (hi:v3.2.2.2=i) (hj:0≤j∧j<100)
  (h1:LM G (lget x2.1.Nodes i).Log) (h2:LM G (lget x2.1.Nodes j).Log) (l1:(lget x2.1.Nodes i).Log.length≤10000) (l2:(lget x2.1.Nodes j).Log.length≤10000) :
  ∀ m:Nat,m≤(lget x2.1.Nodes i).Log.length→m≤(lget x2.1.Nodes j).Log.length→law_ClanAgrees_L4 x2 v3 j (m:Int)=some (.inl (j+1))
 | 0,_,_=>by
  have hw:w64 (j+1)=j+1:=w64_id (by omega) (by omega)
  refine loopO_inr ?_
  show law_ClanAgrees_B4 x2 v3 j ((0:Nat):Int)=_
  unfold law_ClanAgrees_B4
  rw [if_neg (d_f (by omega))]
  unfold law_ClanAgrees_J8
  rw [if_neg (by decide),hw]; rfl
 | m+1,a1,a2=>by
  have hwj:w64 (j+1)=j+1:=w64_id (by omega) (by omega)
  have hw:w64 (((m+1:Nat):Int) - 1)=(m:Int):=by rw [w64_id (by omega) (by omega)]; omega
  by_cases c:(lget (lget x2.1.Nodes i).Log (m:Int)).Term=(lget (lget x2.1.Nodes j).Log (m:Int)).Term
  ·refine loopO_inr ?_
   show law_ClanAgrees_B4 x2 v3 j ((m+1:Nat):Int)=_
   unfold law_ClanAgrees_B4
   rw [hi,hw,if_pos (d_t (by omega)),asrt_pos (by omega),asrt_pos (by omega),if_pos (d_t c),asrt_pos (by omega),asrt_pos (by omega)]
   have hs:=LM.same h1 h2 (lget_some (by omega)) (lget_some (by omega)) c
   have e:ltake (lget x2.1.Nodes j).Log ((m+1:Nat):Int)=ltake (lget x2.1.Nodes i).Log ((m+1:Nat):Int):=by
    unfold ltake
    rw [Int.toNat_natCast]; exact hs.symm
   rw [e,slog_self _ (by unfold ltake; rw [List.length_take]; omega),ob_some]
   unfold law_ClanAgrees_J8
   rw [if_neg (by decide),hwj]; rfl
  ·refine (loopO_inl (y:=(m:Int)) ?_).trans (pair_L4 hi hj h1 h2 l1 l2 m (by omega) (by omega))
   show law_ClanAgrees_B4 x2 v3 j ((m+1:Nat):Int)=_
   unfold law_ClanAgrees_B4
   rw [hi,hw,if_pos (d_t (by omega)),asrt_pos (by omega),asrt_pos (by omega),if_neg (d_f c)]
variable {way:List Mail} (hri:RI n G x2.1.Nodes way) (hgi:GI n x2.1.Nodes way)
include hri hgi
theorem log_len {i:Int} (hi:isN n i):(lget x2.1.Nodes i).Log.length≤10000:=by
 have:=(hgi.at hi).1.len
 omega
theorem pairs_L3 {v3:(List (Int×Int))×(List (Int×List Entry))×(List (Int×goodAt))×Int} {i:Nat} (hi:v3.2.2.2=(i:Int)) (hin:i<n) (v4:(List (Int×Int))×(List (Int×List Entry))) (v5:List (Int×goodAt)) :
  law_ClanAgrees_L3 x2 v3 v4 v5 0=some (.inl (v4.1,v4.2,v5,((i+1:Nat):Int))):=by
 have h7:=hgi.h7
 have hlen:=hgi.len
 refine loop_run (step:=fun y=>law_ClanAgrees_B3 x2 v3 v4 v5 y) i (fun k=>(k:Int)) (fun k hk=>?_) ?_
 ·show law_ClanAgrees_B3 x2 v3 v4 v5 (k:Int)=_
  unfold law_ClanAgrees_B3
  have hI:isN n (i:Int):=by unfold isN; omega
  have hK:isN n (k:Int):=by unfold isN; omega
  have e:min ((lget x2.1.Nodes (i:Int)).Log.length:Int) ((lget x2.1.Nodes (k:Int)).Log.length:Int)=((min (lget x2.1.Nodes (i:Int)).Log.length (lget x2.1.Nodes (k:Int)).Log.length:Nat):Int):=by omega
  dsimp only [lt]
  rw [hi,if_pos (d_t (by omega)),asrt_pos (by omega),e,pair_L4 hi (by omega) (hri.nd _ hI).lm (hri.nd _ hK).lm (log_len hri hgi hI) (log_len hri hgi hK) _ (Nat.min_le_left _ _) (Nat.min_le_right _ _)]
  rfl
 ·show law_ClanAgrees_B3 x2 v3 v4 v5 (i:Int)=_
  have hw:w64 ((i:Int)+1)=((i+1:Nat):Int):=by rw [w64_id (by omega) (by omega)]; omega
  unfold law_ClanAgrees_B3
  rw [hi,if_neg (d_f (by omega))]
  unfold law_ClanAgrees_J7
  rw [hi,hw]; rfl
theorem known_L5 {v3:(List (Int×Int))×(List (Int×List Entry))×(List (Int×goodAt))×Int} {i:Nat} (hi:v3.2.2.2=(i:Int)) (hin:i<n) (v4:(List (Int×Int))×(List (Int×List Entry))) (h:LI n G v4.1 v4.2 v3.2.2.1) :
  ∃ c,law_ClanAgrees_J5 x2 v3 v4=some (.inl (v4.1,v4.2,c,((i+1:Nat):Int)))∧LI n G v4.1 v4.2 c:=by
 have hI:isN n (i:Int):=by unfold isN; omega
 have hg:=(hgi.at hI).1
 have hll:=log_len hri hgi hI
 have hk:=(hri.nd _ hI).kn
 obtain ⟨cm,hcm⟩:∃ m:Nat,(lget x2.1.Nodes (i:Int)).Commit=(m:Int):=⟨(lget x2.1.Nodes (i:Int)).Commit.toNat,by have:=hg.c0; omega⟩
 have hcl:=hg.cl
 unfold law_ClanAgrees_J5 law_ClanAgrees_L5
 have:=loop_inv (step:=fun y=>law_ClanAgrees_B5 x2 v3 v4 y) (R:=fun r=>∃ c,r = .inl (v4.1,v4.2,c,((i+1:Nat):Int))∧LI n G v4.1 v4.2 c) cm (fun p s=>s.2=(p:Int)∧LI n G v4.1 v4.2 s.1) ?_ ?_ cm 0 (v3.2.2.1,0) (by omega) ⟨rfl,h⟩
 ·obtain ⟨r,h1,c,rfl,h2⟩:=this
  exact ⟨c,h1,h2⟩
 ·rintro p ⟨c,p'⟩ hp ⟨hpp,hc⟩
  dsimp only at hpp hc
  subst hpp
  have hw:w64 ((p:Int)+1)=((p+1:Nat):Int):=by rw [w64_id (by omega) (by omega)]; omega
  have hpl:p<(lget x2.1.Nodes (i:Int)).Log.length:=by omega
  show ∃ s',law_ClanAgrees_B5 x2 v3 v4 (c,(p:Int))=_∧_
  unfold law_ClanAgrees_B5
  dsimp only [lt]
  rw [hi,if_pos (d_t (by omega)),asrt_pos (fun _=>by omega)]
  have hsame:∀ g,mget c (p:Int)=some g→lget (lget x2.1.Nodes (i:Int)).Log (p:Int)=g.e:=fun g hgt=>by
   have:=known_same hri.gg hc (mget_mem hgt) hk (by show (p:Int)<_; omega)
   simp [lget,List.getD] at this ⊢
   rw [this]; rfl
  have hne:¬ ((mget c (p:Int)).isSome&&(!(decide (((mget c (p:Int)).getD (⟨0,0,(⟨0,([]:List UInt8)⟩:Entry)⟩:goodAt)).e.Term=(lget (lget x2.1.Nodes (i:Int)).Log (p:Int)).Term)&&(decide (((mget c (p:Int)).getD (⟨0,0,(⟨0,([]:List UInt8)⟩:Entry)⟩:goodAt)).e.Text=(lget (lget x2.1.Nodes (i:Int)).Log (p:Int)).Text)&&true))))=true:=by
   cases hgt:mget c (p:Int) with
   | none=>simp
   | some g=>rw [hsame g hgt]; simp
  rw [if_neg hne,hw]
  by_cases c1:((!((mget c (p:Int)).isSome))||(decide ((lget x2.1.Nodes (i:Int)).Term<((mget c (p:Int)).getD (⟨0,0,(⟨0,([]:List UInt8)⟩:Entry)⟩:goodAt)).term)))=true
  ·rw [if_pos c1,asrt_pos (by omega),ob_some]
   refine ⟨_,rfl,rfl,hc.le,hc.lo,fun q hq=>?_⟩
   rcases mem_mput hq with rfl | hq
   ·obtain ⟨T,t1,k,t2,t3,t4⟩:=hk.at (p:=p) (by omega)
    refine ⟨by show (0:Int)≤(p:Int); omega,T,t1,k,t2,t3,?_⟩
    show (G.ll T)[((p:Int)).toNat]?=_
    rw [Int.toNat_natCast,t4,lget_some hpl]
   ·exact hc.kn q hq
  ·rw [if_neg c1,ob_some]
   exact ⟨_,rfl,rfl,hc⟩
 ·rintro ⟨c,p'⟩ ⟨hpp,hc⟩
  dsimp only at hpp hc
  subst hpp
  show ∃ r,law_ClanAgrees_B5 x2 v3 v4 (c,(cm:Int))=_∧_
  unfold law_ClanAgrees_B5
  dsimp only [lt]
  rw [hi,hcm,if_neg (d_f (by omega))]
  unfold law_ClanAgrees_J6
  rw [pairs_L3 hri hgi hi hin v4 c]
  exact ⟨_,rfl,c,rfl,hc⟩
theorem game_L2 {num:Int} (hnum:num=(n:Int)) {v1:(List (Int×Int))×(List (Int×List Entry))×(List (Int×goodAt))×Int} {j:Nat} (hj:v1.2.2.2=(j:Int)) (hjb:j<100000) (h:LI n G v1.1 v1.2.1 v1.2.2.1) :
  ∃ a b c,law_ClanAgrees_L2 num v1 x2 (v1.1,v1.2.1,v1.2.2.1,0)=some (.inl (a,b,c,((j+1:Nat):Int)))∧LI n G a b c:=by
 have hlen:=hgi.len
 have h7:=hgi.h7
 unfold law_ClanAgrees_L2
 have:=loop_inv (step:=fun y=>law_ClanAgrees_B2 num v1 x2 y) (R:=fun r=>∃ a b c,r = .inl (a,b,c,((j+1:Nat):Int))∧LI n G a b c) n (fun i s=>s.2.2.2=(i:Int)∧LI n G s.1 s.2.1 s.2.2.1) ?_ ?_ n 0 (v1.1,v1.2.1,v1.2.2.1,0) (by omega) ⟨rfl,h⟩
 ·obtain ⟨r,h1,a,b,c,rfl,h2⟩:=this
  exact ⟨a,b,c,h1,h2⟩
 ·rintro i ⟨a,b,c,i'⟩ hin ⟨hii,hl⟩
  dsimp only at hii hl
  subst hii
  have hI:isN n (i:Int):=by unfold isN; omega
  have hg:=(hgi.at hI).1
  have hni:=hri.nd _ hI
  have hc0:=hg.c0
  have hcl:=hg.cl
  show ∃ s',law_ClanAgrees_B2 num v1 x2 (a,b,c,(i:Int))=_∧_
  unfold law_ClanAgrees_B2
  dsimp only [lt]
  rw [hnum,if_pos (d_t (by omega)),asrt_pos (by omega),if_neg (or_f (by omega))]
  have fin:∀ v4:(List (Int×Int))×(List (Int×List Entry)),LI n G v4.1 v4.2 c→∃ s':(List (Int×Int))×(List (Int×List Entry))×(List (Int×goodAt))×Int,law_ClanAgrees_J5 x2 (a,b,c,(i:Int)) v4=some (Sum.inl s')∧s'.2.2.2=((i+1:Nat):Int)∧LI n G s'.1 s'.2.1 s'.2.2.1:=fun v4 hv=>by
   obtain ⟨c',h1,h2⟩:=known_L5 hri hgi (v3:=(a,b,c,(i:Int))) rfl hin v4 hv
   exact ⟨_,h1,rfl,h2⟩
  by_cases c1:(lget x2.1.Nodes (i:Int)).Role=2
  ·obtain ⟨⟨l,hel⟩,hlog,-⟩:=hni.ld c1
   rw [if_pos (d_t c1),if_neg]
   ·by_cases c2:(!((mget a ((lget x2.1.Nodes (i:Int)).Term)).isSome))=true
    ·rw [if_pos c2]
     refine fin (_,_) ⟨fun T w hw=>?_,fun q hq=>?_,hl.kn⟩
     ·rw [mget_mput] at hw
      by_cases c3:(lget x2.1.Nodes (i:Int)).Term=T
      ·rw [if_pos c3] at hw; cases hw
       exact ⟨l,by rw [← c3]; exact hel⟩
      ·rw [if_neg c3] at hw; exact hl.le T w hw
     ·rcases mem_mput hq with rfl | hq
      ·refine ⟨_,l,hel,?_⟩
       show l <+: (lget x2.1.Nodes (i:Int)).Log
       rw [hlog]; exact (hri.gg.el1 _ _ _ hel).2.2.1
      ·exact hl.lo q hq
    ·rw [if_neg c2]
     exact fin (_,_) hl
   ·cases hgt:mget a (lget x2.1.Nodes (i:Int)).Term with
    | none=>simp
    | some w=>
     obtain ⟨l',hw⟩:=hl.le _ _ hgt
     rw [hel] at hw
     cases hw
     simp
  ·rw [if_neg (d_f c1)]
   exact fin (_,_) hl
 ·rintro ⟨a,b,c,i'⟩ ⟨hii,hl⟩
  dsimp only at hii hl
  subst hii
  have hw:w64 ((j:Int)+1)=((j+1:Nat):Int):=by rw [w64_id (by omega) (by omega)]; omega
  show ∃ r,law_ClanAgrees_B2 num v1 x2 (a,b,c,(n:Int))=_∧_
  unfold law_ClanAgrees_B2
  dsimp only [lt]
  rw [hnum,if_neg (d_f (by omega))]
  unfold law_ClanAgrees_J4
  rw [hj,hw]
  exact ⟨_,rfl,a,b,c,rfl,hl⟩
end
theorem gm_take {texts:List (List UInt8)} {n:Nat} {ds:List Deed} {j:Nat} (hj:j≤ds.length):∀ i:Nat,i≤j→gm texts (ds.take j) n i=gm texts ds n i
 | 0,_=>rfl
 | i+1,h=>by
  have hl:lget (ds.take j) (i:Int)=lget ds (i:Int):=by
   simp only [lget,List.getD,Int.toNat_natCast]
   rw [List.getElem?_take,if_pos (by omega)]
  rw [gm,gm,gm_take hj i (by omega),hl]
theorem cd_take {texts:List (List UInt8)} {n:Nat} {ds:List Deed} {j:Nat} (hj:j≤ds.length) {i:Nat} (h:i<j):cd texts (ds.take j) n i=cd texts ds n i:=by
 have hl:lget (ds.take j) (i:Int)=lget ds (i:Int):=by
  simp only [lget,List.getD,Int.toNat_natCast]
  rw [List.getElem?_take,if_pos (by omega)]
 unfold cd
 rw [gm_take hj i (by omega),hl]
section
variable {texts:List (List UInt8)} {deeds:List Deed} {n:Nat}
def AI (n:Nat) (texts:List (List UInt8)) (deeds:List Deed) (i:Nat) (s:(List (Int×Int))×(List (Int×List Entry))×(List (Int×goodAt))×Int):Prop:=
 s.2.2.2=(i:Int)∧∃ G,(i≤deeds.length→RI n G (gm texts deeds n i).1 (gm texts deeds n i).2.1)∧GG n G∧LI n G s.1 s.2.1 s.2.2.1
theorem all_L1 (h1:1≤n) (h7:n≤7) (ht:texts.length≤100) (hd:deeds.length≤2000) (hall:∀ j,j<deeds.length→cd texts deeds n j=0) :
  law_ClanAgrees_L1 (n:Int) texts deeds (([]:List (Int×Int)),([]:List (Int×List Entry)),([]:List (Int×goodAt)),0)=some true:=by
 unfold law_ClanAgrees_L1
 have:=loop_inv (step:=fun y=>law_ClanAgrees_B1 (n:Int) texts deeds y) (R:=fun r=>r=true) (deeds.length+1) (AI n texts deeds) ?_ ?_ (deeds.length+1) 0 (([]:List (Int×Int)),([]:List (Int×List Entry)),([]:List (Int×goodAt)),0) (by omega)
  ⟨rfl,G0,fun _=>ri_begin,(ri_begin (n:=n)).gg,fun T i h=>(by cases h),fun q h=>(by cases h),fun q h=>(by cases h)⟩
 ·obtain ⟨r,h1,rfl⟩:=this
  exact h1
 ·rintro i ⟨a,b,c,i'⟩ hi ⟨hii,G,hri,hG,hl⟩
  dsimp only at hii hl
  subst hii
  have hri:=hri (by omega)
  obtain ⟨g1,g2,g3⟩:=gm_good (texts:=texts) (deeds:=deeds) h1 h7 i
  have htk:(deeds.take i).length=i:=by rw [List.length_take]; omega
  have hp:clan_Play_v1 (n:Int) texts (ltake deeds (i:Int))=some (⟨(gm texts deeds n i).1,(gm texts deeds n i).2.1⟩,⟨0,0⟩):=by
   have e:ltake deeds (i:Int)=deeds.take i:=by unfold ltake; rw [Int.toNat_natCast]
   rw [e]
   rcases both (texts:=texts) (deeds:=deeds.take i) (n:=n) h1 h7 (by omega) ht with ⟨j,hj,hc,_⟩ | ⟨_,hp,_⟩
   ·rw [cd_take (by omega) (by omega)] at hc
    exact absurd (hall j (by omega)) hc
   ·rw [htk,gm_take (by omega) i (Nat.le_refl _)] at hp
    exact hp
  show ∃ s',law_ClanAgrees_B1 (n:Int) texts deeds (a,b,c,(i:Int))=_∧_
  unfold law_ClanAgrees_B1
  dsimp only
  have hlen:=g1.len
  rw [if_pos (d_t (by omega)),asrt_pos (by omega),hp,ob_some,if_neg (by simp [hlen])]
  obtain ⟨a',b',c',e1,e2⟩:=game_L2 (x2:=(⟨(gm texts deeds n i).1,(gm texts deeds n i).2.1⟩,⟨0,0⟩)) hri g1 rfl (v1:=(a,b,c,(i:Int))) rfl (by omega) hl
  refine ⟨_,e1,rfl,?_⟩
  by_cases ci:i<deeds.length
  ·have hc:=hall i ci
   have hn:=gm_next hc
   unfold cd at hc
   obtain ⟨H,x1,x3,-⟩:=ri_step g1 hri hc
   refine ⟨H,fun _=>?_,x3.gg,e2.gl x1⟩
   rw [hn]; exact x3
  ·exact ⟨G,fun q=>absurd q (by omega),hG,e2⟩
 ·rintro ⟨a,b,c,i'⟩ ⟨hii,G,hri,hG,hl⟩
  dsimp only at hii hl
  subst hii
  show ∃ r,law_ClanAgrees_B1 (n:Int) texts deeds (a,b,c,((deeds.length+1:Nat):Int))=_∧_
  unfold law_ClanAgrees_B1
  dsimp only
  rw [if_neg (d_f (by omega)),fin_J1 hG hl]
  exact ⟨_,rfl,rfl⟩
end
theorem ClanAgrees_eq (num:Int) (texts:List (List UInt8)) (deeds:List Deed):law_ClanAgrees num texts deeds=some true:=by
 unfold law_ClanAgrees
 rw [clanBegun_eq,ob_some,if_neg (by decide)]
 by_cases c0:120<(deeds.length:Int)∨300<(texts.length:Int)
 ·rw [if_pos (or_t c0)]
 rw [if_neg (or_f c0)]
 have hbad:∀ f:Fault,f.Code≠0→R_Games_v1 num texts deeds=some ([],f)→ob (R_Games_v1 num texts deeds) (fun x1=>if (!decide (x1.2.Code=0))=true then some true else law_ClanAgrees_L1 num texts deeds (([]:List (Int×Int)),([]:List (Int×List Entry)),([]:List (Int×goodAt)),0))=some true:=by
  intro f hf hg
  rw [hg,ob_some,if_pos (n_t hf)]
 by_cases c1:num<1∨7<num
 ·refine hbad ⟨3,-1⟩ (by decide) ?_
  unfold R_Games_v1
  rw [if_pos (or_t c1)]; rfl
 by_cases c2:2000<deeds.length
 ·omega
 by_cases c3:100<texts.length
 ·refine hbad ⟨2,-2⟩ (by decide) ?_
  unfold R_Games_v1
  rw [if_neg (or_f c1),if_neg (d_f (by omega)),if_pos (d_t (by omega))]; rfl
 obtain ⟨n,rfl⟩:∃ n:Nat,num=(n:Int):=⟨num.toNat,by omega⟩
 rcases both (n:=n) (by omega) (by omega) (by omega:deeds.length≤2000) (by omega:texts.length≤100) with ⟨j,hj,hc,hp,hg⟩ | ⟨hall,hp,hg⟩
 ·exact hbad _ hc hg
 ·rw [hg,ob_some,if_neg (n_f rfl)]
  exact all_L1 (by omega) (by omega) (by omega) (by omega) hall
end G
end Go.Proofs.Ythiighaapaomcaa
