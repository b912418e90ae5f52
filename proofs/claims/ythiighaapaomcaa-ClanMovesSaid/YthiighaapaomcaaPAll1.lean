/- The plain law. -/
import Derived.Test.YthiighaapaomcaaPAll0
namespace Go.Proofs.Ythiighaapaomcaa
open Go Go.Dm
set_option linter.unusedVariables false
set_option linter.unusedSimpArgs false
set_option linter.unusedSectionVars false
namespace G
def RP (G:Gh) (k:Nat):Prop:=∃ PR:List (Int×Nat),PR.Nodup∧PR.length≤k∧(∀ (T:Int) (p:Nat) (e:Entry),(G.ll T)[p]?=some e→(e.Term,p)∈PR)∧∀ q∈PR,q.2<(G.ll q.1).length
theorem RP.grow {n:Nat} {G H:Gh} {k b:Nat} (hG:GG n G) (h:RP G k) (hg:Grw b G H) (hl:∀ T,G.ll T <+: H.ll T) (hb:b≤1):RP H (k+b):=by
 obtain ⟨PR,h1,h2,h3,h4⟩:=h
 obtain ⟨T0,g1,g2⟩:=hg
 have h5:∀ q∈PR,q.2<(H.ll q.1).length:=fun q hq=>by have:=h4 q hq; have:=(hl q.1).length_le; omega
 by_cases c:b=1
 ·refine ⟨(T0,(G.ll T0).length)::PR,List.nodup_cons.2 ⟨fun q=>by have:=h4 _ q; simp at this,h1⟩,by simp; omega,fun T p e he=>?_,fun q hq=>?_⟩
  ·rcases g1 T p e he with a | ⟨_,a,d⟩
   ·exact List.mem_cons_of_mem _ (h3 _ _ _ a)
   ·rw [a,d]; exact List.mem_cons_self
  ·rcases List.mem_cons.1 hq with a | a
   ·rw [a]; exact g2 c
   ·exact h5 q a
 ·refine ⟨PR,h1,by omega,fun T p e he=>?_,h5⟩
  rcases g1 T p e he with a | ⟨a,_⟩
  ·exact h3 _ _ _ a
  ·exact absurd a c
theorem rp_begin:RP G0 0:=⟨[],List.nodup_nil,Nat.le_refl _,fun T p e h=>(by cases h),fun q h=>(by cases h)⟩
structure Rch (texts:List (List UInt8)) (n:Nat) (ds:List Deed) (ns:List Node) (way:List Mail) (k:Nat):Prop where
 h1:1≤n
 h7:n≤7
 tx:texts.length≤100
 len:ds.length≤2000
 all:∀ j,j<ds.length→cd texts ds n j=0
 gm:gm texts ds n ds.length=(ns,way,k)
 inv:∃ G,RI n G ns way∧RP G k
 tn:∀ j,isN n j→(lget ns j).Term≤(ds.length:Int)
 tw:∀ m∈way,m.Term≤(ds.length:Int)
theorem gm_app {texts:List (List UInt8)} {n:Nat} {ds es:List Deed}:∀ i:Nat,i≤ds.length→gm texts (ds++es) n i=gm texts ds n i
 | 0,_=>rfl
 | i+1,h=>by
  rw [gm,gm,gm_app i (by omega),lget_app_l ds es (i:Int) (by omega)]
theorem cd_app {texts:List (List UInt8)} {n:Nat} {ds es:List Deed} {i:Nat} (h:i<ds.length):cd texts (ds++es) n i=cd texts ds n i:=by
 unfold cd
 rw [gm_app i (by omega),lget_app_l ds es (i:Int) (by omega)]
section
variable {texts:List (List UInt8)} {n:Nat} {ds:List Deed} {ns:List Node} {way:List Mail} {k:Nat}
theorem Rch.gi (h:Rch texts n ds ns way k):GI n ns way∧k≤texts.length∧way.length≤200:=by
 have:=gm_good (texts:=texts) (deeds:=ds) h.h1 h.h7 ds.length
 rw [h.gm] at this
 exact this
theorem Rch.play (h:Rch texts n ds ns way k):clan_Play_v1 (n:Int) texts ds=some (⟨ns,way⟩,⟨0,0⟩):=by
 rcases both (texts:=texts) (deeds:=ds) h.h1 h.h7 h.len h.tx with ⟨j,j1,j2,_⟩ | ⟨_,hp,_⟩
 ·exact absurd (h.all j j1) j2
 ·rw [hp,h.gm]
theorem act_tm {c:Int} {w:Int} {r:Node×List Mail×Fault} (hl:ns.length=n) (hw:isN n w) (hn:∀ j,isN n j→(lget ns j).Term≤c) (hm:∀ m∈way,m.Term≤c) (hr:r.2.2.Code=0→r.1.Term≤c∧∀ m∈r.2.1,m.Term≤c) :
  (∀ j,isN n j→(lget (act ns way w r).1 j).Term≤c)∧∀ m∈(act ns way w r).2,m.Term≤c:=by
 unfold act
 by_cases q:r.2.2.Code=0
 ·rw [if_pos q]
  obtain ⟨a,b⟩:=hr q
  refine ⟨fun j hj=>?_,fun m hm2=>?_⟩
  ·unfold isN at hw
   rw [lget_lset _ _ _ _ (by omega) hj.1]
   split
   ·exact a
   ·exact hn j hj
  ·rcases List.mem_append.1 hm2 with d | d
   ·exact hm m d
   ·exact b m d
 ·rw [if_neg q]; exact ⟨hn,hm⟩
theorem mls_tm {id c:Int} {f:Nat→Mail} (h:∀ j,(f j).Term≤c) {m:Nat}:∀ z∈mls id f m,z.Term≤c:=fun z hz=>by
 obtain ⟨j,_,_,e⟩:=mls_mem hz
 rw [e]; exact h j
theorem stand_tm {x:Node}:(standS x).2.2.Code=0→(standS x).1.Term=x.Term+1∧∀ m∈(standS x).2.1,m.Term≤x.Term+1:=by
 intro h
 unfold standS at h ⊢
 by_cases a:(nodeF x).Code=0
 case neg=>rw [if_pos a] at h; exact absurd h a
 rw [if_neg (not_not_intro a)] at h ⊢
 by_cases b:x.Role=2
 ·rw [if_pos b] at h; cases h
 rw [if_neg b] at h ⊢
 by_cases d:x.Term=1000000000
 ·rw [if_pos d] at h; cases h
 rw [if_neg d]
 refine ⟨?_,mls_tm (f:=askM x.ID (x.Term+1) x.Log) (fun j=>by show x.Term+1≤x.Term+1; omega)⟩
 show (if x.N=1 then leaderN (stX x) else stX x).Term=_
 split <;> rfl
theorem take_tm {x:Node} {m:Mail} (h:(takeS x m).2.2.Code=0):(takeS x m).1.Term=max x.Term m.Term∧∀ z∈(takeS x m).2.1,z.Term=max x.Term m.Term:=by
 unfold takeS at h ⊢
 by_cases c:(takF x m).Code=0
 case neg=>rw [if_neg c] at h; exact absurd h c
 rw [if_pos c]
 have hb:(bas x m).Term=max x.Term m.Term:=by
  unfold bas
  split
  ·show m.Term=_; omega
  ·omega
 rw [← hb]
 generalize bas x m=y
 show (takeK y m).1.Term=y.Term∧∀ z∈(takeK y m).2,z.Term=y.Term
 unfold takeK
 have h1:∀ (a b:Int) (o:Bool),∀ z∈[ans y m a b o],z.Term=y.Term:=fun a b o z hz=>by rw [List.mem_singleton] at hz; rw [hz]; rfl
 have h0:∀ z∈([]:List Mail),z.Term=y.Term:=fun z hz=>by cases hz
 split
 ·exact ⟨rfl,h1 _ _ _⟩
 split
 ·unfold take2
  split
  ·exact ⟨rfl,h0⟩
  split
  ·refine ⟨rfl,fun z hz=>?_⟩
   obtain ⟨j,_,_,e⟩:=mls_mem hz
   rw [e]; rfl
  ·exact ⟨rfl,h0⟩
 split
 ·unfold take3
  split
  ·exact ⟨rfl,h1 _ _ _⟩
  split
  ·exact ⟨rfl,h0⟩
  split
  ·exact ⟨rfl,h0⟩
  split
  ·exact ⟨rfl,h1 _ _ _⟩
  split
  ·exact ⟨rfl,h0⟩
  ·exact ⟨rfl,h1 _ _ _⟩
 ·unfold take4
  split
  ·exact ⟨rfl,h0⟩
  split
  ·exact ⟨rfl,h0⟩
  ·exact ⟨rfl,h0⟩
theorem deed_tm (hgi:GI n ns way) {d:Deed} {c:Int} (hn:∀ j,isN n j→(lget ns j).Term≤c) (hm:∀ m∈way,m.Term≤c) (hb:badC texts d ns way k=0) :
  (∀ j,isN n j→(lget (deedC texts d ns way k).1 j).Term≤c+1)∧∀ m∈(deedC texts d ns way k).2.1,m.Term≤c+1:=by
 have hlen:=hgi.len
 have c4:¬ (d.Kind<0∨6<d.Kind):=fun c=>by unfold badC at hb; rw [if_pos c] at hb; exact absurd hb (by decide)
 have c3:¬ (((3≤d.Kind∧d.Kind≤5)∧(d.N<0∨(way.length:Int)≤d.N))∨(¬ (3≤d.Kind∧d.Kind≤5)∧(d.Who<0∨(ns.length:Int)≤d.Who))):=fun c=>by unfold badC at hb; rw [if_neg c4,if_pos c] at hb; exact absurd hb (by decide)
 have hwi:¬ (3≤d.Kind∧d.Kind≤5)→isN n d.Who:=fun q=>by unfold isN; omega
 have hn':∀ j,isN n j→(lget ns j).Term≤c+1:=fun j hj=>by have:=hn j hj; omega
 have hm':∀ m∈way,m.Term≤c+1:=fun m hj=>by have:=hm m hj; omega
 have her:∀ m∈way.eraseIdx d.N.toNat,m∈way:=fun m hm=>List.mem_of_mem_eraseIdx hm
 have h0:∀ z∈([]:List Mail),z.Term≤c+1:=fun z hz=>by cases hz
 unfold deedC
 by_cases k0:d.Kind=0
 ·rw [if_pos k0]
  have hw:=hwi (by omega)
  have:=hn _ hw
  exact act_tm hlen hw hn' hm' (fun q=>⟨by rw [(stand_tm q).1]; omega,fun m hz=>by have:=(stand_tm q).2 m hz; omega⟩)
 rw [if_neg k0]
 by_cases k1:d.Kind=1
 ·rw [if_pos k1]
  have hw:=hwi (by omega)
  have:=hn _ hw
  refine act_tm hlen hw hn' hm' (r:=((propS (lget ns d.Who) (lget texts (k:Int))).1,[],(propS (lget ns d.Who) (lget texts (k:Int))).2)) (fun q=>⟨?_,h0⟩)
  dsimp only at q ⊢
  unfold propS at q ⊢
  split
  ·rename_i z; rw [if_pos z] at q; exact absurd q z
  rename_i z; rw [if_neg z] at q
  split
  ·rename_i z; rw [if_pos z] at q; cases q
  rename_i z; rw [if_neg z] at q
  split
  ·rename_i z; rw [if_pos z] at q; cases q
  rename_i z; rw [if_neg z] at q
  split
  ·rename_i z; rw [if_pos z] at q; cases q
  ·show (lget ns d.Who).Term≤c+1; omega
 rw [if_neg k1]
 by_cases k2:d.Kind=2
 ·rw [if_pos k2]
  have hw:=hwi (by omega)
  have:=hn _ hw
  refine act_tm hlen hw hn' hm' (r:=(lget ns d.Who,(beatS (lget ns d.Who)).1,(beatS (lget ns d.Who)).2)) (fun q=>⟨by show (lget ns d.Who).Term≤c+1; omega,?_⟩)
  dsimp only at q ⊢
  unfold beatS at q ⊢
  split
  ·exact h0
  split
  ·exact h0
  ·exact mls_tm (fun j=>by show (lget ns d.Who).Term≤c+1; omega)
 rw [if_neg k2]
 by_cases k3:d.Kind=3
 ·rw [if_pos k3]
  have hmem:=lget_mem way d.N (by omega)
  obtain ⟨hto,_⟩:=hgi.mails _ hmem
  have h2:=hn _ hto
  have h3:=hm _ hmem
  exact act_tm hlen hto hn' (fun m q=>hm' m (her m q)) (fun q=>⟨by rw [(take_tm q).1]; omega,fun m hz=>by have:=(take_tm q).2 m hz; omega⟩)
 rw [if_neg k3]
 by_cases k4:d.Kind=4
 ·rw [if_pos k4]
  refine ⟨hn',fun m hz=>?_⟩
  rcases List.mem_append.1 hz with g | g
  ·exact hm' m g
  ·rw [List.mem_singleton] at g
   rw [g]; exact hm' _ (lget_mem way d.N (by omega))
 rw [if_neg k4]
 by_cases k5:d.Kind=5
 ·rw [if_pos k5]; exact ⟨hn',fun m q=>hm' m (her m q)⟩
 rw [if_neg k5]
 have hw:=hwi (by omega)
 have:=hn _ hw
 refine act_tm hlen hw hn' hm' (r:=((restS (lget ns d.Who)).1,[],(restS (lget ns d.Who)).2)) (fun q=>⟨?_,h0⟩)
 dsimp only at q ⊢
 unfold restS at q ⊢
 split
 ·rename_i z; rw [if_pos z] at q; exact absurd q z
 ·show (lget ns d.Who).Term≤c+1; omega
theorem Rch.snoc (h:Rch texts n ds ns way k) (hl:ds.length+1≤2000) {d:Deed} (hb:badC texts d ns way k=0) (hw:(deedC texts d ns way k).2.1.length≤200) :
  Rch texts n (ds++[d]) (deedC texts d ns way k).1 (deedC texts d ns way k).2.1 (deedC texts d ns way k).2.2:=by
 obtain ⟨g1,g2,g3⟩:=h.gi
 obtain ⟨K,i1,i2⟩:=h.inv
 have hs:stepC texts d ns way k=((deedC texts d ns way k).1,(deedC texts d ns way k).2.1,(deedC texts d ns way k).2.2,0):=by
  unfold stepC
  rw [if_neg (not_not_intro hb),if_neg (by omega)]
 have hlen:(ds++[d]).length=ds.length+1:=by simp
 have hd:lget (ds++[d]) (ds.length:Int)=d:=by rw [lget_app_r _ _ _ (Int.le_refl _),Int.sub_self]; rfl
 have hcd:cd texts (ds++[d]) n ds.length=0:=by
  unfold cd
  rw [gm_app _ (Nat.le_refl _),h.gm,hd,hs]
 have hg:G.gm texts (ds++[d]) n (ds++[d]).length=((deedC texts d ns way k).1,(deedC texts d ns way k).2.1,(deedC texts d ns way k).2.2):=by
  rw [hlen,gm_next hcd,gm_app _ (Nat.le_refl _),h.gm,hd,hs]
 obtain ⟨H,x1,x2,b,x3,x4,x5⟩:=ri_deed g1 i1 hb (texts:=texts) (d:=d) (k:=k)
 obtain ⟨t1,t2⟩:=deed_tm g1 h.tn h.tw hb
 refine ⟨h.h1,h.h7,h.tx,by omega,fun j hj=>?_,hg,⟨H,x2,by rw [x5]; exact i2.grow i1.gg x4 (by obtain ⟨_,_,_,_,q,_⟩:=x1; exact q) x3⟩,fun j hj=>by have:=t1 j hj; rw [hlen]; omega,fun m hm=>by have:=t2 m hm; rw [hlen]; omega⟩
 by_cases q:j<ds.length
 ·rw [cd_app q]; exact h.all j q
 ·have:j=ds.length:=by omega
  rw [this]; exact hcd
end
theorem act_eq (ns:List Node) (way:List Mail) (w:Int) (r:Node×List Mail×Fault):act ns way w r=((act ns [] w r).1,way++(act ns [] w r).2):=by
 unfold act
 split
 ·simp
 ·simp
noncomputable def tkA (ns:List Node) (m:Mail):List Node×List Mail:=act ns [] m.To (takeS (lget ns m.To) m)
noncomputable def rnd:List Mail→List Node→List Mail→List Node×List Mail
 | [],ns,acc=>(ns,acc)
 | m::ms,ns,acc=>rnd ms (tkA ns m).1 (acc++(tkA ns m).2)
theorem rnd_app:∀ (a b:List Mail) (ns:List Node) (acc:List Mail),rnd (a++b) ns acc=rnd b (rnd a ns acc).1 (rnd a ns acc).2
 | [],b,ns,acc=>rfl
 | m::a,b,ns,acc=>by
  rw [List.cons_append,rnd,rnd]
  exact rnd_app a b _ _
def d3:Deed:=⟨3,0,0⟩
section
variable {texts:List (List UInt8)} {n:Nat} {k:Nat}
theorem tkA_len {ns:List Node} {m:Mail}:(tkA ns m).2.length≤7:=by
 unfold tkA act
 split
 ·rename_i c
  have:=(take_ok c).len
  simpa using this
 ·simp
theorem Rch.round:∀ (ms acc:List Mail) (ds:List Deed) (ns:List Node),Rch texts n ds ns (ms++acc) k→ds.length+ms.length≤2000→acc.length+8*ms.length≤200→
  Rch texts n (ds++List.replicate ms.length d3) (rnd ms ns acc).1 (rnd ms ns acc).2 k
 | [],acc,ds,ns,h,_,_=>by
  rw [List.length_nil,List.replicate_zero,List.append_nil]; exact h
 | m::ms,acc,ds,ns,h,hl,hw=>by
  rw [List.length_cons] at hl hw
  have hb:badC texts d3 ns (m::ms++acc) k=0:=by
   unfold badC
   rw [if_neg (by decide),if_neg,if_neg (by rintro ⟨q,_⟩; exact absurd q (by decide))]
   rintro (⟨_,q⟩ | ⟨q,_⟩)
   ·rw [List.cons_append,List.length_cons] at q
    have q:(0:Int)<0∨(((ms++acc).length+1:Nat):Int)≤0:=q
    omega
   ·exact q (by decide)
  have hd:deedC texts d3 ns (m::ms++acc) k=((tkA ns m).1,(ms++(acc++(tkA ns m).2)),k):=by
   unfold deedC
   rw [if_neg (show ¬ d3.Kind=0 by decide),if_neg (show ¬ d3.Kind=1 by decide),if_neg (show ¬ d3.Kind=2 by decide),if_pos (show d3.Kind=3 by decide)]
   have e1:lget (m::ms++acc) d3.N=m:=rfl
   have e2:(m::ms++acc).eraseIdx d3.N.toNat=ms++acc:=rfl
   rw [e1,e2,act_eq,← List.append_assoc]; rfl
  have hlen:=tkA_len (ns:=ns) (m:=m)
  have h2:=h.snoc (by omega) hb (by rw [hd]; simp only [List.length_append]; omega)
  rw [hd] at h2
  have h3:=Rch.round ms (acc++(tkA ns m).2) (ds++[d3]) (tkA ns m).1 h2 (by simp; omega) (by rw [List.length_append]; omega)
  rw [List.append_assoc] at h3
  exact h3
def Calm (texts:List (List UInt8)) (n:Nat) (ds:List Deed) (k:Nat) (P:List Node→Prop):Prop:=
 ∃ ds' ns' way',law_calm_v1 (n:Int) texts ds=some (ds',⟨ns',way'⟩,⟨0,0⟩)∧Rch texts n ds' ns' way' k∧(1700<ds'.length∨(way'=[]∧P ns'))
theorem calm_stop {ds:List Deed} {ns:List Node} {way:List Mail} (h:Rch texts n ds ns way k) (hs:way=[]∨1700<ds.length):law_calm_v1 (n:Int) texts ds=some (ds,⟨ns,way⟩,⟨0,0⟩):=by
 refine loopO_inr ?_
 show law_calm_v1_B1 (n:Int) texts ds=_
 unfold law_calm_v1_B1
 rw [h.play,ob_some,if_pos]
 rcases hs with q | q
 ·simp [q]
 ·simp; right; omega
theorem Calm.done {ds:List Deed} {ns:List Node} {P:List Node→Prop} (h:Rch texts n ds ns [] k) (hp:P ns):Calm texts n ds k P:=⟨ds,ns,[],calm_stop h (.inl rfl),h,.inr ⟨rfl,hp⟩⟩
theorem Calm.round {ds:List Deed} {ns:List Node} {way:List Mail} {P:List Node→Prop} (h:Rch texts n ds ns way k) (hw:way.length≤20) (hn:∀ ds',Rch texts n ds' (rnd way ns []).1 (rnd way ns []).2 k→Calm texts n ds' k P) (hz:way=[]→P ns):Calm texts n ds k P:=by
 by_cases c:way=[]
 ·subst c; exact .done h (hz rfl)
 by_cases c2:1700<ds.length
 ·exact ⟨ds,ns,way,calm_stop h (.inr c2),h,.inl c2⟩
 have h2:=Rch.round way [] ds ns (by rw [List.append_nil]; exact h) (by omega) (by simp; omega)
 obtain ⟨ds',ns',way',a,b,d⟩:=hn _ h2
 refine ⟨ds',ns',way',(loopO_inl (y:=ds++List.replicate way.length d3) ?_).trans a,b,d⟩
 show law_calm_v1_B1 (n:Int) texts ds=_
 unfold law_calm_v1_B1
 have hl:=h.len
 have hpos:0<way.length:=List.length_pos_iff.2 c
 rw [h.play,ob_some,if_neg (by simp [c]; omega)]
 unfold law_calm_v1_L2
 have e0:(ds,(0:Int))=(ds++List.replicate 0 d3,((0:Nat):Int)):=by simp
 rw [e0]
 refine loop_run (step:=fun y=>law_calm_v1_B2 (⟨ns,way⟩,⟨0,0⟩) y) way.length (fun j=>(ds++List.replicate j d3,(j:Int))) (fun j hj=>?_) ?_
 ·have hw:w64 ((j:Int)+1)=((j+1:Nat):Int):=by rw [w64_id (by omega) (by omega)]; omega
  show law_calm_v1_B2 (⟨ns,way⟩,⟨0,0⟩) (ds++List.replicate j d3,(j:Int))=_
  unfold law_calm_v1_B2
  dsimp only
  rw [if_pos (d_t (by omega)),asrt_pos (by simp; omega),hw,List.append_assoc,List.replicate_succ']; rfl
 ·show law_calm_v1_B2 (⟨ns,way⟩,⟨0,0⟩) (ds++List.replicate way.length d3,(way.length:Int))=_
  unfold law_calm_v1_B2
  dsimp only
  rw [if_neg (d_f (by omega))]; rfl
end
theorem tkA_ok {ns:List Node} {m:Mail} {r:Node} {q:List Mail} {f:Fault} (h:takeS (lget ns m.To) m=(r,q,f)) (hf:f.Code=0):tkA ns m=(lset ns m.To r,q):=by
 unfold tkA act
 rw [h,if_pos hf,List.nil_append]
def mlq (a:Nat) (q:Nat→List Mail):Nat→List Mail
 | 0=>[]
 | k+1=>if k=a then mlq a q k else mlq a q k++q k
theorem rnd_others {a:Nat} {f:Nat→Mail} {r:Nat→Node} {q:Nat→List Mail} {ns:List Node} (acc:List Mail):∀ m:Nat,m≤ns.length→(∀ j:Nat,j<m→j≠a→(f j).To=(j:Int)∧∃ fl:Fault,fl.Code=0∧takeS (lget ns (j:Int)) (f j)=(r j,q j,fl))→
  (rnd (mls (a:Int) f m) ns acc).1.length=ns.length∧(∀ j:Nat,lget (rnd (mls (a:Int) f m) ns acc).1 (j:Int)=if j<m∧j≠a then r j else lget ns (j:Int))∧(rnd (mls (a:Int) f m) ns acc).2=acc++mlq a q m
 | 0,_,_=>⟨rfl,fun j=>by rw [if_neg (by omega)]; rfl,by show acc=acc++[]; rw [List.append_nil]⟩
 | m+1,hm,h=>by
  obtain ⟨h1,h2,h3⟩:=rnd_others acc m (by omega) (fun j hj=>h j (by omega))
  rw [mls,mlq]
  by_cases c:m=a
  ·rw [if_pos (by rw [c]),if_pos c]
   refine ⟨h1,fun j=>?_,h3⟩
   rw [h2 j]
   by_cases d:j<m∧j≠a
   ·rw [if_pos d,if_pos ⟨by omega,d.2⟩]
   ·rw [if_neg d,if_neg (by omega)]
  ·rw [if_neg (by omega),if_neg c,rnd_app]
   obtain ⟨g1,fl,g3,g2⟩:=h m (by omega) c
   have hm2:=h2 m
   rw [if_neg (by omega)] at hm2
   have hk:tkA (rnd (mls (a:Int) f m) ns acc).1 (f m)=(lset (rnd (mls (a:Int) f m) ns acc).1 (m:Int) (r m),q m):=by
    have:=tkA_ok (ns:=(rnd (mls (a:Int) f m) ns acc).1) (m:=f m) (r:=r m) (q:=q m) (f:=fl) (by rw [g1,hm2]; exact g2) g3
    rw [g1] at this; exact this
   show (rnd [] (tkA _ (f m)).1 (_++(tkA _ (f m)).2)).1.length=_∧(∀ j:Nat,lget (rnd [] (tkA _ (f m)).1 (_++(tkA _ (f m)).2)).1 (j:Int)=_)∧(rnd [] (tkA _ (f m)).1 (_++(tkA _ (f m)).2)).2=_
   rw [hk]
   refine ⟨by show (lset _ _ _).length=_; rw [lset_len]; exact h1,fun j=>?_,by show _++q m=_; rw [h3,List.append_assoc]⟩
   show lget (lset _ (m:Int) (r m)) (j:Int)=_
   rw [lget_lset _ _ _ _ (by omega) (by omega),h2 j]
   by_cases d:j=m
   ·rw [if_pos (by omega),if_pos ⟨by omega,by omega⟩,d]
   ·rw [if_neg (by omega)]
    by_cases e:j<m∧j≠a
    ·rw [if_pos e,if_pos ⟨by omega,e.2⟩]
    ·rw [if_neg e,if_neg (by omega)]
theorem rnd_to {a:Nat} {q:Nat→List Mail} {P:Nat→Node→List Mail→Prop} {ns:List Node} {acc:List Mail} (ha:a<ns.length) (h0:P 0 (lget ns (a:Int)) acc):∀ m:Nat,
  (∀ j:Nat,j<m→j≠a→∀ x acc,P j x acc→(q j=[]→P (j+1) x acc)∧∀ z,q j=[z]→z.To=(a:Int)∧(takeS x z).2.2.Code=0∧P (j+1) (takeS x z).1 (acc++(takeS x z).2.1))→
  (∀ x acc,P a x acc→P (a+1) x acc)→(∀ j,j<m→j≠a→q j=[]∨∃ z,q j=[z])→
  (rnd (mlq a q m) ns acc).1.length=ns.length∧(∀ j:Nat,j≠a→lget (rnd (mlq a q m) ns acc).1 (j:Int)=lget ns (j:Int))∧P m (lget (rnd (mlq a q m) ns acc).1 (a:Int)) (rnd (mlq a q m) ns acc).2
 | 0,_,_,_=>⟨rfl,fun j _=>rfl,h0⟩
 | m+1,hs,hself,hq=>by
  obtain ⟨h1,h2,h3⟩:=rnd_to ha h0 m (fun j hj=>hs j (by omega)) hself (fun j hj=>hq j (by omega))
  rw [mlq]
  by_cases c:m=a
  ·rw [if_pos c]
   subst c
   exact ⟨h1,h2,hself _ _ h3⟩
  ·rw [if_neg c,rnd_app]
   obtain ⟨s1,s2⟩:=hs m (by omega) c _ _ h3
   rcases hq m (by omega) c with e | ⟨z,e⟩
   ·rw [e]
    exact ⟨h1,h2,s1 e⟩
   ·rw [e]
    obtain ⟨t1,t2,t3⟩:=s2 z e
    have hk:tkA (rnd (mlq a q m) ns acc).1 z=(lset (rnd (mlq a q m) ns acc).1 (a:Int) (takeS (lget (rnd (mlq a q m) ns acc).1 (a:Int)) z).1,(takeS (lget (rnd (mlq a q m) ns acc).1 (a:Int)) z).2.1):=by
     have:=tkA_ok (ns:=(rnd (mlq a q m) ns acc).1) (m:=z) (r:=(takeS (lget (rnd (mlq a q m) ns acc).1 (a:Int)) z).1) (q:=(takeS (lget (rnd (mlq a q m) ns acc).1 (a:Int)) z).2.1) (f:=(takeS (lget (rnd (mlq a q m) ns acc).1 (a:Int)) z).2.2) (by rw [t1]) t2
     rw [t1] at this; exact this
    show (rnd [] (tkA _ z).1 (_++(tkA _ z).2)).1.length=_∧(∀ j:Nat,j≠a→lget (rnd [] (tkA _ z).1 (_++(tkA _ z).2)).1 (j:Int)=_)∧P (m+1) (lget (rnd [] (tkA _ z).1 (_++(tkA _ z).2)).1 (a:Int)) (rnd [] (tkA _ z).1 (_++(tkA _ z).2)).2
    rw [hk]
    refine ⟨by show (lset _ _ _).length=_; rw [lset_len]; exact h1,fun j hj=>?_,?_⟩
    ·show lget (lset _ (a:Int) _) (j:Int)=_
     rw [lget_lset _ _ _ _ (by omega) (by omega),if_neg (by omega)]; exact h2 j hj
    ·show P (m+1) (lget (lset _ (a:Int) _) (a:Int)) (_++_)
     rw [lget_lset _ _ _ _ (by omega) (by omega),if_pos rfl]; exact t3
theorem mlq_len {a:Nat} {q:Nat→List Mail}:∀ m:Nat,(∀ j,j<m→j≠a→(q j).length≤1)→(mlq a q m).length≤m
 | 0,_=>Nat.le_refl _
 | m+1,h=>by
  have:=mlq_len m (fun j hj=>h j (by omega))
  rw [mlq]
  split
  ·omega
  ·rename_i c
   have:=h m (by omega) c
   rw [List.length_append]; omega
theorem fin0 {x:Node} {m:Mail} (hg:NGood x) (k:1≤m.Kind∧m.Kind≤4) (t:m.To=x.ID) (f:m.From≠x.ID) (f2:0≤m.From∧m.From<x.N) (tt:1≤m.Term∧m.Term≤1000000000) (a:0≤m.A∧m.A≤1000000000) (b:0≤m.B∧m.B≤1000000000) (c:m.C0=0) (e:m.Entries=[]):takF x m=⟨0,0⟩:=by
 unfold takF
 rw [if_pos (nodeF_good.2 hg),if_pos]
 refine ⟨k,t,f,f2,tt,a,b,by omega,by rw [e]; decide,.inl (by rw [e]; rfl),by rw [e]; rfl,?_⟩
 rw [e]
 have:tat [] (([]:List Entry).length:Int)=0:=by unfold tat; rw [if_pos (by simp)]
 rw [this]; omega
theorem takeS_of {x:Node} {m:Mail} (h:takF x m=⟨0,0⟩):takeS x m=((takeK (bas x m) m).1,(takeK (bas x m) m).2,⟨0,0⟩):=by
 unfold takeS
 rw [h,if_pos rfl]
theorem bas_id {x:Node} {m:Mail} (h:m.Term≤x.Term):bas x m=x:=by unfold bas; rw [if_neg (by omega)]
theorem lastT_range {l:Log} (h:(fof l).Code=0):0≤lastT l∧lastT l≤1000000000∧l.length≤100:=by
 obtain ⟨h1,h2,h3⟩:=fof_good h
 rcases Nat.eq_zero_or_pos l.length with q | q
 ·rw [lastT_nil q]; exact ⟨Int.le_refl _,by decide,h1⟩
 ·obtain ⟨e,he⟩:=last_is q
  have:=h3 e (List.mem_of_getElem? he)
  rw [lastT_get q he]; exact ⟨by omega,by omega,h1⟩
def Newer (b a:Log):Prop:=lastT a<lastT b∨(lastT a=lastT b∧a.length<b.length)
theorem ask_eff {y:Node} {a T:Int} {log:Log} {j n:Nat} (hg:NGood y) (hid:y.ID=(j:Int)) (hN:y.N=(n:Int)) (ha:0≤a∧a<(n:Int)) (hj:(j:Int)≠a) (hT:1≤T∧T≤1000000000) (hl:(fof log).Code=0) :
  ∃ (r:Node) (z:Mail),takeS y (askM a T log j)=(r,[z],⟨0,0⟩)∧r.Term=max y.Term T∧r.Log=y.Log∧z.Kind=2∧z.From=(j:Int)∧z.To=a∧z.Term=max y.Term T∧z.A=0∧z.B=0∧z.C0=0∧z.Entries=[]∧(z.Ok=false→y.Term<T→Newer y.Log log):=by
 obtain ⟨l1,l2,l3⟩:=lastT_range hl
 have hf:=fin0 (m:=askM a T log j) hg ⟨by show (1:Int)≤1; decide,by show (1:Int)≤4; decide⟩ (by show (j:Int)=y.ID; rw [hid]) (by show a≠y.ID; rw [hid]; exact fun e=>hj e.symm) (by show 0≤a∧a<y.N; rw [hN]; exact ha) hT (by show 0≤(log.length:Int)∧(log.length:Int)≤1000000000; omega) (by show 0≤lastT log∧lastT log≤1000000000; exact ⟨l1,l2⟩) rfl rfl
 have hb:(bas y (askM a T log j)).Term=max y.Term T∧(bas y (askM a T log j)).Log=y.Log∧(bas y (askM a T log j)).ID=y.ID∧(y.Term<T→(bas y (askM a T log j)).Vote=0):=by
  unfold bas
  by_cases c:y.Term<T
  ·rw [if_pos (show y.Term<(askM a T log j).Term from c)]
   exact ⟨by show T=_; omega,rfl,rfl,fun _=>rfl⟩
  ·rw [if_neg (show ¬ y.Term<(askM a T log j).Term from c)]
   exact ⟨by omega,rfl,rfl,fun q=>absurd q c⟩
 refine ⟨(take1 (bas y (askM a T log j)) (askM a T log j)).1,ans (bas y (askM a T log j)) (askM a T log j) 2 0 (decide (askB (bas y (askM a T log j)) (askM a T log j))),?_,hb.1,hb.2.1,rfl,by show (bas y (askM a T log j)).ID=_; rw [hb.2.2.1,hid],rfl,hb.1,rfl,rfl,rfl,rfl,fun ho hlt=>?_⟩
 ·rw [takeS_of hf]; rfl
 ·have ho:decide (askB (bas y (askM a T log j)) (askM a T log j))=false:=ho
  rw [decide_eq_false_iff_not] at ho
  apply Classical.byContradiction
  intro hn
  apply ho
  refine ⟨by show T=(bas y (askM a T log j)).Term; rw [hb.1]; omega,.inl (hb.2.2.2 hlt),fun q=>hn ?_⟩
  rw [hb.2.1] at q
  rcases q with q | ⟨q1,q2⟩
  ·exact .inl q
  ·have q2:(log.length:Int)<(y.Log.length:Int):=q2
   exact .inr ⟨q1,by omega⟩
theorem sub_len:∀ {l m:List Int},l.Nodup→(∀ x∈l,x∈m)→l.length≤m.length
 | [],m,_,_=>Nat.zero_le _
 | a::l,m,hn,h=>by
  rw [List.nodup_cons] at hn
  have ha:=h a List.mem_cons_self
  have:=sub_len (l:=l) (m:=m.erase a) hn.2 (fun x hx=>(List.mem_erase_of_ne (fun e=>hn.1 (by rw [← e]; exact hx))).2 (h x (List.mem_cons_of_mem _ hx)))
  rw [List.length_erase_of_mem ha] at this
  have:=List.length_pos_of_mem ha
  rw [List.length_cons]; omega
theorem all_len {n:Nat} {v:List Int} (h:∀ j:Nat,j<n→(j:Int)∈v):n≤v.length:=by
 have:=sub_len (l:=(List.range n).map fun (j:Nat)=>(j:Int)) (m:=v) (List.Pairwise.map _ (fun a b hab q=>hab (by omega)) List.nodup_range) (fun x hx=>by
  obtain ⟨j,hj,rfl⟩:=List.mem_map.1 hx
  exact h j (List.mem_range.1 hj))
 simpa using this
theorem NGood.votes {x:Node} (h:NGood x) (hr:x.Role=1):¬ x.N<2*(x.Votes.length:Int):=by
 have:=h.form
 unfold formB at this
 rw [if_pos hr] at this
 simp only [Bool.and_eq_true] at this
 have:=this.1.2
 simpa using this
theorem give_eff {x:Node} {z:Mail} {a n:Nat} (hg:NGood x) (hid:x.ID=(a:Int)) (hN:x.N=(n:Int)) (hk:z.Kind=2) (hto:z.To=(a:Int)) (hf:z.From≠(a:Int)∧0≤z.From∧z.From<(n:Int)) (hT:1≤z.Term∧z.Term≤1000000000) (hA:z.A=0) (hB:z.B=0) (hC:z.C0=0) (hE:z.Entries=[]) :
  takeS x z=((take2 (bas x z) z).1,(take2 (bas x z) z).2,⟨0,0⟩):=by
 have hf:=fin0 hg (by omega) (by rw [hto,hid]) (by rw [hid]; exact hf.1) (by rw [hN]; exact hf.2) hT (by omega) (by omega) hC hE
 rw [takeS_of hf]
 unfold takeK
 rw [if_neg (by omega),if_pos hk]
theorem chk_iff:∀ (l:Log) (last i:Int),(chk l last i).Code=0↔(∀ e∈l,1≤e.Term∧e.Term≤1000000000∧(e.Text.length:Int)≤200∧last≤e.Term)∧l.Pairwise fun a b=>a.Term≤b.Term
 | [],last,i=>⟨fun _=>⟨fun e h=>(by cases h),.nil⟩,fun _=>rfl⟩
 | e::l,last,i=>by
  rw [chk]
  by_cases c1:e.Term<1∨1000000000<e.Term
  ·rw [if_pos c1]
   exact ⟨fun h=>(by cases h),fun h=>by have:=h.1 e List.mem_cons_self; omega⟩
  rw [if_neg c1]
  by_cases c2:e.Term<last
  ·rw [if_pos c2]
   exact ⟨fun h=>(by cases h),fun h=>by have:=h.1 e List.mem_cons_self; omega⟩
  rw [if_neg c2]
  by_cases c3:200<(e.Text.length:Int)
  ·rw [if_pos c3]
   exact ⟨fun h=>(by cases h),fun h=>by have:=h.1 e List.mem_cons_self; omega⟩
  rw [if_neg c3,chk_iff l e.Term _,List.pairwise_cons]
  constructor
  ·rintro ⟨h1,h2⟩
   refine ⟨fun x hx=>?_,fun x hx=>(h1 x hx).2.2.2,h2⟩
   rcases List.mem_cons.1 hx with q | q
   ·rw [q]; omega
   ·have:=h1 x q; omega
  ·rintro ⟨h1,h2,h3⟩
   exact ⟨fun x hx=>by have:=h1 x (List.mem_cons_of_mem _ hx); have:=h2 x hx; omega,h3⟩
theorem fof_sub {l m:Log} (h:(fof l).Code=0) (hs:m.Sublist l):(fof m).Code=0:=by
 have hl:=(fof_good h).1
 have hm:=hs.length_le
 unfold fof at h ⊢
 rw [if_neg (by omega)] at h ⊢
 obtain ⟨h1,h2⟩:=(chk_iff l 0 0).1 h
 exact (chk_iff m 0 0).2 ⟨fun e he=>h1 e (hs.subset he),h2.sublist hs⟩
def Agr (W l:Log) (p:Nat):Prop:=p≤l.length∧p≤W.length∧l.take p=W.take p
theorem Agr.tat {W l:Log} {p:Nat} (h:Agr W l p):tat l (p:Int)=tat W (p:Int):=by
 obtain ⟨h1,h2,h3⟩:=h
 have e1:=tat_pre (List.take_prefix p l) (p:=(p:Int)) (by rw [List.length_take]; omega)
 have e2:=tat_pre (List.take_prefix p W) (p:=(p:Int)) (by rw [List.length_take]; omega)
 rw [e1,e2,h3]
theorem agr_of {G:Gh} {W l:Log} {p:Nat} (hW:LM G W) (hl:LM G l) (h1:p≤l.length) (h2:p≤W.length) (h:tat l (p:Int)=tat W (p:Int)):Agr W l p:=by
 refine ⟨h1,h2,?_⟩
 rcases Nat.eq_zero_or_pos p with q | q
 ·rw [q,List.take_zero,List.take_zero]
 ·have l1:p - 1<l.length:=by omega
  have l2:p - 1<W.length:=by omega
  have g1:=List.getElem?_eq_getElem l1
  have g2:=List.getElem?_eq_getElem l2
  have e1:=tat_get g1
  have e2:=tat_get g2
  rw [show p - 1+1=p by omega] at e1 e2
  have:=hl.same hW g1 g2 (by rw [← e1,← e2,h])
  rwa [show p - 1+1=p by omega] at this
def nxA (x:Node) (j:Nat):Nat:=(lget x.Next (j:Int) - 1).toNat
theorem bring_fin {x y:Node} {a j n:Nat} (hg:NGood x) (hr:x.Role=2) (hid:x.ID=(a:Int)) (hN:x.N=(n:Int)) (hT:1≤x.Term) (gy:NGood y) (yid:y.ID=(j:Int)) (yN:y.N=(n:Int)) (hj:j<n) (ha:a<n) (hja:j≠a):takF y (bringM x j)=⟨0,0⟩:=by
 obtain ⟨g1,g2,g3,g4,g5⟩:=hg.lead hr
 have hk:=g3 _ (lget_mem x.Next (j:Int) (by omega))
 have hl:=hg.len
 have ht1:=hg.t1
 have hc0:=hg.c0
 have hcl:=hg.cl
 have hsub:((x.Log.take (min (lget x.Next (j:Int) - 1+5) (x.Log.length:Int)).toNat).drop (lget x.Next (j:Int) - 1).toNat).Sublist x.Log:=(List.drop_sublist _ _).trans (List.take_sublist _ _)
 have hfE:=fof_sub hg.log hsub
 unfold takF
 rw [if_pos (nodeF_good.2 gy),if_pos]
 refine ⟨⟨by show (1:Int)≤3; decide,by show (3:Int)≤4; decide⟩,by show (j:Int)=y.ID; rw [yid],by show x.ID≠y.ID; rw [hid,yid]; omega,by show 0≤x.ID∧x.ID<y.N; rw [hid,yN]; omega,⟨hT,ht1⟩,by show 0≤lget x.Next (j:Int) - 1∧lget x.Next (j:Int) - 1≤1000000000; omega,?_,by show 0≤x.Commit∧x.Commit≤1000000000; omega,?_,.inr rfl,hfE,?_⟩
 ·show 0≤tat x.Log (lget x.Next (j:Int) - 1)∧tat x.Log (lget x.Next (j:Int) - 1)≤1000000000
  unfold tat
  split
  ·exact ⟨Int.le_refl _,by decide⟩
  ·rename_i c
   have:=(fof_good hg.log).2.2 _ (lget_mem x.Log (lget x.Next (j:Int) - 1 - 1) (by omega))
   omega
 ·show ((x.Log.take (min (lget x.Next (j:Int) - 1+5) (x.Log.length:Int)).toNat).drop (lget x.Next (j:Int) - 1).toNat).length≤5
  rw [List.length_drop,List.length_take]; omega
 ·show lastT ((x.Log.take (min (lget x.Next (j:Int) - 1+5) (x.Log.length:Int)).toNat).drop (lget x.Next (j:Int) - 1).toNat)≤x.Term
  generalize ((x.Log.take (min (lget x.Next (j:Int) - 1+5) (x.Log.length:Int)).toNat).drop (lget x.Next (j:Int) - 1).toNat)=E at hsub
  rcases Nat.eq_zero_or_pos E.length with q | q
  ·rw [lastT_nil q]; omega
  ·obtain ⟨e,he⟩:=last_is q
   rw [lastT_get q he]
   obtain ⟨p,hp⟩:=List.getElem?_of_mem (hsub.subset (List.mem_of_getElem? he))
   exact hg.le hp
section
variable {n:Nat} {G:Gh} {a j:Nat} {x y:Node}
theorem known_lead (hG:GG n G) {i c:Int} (hy:NI n G i y) {T:Int} {l:Log} (hle:y.Term≤T) (hel:G.el T=some (c,l)):y.Log.take y.Commit.toNat <+: G.ll T:=by
 obtain ⟨h1,h2,h3⟩:=hy.kn
 rcases h3 with h3 | ⟨U,u1,k,u2,u3,u4⟩
 ·rw [h3]; exact List.nil_prefix
 ·have hp:y.Log.take y.Commit.toNat <+: (G.ll U).take k:=pre_pre u4 (List.take_prefix _ _) (by have:=u3.le; rw [List.length_take,List.length_take]; omega)
  by_cases q:U=T
  ·rw [← q]; exact u4
  ·have:=lead_has hG u3 T.toNat T c l (by have:=(hG.el1 _ _ _ hel).1; omega) (by omega) hel
   exact (hp.trans this).trans (hG.el1 _ _ _ hel).2.2.1
theorem bring_eff (hG:GG n G) (hx:NI n G (a:Int) x) (gx:NGood x) (xid:x.ID=(a:Int)) (xN:x.N=(n:Int)) (xr:x.Role=2) (hT:1≤x.Term)
  (hy:NI n G (j:Int) y) (gy:NGood y) (yid:y.ID=(j:Int)) (yN:y.N=(n:Int)) (yT:y.Term=x.Term) (yr:y.Role≠2) (hj:j<n) (ha:a<n) (hja:j≠a) :
  (Agr x.Log y.Log (nxA x j)→∃ L c,takeS y (bringM x j)=(⟨y.N,y.ID,y.Term,y.Vote,L,0,c,[],[],[]⟩,[ans y (bringM x j) 4 ((min (nxA x j+5) x.Log.length:Nat):Int) true],⟨0,0⟩)∧x.Log.take (min (nxA x j+5) x.Log.length) <+: L∧(∀ w,w <+: y.Log→w <+: x.Log→w <+: L)∧
    c=max y.Commit (min x.Commit ((min (nxA x j+5) x.Log.length:Nat):Int)))∧
  (¬ Agr x.Log y.Log (nxA x j)→takeS y (bringM x j)=(fol y,[ans y (bringM x j) 4 (max 0 (min ((nxA x j:Int) - 1) (y.Log.length:Int))) false],⟨0,0⟩)):=by
 have hf:=bring_fin gx xr xid xN hT gy yid yN hj ha hja
 obtain ⟨g1,g2,g3,g4,g5⟩:=gx.lead xr
 have hk:=g3 _ (lget_mem x.Next (j:Int) (by omega))
 have hMI:MI n G (fun _=>0) (bringM x j):=bring_ok hx gx xid (by unfold isN; omega) xr (by omega)
 obtain ⟨⟨l,l1⟩,l2,l3⟩:=hx.ld xr
 have hA:((nxA x j:Nat):Int)=lget x.Next (j:Int) - 1:=by unfold nxA; omega
 have hmA:(bringM x j).A=((nxA x j:Nat):Int):=hA.symm
 have hlen:(bringM x j).Entries.length=min (nxA x j+5) x.Log.length - nxA x j:=by
  show ((x.Log.take (min (lget x.Next (j:Int) - 1+5) (x.Log.length:Int)).toNat).drop (lget x.Next (j:Int) - 1).toNat).length=_
  rw [List.length_drop,List.length_take,← hA]; omega
 have hAl:nxA x j≤x.Log.length:=by omega
 have hQ:nxA x j+(bringM x j).Entries.length=min (nxA x j+5) x.Log.length:=by omega
 have hfin:finM y (bringM x j):=by
  unfold takF at hf
  rw [if_pos (nodeF_good.2 gy)] at hf
  apply Classical.byContradiction
  intro q
  rw [if_neg q] at hf; cases hf
 obtain ⟨-,-,-,-,-,f6,f7,f8,-,-,f11,-⟩:=hfin
 have hpf:putF y.Log (bringM x j).A (bringM x j).B (bringM x j).Entries=⟨0,0⟩:=by
  unfold putF two
  rw [if_pos gy.log,if_pos f11,if_pos f11,ranged_eq,if_neg (by omega),if_neg (by omega)]
 have hmt:(bringM x j).B=tat x.Log (nxA x j:Int):=by show tat x.Log (lget x.Next (j:Int) - 1)=_; rw [hA]
 have hfit:fits y.Log (bringM x j).A (bringM x j).B↔Agr x.Log y.Log (nxA x j):=by
  unfold fits
  rw [hmt,hmA]
  constructor
  ·rintro ⟨q1,q2⟩
   exact agr_of hx.lm hy.lm (by omega) hAl q2
  ·intro q
   exact ⟨by have:=q.1; omega,q.tat⟩
 have htk:takeS y (bringM x j)=((take3 y (bringM x j)).1,(take3 y (bringM x j)).2,⟨0,0⟩):=by
  rw [takeS_of hf,bas_id (show (bringM x j).Term≤y.Term by show x.Term≤y.Term; omega)]
  unfold takeK
  rw [if_neg (show ¬ (bringM x j).Kind=1 from show ¬ (3:Int)=1 by decide),if_neg (show ¬ (bringM x j).Kind=2 from show ¬ (3:Int)=2 by decide),if_pos (show (bringM x j).Kind=3 from rfl)]
 have hnt:¬ (bringM x j).Term<y.Term:=by show ¬ x.Term<y.Term; omega
 refine ⟨fun hag=>?_,fun hag=>?_⟩
 ·have hft:=hfit.2 hag
  have hll:G.ll y.Term=x.Log:=by rw [yT,l2]
  have hspec:=put_spec x.Log (bringM x j).Entries (nxA x j) y.Log hag.1 (by omega) (by
   have:=(hMI.k3 rfl).2.2.2.1
   rw [hmA,show (bringM x j).Term=x.Term from rfl,← l2] at this
   simpa using this) hag.2.2 (fun p u v h1 h2 h3=>hy.lm.same hx.lm h1 h2 h3)
  have hfp:(fof (put (nxA x j) y.Log (bringM x j).Entries)).Code=0:=by
   rcases hspec with ⟨q,_⟩ | ⟨q,_⟩
   ·rw [q]; exact gy.log
   ·rw [q]; exact fof_sub gx.log (List.take_sublist _ _)
  have hps:putS y.Log (bringM x j).A (bringM x j).B (bringM x j).Entries=(put (nxA x j) y.Log (bringM x j).Entries,true,fof (put (nxA x j) y.Log (bringM x j).Entries)):=by
   unfold putS
   rw [hpf,if_pos rfl,if_pos hft,hmA,Int.toNat_natCast,if_pos hfp]
  have hhas:=put_has hspec
  have hcm:=fun w h1 h2=>put_common (w:=w) hspec (by omega) h1 h2
  rw [hQ] at hhas
  generalize hL:put (nxA x j) y.Log (bringM x j).Entries=L at *
  have hkn:=hy.kn
  have hcp:=hcm _ (List.take_prefix y.Commit.toNat y.Log) (by rw [l2]; exact known_lead hG hy (by omega) l1)
  have hcl:(y.Log.take y.Commit.toNat).length=y.Commit.toNat:=by rw [List.length_take]; have:=hkn.2.1; omega
  have hguard:¬ ((L.length:Int)<y.Commit∨L.take y.Commit.toNat≠y.Log.take y.Commit.toNat):=by
   have h1:=hcp.length_le
   have h2:=pre_take hcp (k:=y.Commit.toNat) (by omega)
   rw [List.take_take,Nat.min_self] at h2
   have h0:=hkn.1
   rintro (q | q)
   ·omega
   ·exact q h2
  refine ⟨L,max y.Commit (min x.Commit ((min (nxA x j+5) x.Log.length:Nat):Int)),?_,hhas,hcm,rfl⟩
  rw [htk]
  unfold take3
  rw [if_neg hnt,if_neg yr,hps]
  dsimp only
  rw [if_neg (not_not_intro hfp),if_neg (by decide),if_neg hguard]
  have e1:(bringM x j).A+((bringM x j).Entries.length:Int)=((min (nxA x j+5) x.Log.length:Nat):Int):=by rw [hmA]; omega
  rw [e1]; rfl
 ·have hft:¬ fits y.Log (bringM x j).A (bringM x j).B:=fun q=>hag (hfit.1 q)
  have hps:putS y.Log (bringM x j).A (bringM x j).B (bringM x j).Entries=(y.Log,false,⟨0,0⟩):=by
   unfold putS
   rw [hpf,if_pos rfl,if_neg hft]
  rw [htk]
  unfold take3
  rw [if_neg hnt,if_neg yr,hps]
  dsimp only
  rw [if_neg (by decide),if_pos rfl,hmA]
end
noncomputable def okI (x y:Node) (i:Nat):Bool:=@decide (Agr x.Log y.Log (nxA x i)) (Classical.propDecidable _)
noncomputable def upA (x y:Node) (i:Nat):Int:=if okI x y i=true then ((min (nxA x i+5) x.Log.length:Nat):Int) else max 0 (min ((nxA x i:Int) - 1) (y.Log.length:Int))
noncomputable def hvI (x y:Node) (i:Nat):Int:=if okI x y i=true then max (lget x.Have (i:Int)) ((min (nxA x i+5) x.Log.length:Nat):Int) else lget x.Have (i:Int)
noncomputable def nxI (x y:Node) (i:Nat):Int:=if okI x y i=true then hvI x y i+1 else max (lget x.Have (i:Int)+1) (min (lget x.Next (i:Int) - 1) (upA x y i+1))
theorem okI_iff {x y:Node} {i:Nat}:okI x y i=true↔Agr x.Log y.Log (nxA x i):=by unfold okI; exact @decide_eq_true_iff _ (Classical.propDecidable _)
structure LP (n a:Nat) (x0:Node) (ys:Nat→Node) (m:Nat) (x:Node) (acc:List Mail):Prop where
 g:NGood x
 id:x.ID=(a:Int)
 N:x.N=(n:Int)
 tm:x.Term=x0.Term
 ro:x.Role=2
 lg:x.Log=x0.Log
 em:acc=[]
 nx:∀ i:Nat,i<n→lget x.Next (i:Int)=if i<m∧i≠a then nxI x0 (ys i) i else lget x0.Next (i:Int)
 hv:∀ i:Nat,i<n→lget x.Have (i:Int)=if i<m∧i≠a then hvI x0 (ys i) i else lget x0.Have (i:Int)
 cm:x0.Commit≤x.Commit
 cn:(∀ i:Nat,i<n→lget x0.Have (i:Int)=(x0.Log.length:Int))→tat x0.Log (x0.Log.length:Int)=x0.Term→1≤x0.Log.length→(∃ i:Nat,i<m∧i≠a∧okI x0 (ys i) i=true)→x.Commit=(x0.Log.length:Int)
theorem lget_ext {l:List Int} {n:Nat} (h:(l.length:Int)=(n:Int)) {k:Int} (hk:k∈l):∃ i:Nat,i<n∧lget l (i:Int)=k:=by
 obtain ⟨i,hi,e⟩:=mem_lget.1 hk
 exact ⟨i,by omega,e⟩
theorem lp_step {n a j:Nat} {x0 x:Node} {ys:Nat→Node} {acc:List Mail} (h1:1≤n) (hT:1≤x0.Term) (h:LP n a x0 ys j x acc) (hj:j<n) (hja:j≠a) {z:Mail} (k:z.Kind=4) (to:z.To=(a:Int)) (fr:z.From=(j:Int)) (tm:z.Term=x0.Term) (b:z.B=0) (c:z.C0=0) (e:z.Entries=[])
  (ok:z.Ok=okI x0 (ys j) j) (za:z.A=upA x0 (ys j) j) (hyl:(ys j).Log.length≤100):(takeS x z).2.2.Code=0∧LP n a x0 ys (j+1) (takeS x z).1 (acc++(takeS x z).2.1):=by
 have hll:x.Log.length≤100:=h.g.len
 have hlg:=h.lg
 have hA:0≤z.A∧z.A≤1000000000:=by
  rw [za]; unfold upA
  split
  ·rw [← hlg]; omega
  ·omega
 have hid:=h.id
 have hN:=h.N
 have htm:=h.tm
 have hf:=fin0 (m:=z) h.g (by omega) (by rw [to,hid]) (by rw [fr,hid]; omega) (by rw [fr,hN]; omega) (by rw [tm]; have:=h.g.t1; omega) hA (by omega) c e
 have ht:takeS x z=((take4 x z).1,(take4 x z).2,⟨0,0⟩):=by
  rw [takeS_of hf,bas_id (by omega)]
  unfold takeK
  rw [if_neg (by omega),if_neg (by omega),if_neg (by omega)]
 have hok:=take_ok (x:=x) (m:=z) (by rw [ht])
 refine ⟨by rw [ht],?_⟩
 rw [ht] at hok ⊢
 obtain ⟨g1,g2,g3,g4,g5⟩:=h.g.lead h.ro
 have hnj:=h.nx j hj
 have hhj:=h.hv j hj
 rw [if_neg (by omega)] at hnj hhj
 have hnc:¬ (x.Role≠2∨z.Term≠x.Term):=by have:=h.ro; omega
 unfold take4 at hok ⊢
 rw [if_neg hnc] at hok ⊢
 by_cases o:z.Ok=true
 ·rw [if_pos o] at hok ⊢
  have oi:okI x0 (ys j) j=true:=by rw [← ok]; exact o
  have zA:z.A=((min (nxA x0 j+5) x0.Log.length:Nat):Int):=by rw [za]; unfold upA; rw [if_pos oi]
  have hnew:max (lget x.Have z.From) (min z.A (x.Log.length:Int))=hvI x0 (ys j) j:=by
   unfold hvI
   rw [if_pos oi,fr,hhj,zA,hlg]; omega
  have hvn:∀ i:Nat,i<n→lget (hav x z) (i:Int)=if i<j+1∧i≠a then hvI x0 (ys i) i else lget x0.Have (i:Int):=fun i hi=>by
   unfold hav
   rw [hnew,fr,lget_lset _ _ _ _ (by omega) (by omega)]
   by_cases q:i=j
   ·subst q
    rw [if_pos rfl,if_pos ⟨by omega,hja⟩]
   ·rw [if_neg (by omega),h.hv i hi]
    by_cases w:i<j∧i≠a
    ·rw [if_pos w,if_pos ⟨by omega,w.2⟩]
    ·rw [if_neg w,if_neg (by omega)]
  have hcd:=cntD_le (gd x.N x.Term x.Log (hav x z)) x.Commit.toNat x.Log.length
  refine ⟨hok.g,hid,hN,htm,h.ro,hlg,by rw [h.em]; rfl,fun i hi=>?_,hvn,?_,fun p1 p2 p3 _=>?_⟩
  ·show lget (lset x.Next z.From (max (lget x.Have z.From) (min z.A (x.Log.length:Int))+1)) (i:Int)=_
   rw [hnew,fr,lget_lset _ _ _ _ (by omega) (by omega)]
   by_cases q:i=j
   ·subst q
    rw [if_pos rfl,if_pos ⟨by omega,hja⟩]
    unfold nxI
    rw [if_pos oi]
   ·rw [if_neg (by omega),h.nx i hi]
    by_cases w:i<j∧i≠a
    ·rw [if_pos w,if_pos ⟨by omega,w.2⟩]
    ·rw [if_neg w,if_neg (by omega)]
  ·show x0.Commit≤((cntD (gd x.N x.Term x.Log (hav x z)) x.Commit.toNat x.Log.length:Nat):Int)
   have:=h.cm
   have:=h.g.c0
   omega
  ·show ((cntD (gd x.N x.Term x.Log (hav x z)) x.Commit.toNat x.Log.length:Nat):Int)=_
   have hall:∀ i:Nat,i<n→lget (hav x z) (i:Int)=(x.Log.length:Int):=fun i hi=>by
    rw [hvn i hi,hlg]
    split
    ·unfold hvI
     split
     ·rw [p1 i hi]; omega
     ·exact p1 i hi
    ·exact p1 i hi
   have hlen:((hav x z).length:Int)=(n:Int):=by unfold hav; rw [lset_len]; omega
   have hcount:haveN (hav x z) (x.Log.length:Int)=(hav x z).length:=by
    unfold haveN
    rw [List.countP_eq_length]
    intro k hk
    obtain ⟨i,hi,e⟩:=lget_ext hlen hk
    rw [← e,hall i hi]; simp
   have hgd:gd x.N x.Term x.Log (hav x z) x.Log.length=true:=by
    unfold gd
    rw [hcount,hlg,p2,hN,htm]
    simp; omega
   have hcl:=h.g.cl
   rw [hlg] at hgd hcl ⊢
   rw [hlg] at hcd
   obtain ⟨L,hL⟩:∃ L,x0.Log.length=L+1:=⟨x0.Log.length - 1,by omega⟩
   rw [hL] at hgd hcl hcd ⊢
   rw [cntD,hgd]
   split <;> simp <;> omega
 ·rw [if_neg o] at hok ⊢
  have oi:¬ okI x0 (ys j) j=true:=by rw [← ok]; exact o
  refine ⟨hok.g,hid,hN,htm,h.ro,hlg,by rw [h.em]; rfl,fun i hi=>?_,fun i hi=>?_,h.cm,fun p1 p2 p3 ⟨i,q1,q2,q3⟩=>?_⟩
  ·show lget (lset x.Next z.From (max (lget x.Have z.From+1) (min (lget x.Next z.From - 1) (z.A+1)))) (i:Int)=_
   rw [fr,lget_lset _ _ _ _ (by omega) (by omega)]
   by_cases q:i=j
   ·subst q
    rw [if_pos rfl,if_pos ⟨by omega,hja⟩]
    unfold nxI
    rw [if_neg oi,hhj,hnj,za]
   ·rw [if_neg (by omega),h.nx i hi]
    by_cases w:i<j∧i≠a
    ·rw [if_pos w,if_pos ⟨by omega,w.2⟩]
    ·rw [if_neg w,if_neg (by omega)]
  ·show lget x.Have (i:Int)=_
   rw [h.hv i hi]
   by_cases q:i=j
   ·subst q
    rw [if_neg (by omega),if_pos ⟨by omega,hja⟩]
    unfold hvI
    rw [if_neg oi]
   ·by_cases w:i<j∧i≠a
    ·rw [if_pos w,if_pos ⟨by omega,w.2⟩]
    ·rw [if_neg w,if_neg (by omega)]
  ·have:i≠j:=fun e=>oi (e▸q3)
   exact h.cn p1 p2 p3 ⟨i,by omega,q2,q3⟩
structure BB (n a:Nat) (ns ns':List Node):Prop where
 ro:(lget ns' (a:Int)).Role=2
 tm:(lget ns' (a:Int)).Term=(lget ns (a:Int)).Term
 lg:(lget ns' (a:Int)).Log=(lget ns (a:Int)).Log
 cm:(lget ns (a:Int)).Commit≤(lget ns' (a:Int)).Commit
 hv:∀ i:Nat,i<n→lget (lget ns' (a:Int)).Have (i:Int)=if i≠a then hvI (lget ns (a:Int)) (lget ns (i:Int)) i else lget (lget ns (a:Int)).Have (i:Int)
 nx:∀ i:Nat,i<n→i≠a→lget (lget ns' (a:Int)).Next (i:Int)=nxI (lget ns (a:Int)) (lget ns (i:Int)) i
 cn:(∀ i:Nat,i<n→lget (lget ns (a:Int)).Have (i:Int)=((lget ns (a:Int)).Log.length:Int))→tat (lget ns (a:Int)).Log ((lget ns (a:Int)).Log.length:Int)=(lget ns (a:Int)).Term→1≤(lget ns (a:Int)).Log.length→(∃ i:Nat,i<n∧i≠a∧okI (lget ns (a:Int)) (lget ns (i:Int)) i=true)→(lget ns' (a:Int)).Commit=((lget ns (a:Int)).Log.length:Int)
 ft:∀ i:Nat,i<n→i≠a→(lget ns' (i:Int)).Term=(lget ns (a:Int)).Term
 fo:∀ i:Nat,i<n→i≠a→okI (lget ns (a:Int)) (lget ns (i:Int)) i=true→(lget ns (a:Int)).Log.take (min (nxA (lget ns (a:Int)) i+5) (lget ns (a:Int)).Log.length) <+: (lget ns' (i:Int)).Log∧(∀ w,w <+: (lget ns (i:Int)).Log→w <+: (lget ns (a:Int)).Log→w <+: (lget ns' (i:Int)).Log)∧
   (lget ns' (i:Int)).Commit=max (lget ns (i:Int)).Commit (min (lget ns (a:Int)).Commit ((min (nxA (lget ns (a:Int)) i+5) (lget ns (a:Int)).Log.length:Nat):Int))
 fn:∀ i:Nat,i<n→i≠a→¬ okI (lget ns (a:Int)) (lget ns (i:Int)) i=true→(lget ns' (i:Int)).Log=(lget ns (i:Int)).Log∧(lget ns' (i:Int)).Commit=(lget ns (i:Int)).Commit
section
variable {texts:List (List UInt8)} {n k a:Nat} {ds:List Deed} {ns:List Node} {way:List Mail}
theorem Rch.node (h:Rch texts n ds ns way k) {j:Nat} (hj:j<n):NGood (lget ns (j:Int))∧(lget ns (j:Int)).ID=(j:Int)∧(lget ns (j:Int)).N=(n:Int)∧((lget ns (j:Int)).Role≠0→1≤(lget ns (j:Int)).Term):=by
 obtain ⟨x1,x2,x3,x4⟩:=h.gi.1.nd j hj
 exact ⟨x1,x3,x2,x4⟩
theorem calm_beat (h:Rch texts n ds ns (mls (a:Int) (bringM (lget ns (a:Int))) n) k) (ha:a<n) (hr:(lget ns (a:Int)).Role=2) (ht:∀ i:Nat,i<n→i≠a→(lget ns (i:Int)).Term=(lget ns (a:Int)).Term) {P:List Node→Prop} (hP:∀ ns',BB n a ns ns'→P ns'):Calm texts n ds k P:=by
 have hgi:=h.gi.1
 have hlen:=hgi.len
 have h7:=h.h7
 obtain ⟨xg,xid,xN,xT⟩:=h.node ha
 have hT:=xT (by omega)
 obtain ⟨G,hri,-⟩:=h.inv
 have hni:∀ j:Nat,j<n→NI n G (j:Int) (lget ns (j:Int)):=fun j hj=>hri.nd _ ⟨by omega,by omega⟩
 have hro:∀ j:Nat,j<n→j≠a→(lget ns (j:Int)).Role≠2:=fun j hj hja q=>by
  obtain ⟨⟨l,l1⟩,_⟩:=(hni j hj).ld q
  obtain ⟨⟨l',l2⟩,_⟩:=(hni a ha).ld hr
  rw [ht j hj hja,l2] at l1
  cases l1; exact hja rfl
 have heff:=fun (j:Nat) (hj:j<n) (hja:j≠a)=>bring_eff hri.gg (hni a ha) xg xid xN hr hT (hni j hj) (h.node hj).1 (h.node hj).2.1 (h.node hj).2.2.1 (ht j hj hja) (hro j hj hja) hj ha hja
 generalize hx0:lget ns (a:Int)=x0 at *
 have heff2:∀ j:Nat,j<n→j≠a→∃ z:Mail,(takeS (lget ns (j:Int)) (bringM x0 j)).2.2.Code=0∧(takeS (lget ns (j:Int)) (bringM x0 j)).2.1=[z]∧z.Kind=4∧z.To=(a:Int)∧z.From=(j:Int)∧z.Term=x0.Term∧z.B=0∧z.C0=0∧z.Entries=[]∧z.Ok=okI x0 (lget ns (j:Int)) j∧z.A=upA x0 (lget ns (j:Int)) j:=fun j hj hja=>by
  obtain ⟨e1,e2⟩:=heff j hj hja
  obtain ⟨yg,yid,yN,yT⟩:=h.node hj
  by_cases o:okI x0 (lget ns (j:Int)) j=true
  ·obtain ⟨L,c,f1,_⟩:=e1 (okI_iff.1 o)
   rw [f1]
   exact ⟨_,rfl,rfl,rfl,xid,yid,ht j hj hja,rfl,rfl,rfl,o.symm,by unfold upA; rw [if_pos o]; rfl⟩
  ·have f1:=e2 (fun q=>o (okI_iff.2 q))
   rw [f1]
   exact ⟨_,rfl,rfl,rfl,xid,yid,ht j hj hja,rfl,rfl,rfl,(by rw [Bool.not_eq_true] at o; exact o.symm),by unfold upA; rw [if_neg o]; rfl⟩
 have hway:(mls (a:Int) (bringM x0) n).length≤20:=by have:=mls_len (a:Int) (bringM x0) n; omega
 obtain ⟨r1,r2,r3⟩:=rnd_others (a:=a) (f:=bringM x0) (r:=fun j=>(takeS (lget ns (j:Int)) (bringM x0 j)).1) (q:=fun j=>(takeS (lget ns (j:Int)) (bringM x0 j)).2.1) (ns:=ns) [] n (by omega) (fun j hj hja=>⟨rfl,(takeS (lget ns (j:Int)) (bringM x0 j)).2.2,(heff2 j hj hja).choose_spec.1,rfl⟩)
 rw [List.nil_append] at r3
 have hns1a:lget (rnd (mls (a:Int) (bringM x0) n) ns []).1 (a:Int)=x0:=by rw [r2 a,if_neg (by omega),hx0]
 have hLP0:LP n a x0 (fun i=>lget ns (i:Int)) 0 x0 []:=⟨xg,xid,xN,rfl,hr,rfl,rfl,fun i hi=>by rw [if_neg (by omega)],fun i hi=>by rw [if_neg (by omega)],Int.le_refl _,fun _ _ _ ⟨i,q,_⟩=>by omega⟩
 obtain ⟨s1,s2,s3⟩:=rnd_to (a:=a) (q:=fun j=>(takeS (lget ns (j:Int)) (bringM x0 j)).2.1) (P:=LP n a x0 (fun i=>lget ns (i:Int))) (ns:=(rnd (mls (a:Int) (bringM x0) n) ns []).1) (acc:=[]) (by omega) (by rw [hns1a]; exact hLP0) n
  (fun j hj hja x acc hp=>by
   obtain ⟨z,z1,z2,z3,z4,z5,z6,z7,z8,z9,z10,z11⟩:=heff2 j hj hja
   refine ⟨fun q=>(by rw [z2] at q; cases q),fun z' q=>?_⟩
   rw [z2] at q
   cases q
   obtain ⟨u1,u2⟩:=lp_step h.h1 hT hp hj hja z3 z4 z5 z6 z7 z8 z9 z10 z11 (h.node hj).1.len
   exact ⟨z4,u1,u2⟩)
  (fun x acc hp=>⟨hp.g,hp.id,hp.N,hp.tm,hp.ro,hp.lg,hp.em,fun i hi=>by
    rw [hp.nx i hi]
    by_cases w:i<a∧i≠a
    ·rw [if_pos w,if_pos ⟨by omega,w.2⟩]
    ·rw [if_neg w,if_neg (by omega)],fun i hi=>by
    rw [hp.hv i hi]
    by_cases w:i<a∧i≠a
    ·rw [if_pos w,if_pos ⟨by omega,w.2⟩]
    ·rw [if_neg w,if_neg (by omega)],hp.cm,fun p1 p2 p3 ⟨i,q1,q2,q3⟩=>hp.cn p1 p2 p3 ⟨i,by omega,q2,q3⟩⟩)
  (fun j hj hja=>by obtain ⟨z,z1,z2,_⟩:=heff2 j hj hja; exact .inr ⟨z,z2⟩)
 rw [← r3] at s1 s2 s3
 have hfin:BB n a ns (rnd (rnd (mls (a:Int) (bringM x0) n) ns []).2 (rnd (mls (a:Int) (bringM x0) n) ns []).1 []).1:=by
  refine ⟨s3.ro,by rw [hx0]; exact s3.tm,by rw [hx0]; exact s3.lg,by rw [hx0]; exact s3.cm,fun i hi=>?_,fun i hi hia=>?_,fun p1 p2 p3 p4=>?_,fun i hi hia=>?_,fun i hi hia o=>?_,fun i hi hia o=>?_⟩
  ·rw [hx0,s3.hv i hi]
   by_cases q:i=a
   ·rw [if_neg (by omega),if_neg (by omega)]
   ·rw [if_pos ⟨hi,q⟩,if_pos q]
  ·rw [hx0,s3.nx i hi,if_pos ⟨hi,hia⟩]
  ·rw [hx0] at p1 p2 p3 p4 ⊢
   exact s3.cn p1 p2 p3 p4
  ·rw [s2 i hia,r2 i,if_pos ⟨hi,hia⟩,hx0,(take_tm (heff2 i hi hia).choose_spec.1).1,ht i hi hia]
   show max x0.Term x0.Term=_; omega
  ·rw [hx0] at o ⊢
   rw [s2 i hia,r2 i,if_pos ⟨hi,hia⟩]
   obtain ⟨L,c,f1,f2,f3,f4⟩:=(heff i hi hia).1 (okI_iff.1 o)
   rw [f1]
   exact ⟨f2,f3,f4⟩
  ·rw [hx0] at o
   rw [s2 i hia,r2 i,if_pos ⟨hi,hia⟩]
   have f1:=(heff i hi hia).2 (fun q=>o (okI_iff.2 q))
   rw [f1]
   exact ⟨rfl,rfl⟩
 have hem:(rnd (rnd (mls (a:Int) (bringM x0) n) ns []).2 (rnd (mls (a:Int) (bringM x0) n) ns []).1 []).2=[]:=s3.em
 have hl2:(rnd (mls (a:Int) (bringM x0) n) ns []).2.length≤20:=by
  rw [r3]
  have:=mlq_len (a:=a) (q:=fun j=>(takeS (lget ns (j:Int)) (bringM x0 j)).2.1) n (fun j hj hja=>by obtain ⟨z,z1,z2,_⟩:=heff2 j hj hja; show (takeS _ _).2.1.length≤1; rw [z2]; exact Nat.le_refl _)
  omega
 have hstop:∀ ds',Rch texts n ds' (rnd (rnd (mls (a:Int) (bringM x0) n) ns []).2 (rnd (mls (a:Int) (bringM x0) n) ns []).1 []).1 (rnd (rnd (mls (a:Int) (bringM x0) n) ns []).2 (rnd (mls (a:Int) (bringM x0) n) ns []).1 []).2 k→Calm texts n ds' k P:=fun ds' hd=>by
  rw [hem] at hd
  exact .done hd (hP _ hfin)
 have hz1:(rnd (mls (a:Int) (bringM x0) n) ns []).2=[]→P (rnd (mls (a:Int) (bringM x0) n) ns []).1:=fun q=>by
  have:=hP _ hfin
  rw [q] at this; exact this
 refine Calm.round h hway (fun ds' hd=>Calm.round hd hl2 hstop hz1) (fun q=>?_)
 have:=hP _ hfin
 rw [q] at this; exact this
end
structure Led (n a:Nat) (ns':List Node):Prop where
 ro:(lget ns' (a:Int)).Role=2
 tm:∀ j:Nat,j<n→(lget ns' (j:Int)).Term=(lget ns' (a:Int)).Term
 hn:∀ j:Nat,j<n→j≠a→lget (lget ns' (a:Int)).Have (j:Int)≤lget (lget ns' (a:Int)).Next (j:Int) - 1
structure Even (n a:Nat) (ns ns':List Node):Prop where
 all:∀ j:Nat,j<n→(lget ns' (j:Int)).Term=(lget ns (a:Int)).Term+1∧(lget ns' (j:Int)).Log=(lget ns (j:Int)).Log
 nw:∃ j:Nat,j<n∧j≠a∧((lget ns (j:Int)).Term=(lget ns (a:Int)).Term+1∨Newer (lget ns (j:Int)).Log (lget ns (a:Int)).Log)
structure Rose (n a:Nat) (ns ns':List Node):Prop where
 gt:∃ j:Nat,j<n∧(lget ns (a:Int)).Term+1<(lget ns (j:Int)).Term
 up:∀ j:Nat,j<n→(lget ns (j:Int)).Term≤(lget ns' (j:Int)).Term∧(lget ns (j:Int)).Term≤(lget ns' (a:Int)).Term
 le:∀ c:Int,(∀ j:Nat,j<n→(lget ns (j:Int)).Term≤c)→∀ j:Nat,j<n→(lget ns' (j:Int)).Term≤c
def TO (n a:Nat) (ns ns':List Node):Prop:=Led n a ns'∨((lget ns' (a:Int)).Role≠2∧(Even n a ns ns'∨Rose n a ns ns'))
theorem Calm.round2 {texts:List (List UInt8)} {n k:Nat} {ds:List Deed} {ns:List Node} {way:List Mail} {P:List Node→Prop} (h:Rch texts n ds ns way k) (hw:way.length≤20) (hn:∀ ds',Rch texts n ds' (rnd way ns []).1 (rnd way ns []).2 k→Calm texts n ds' k P):Calm texts n ds k P:=by
 by_cases c:way=[]
 ·subst c; exact hn ds h
 ·exact Calm.round h hw hn (fun q=>absurd q c)
theorem Calm.mono {texts:List (List UInt8)} {n k:Nat} {ds:List Deed} {P Q:List Node→Prop} (h:Calm texts n ds k P) (hpq:∀ ns,P ns→Q ns):Calm texts n ds k Q:=by
 obtain ⟨ds',ns',way',a,b,c⟩:=h
 refine ⟨ds',ns',way',a,b,?_⟩
 rcases c with c | ⟨c,d⟩
 ·exact .inl c
 ·exact .inr ⟨c,hpq _ d⟩
section
variable {texts:List (List UInt8)} {n k a:Nat} {ds:List Deed} {ns:List Node} {way:List Mail}
theorem bad0 (h:Rch texts n ds ns way k) {d:Deed} (hk:d.Kind=0∨d.Kind=2∨d.Kind=6∨(d.Kind=1∧k<texts.length)) (hw:d.Who=(a:Int)) (ha:a<n):badC texts d ns way k=0:=by
 have hl:=h.gi.1.len
 unfold badC
 rw [if_neg (by omega),if_neg (by omega),if_neg (by omega)]
theorem take3_mails {y:Node} {m:Mail} (hl:y.Log.length≤100) (ha:0≤m.A∧m.A≤1000) (he:m.Entries.length≤5):(take3 y m).2=[]∨∃ (A:Int) (ok:Bool),(take3 y m).2=[ans y m 4 A ok]∧0≤A∧A≤1000000000:=by
 unfold take3
 split
 ·exact .inr ⟨_,_,rfl,by omega,by omega⟩
 split
 ·exact .inl rfl
 split
 ·exact .inl rfl
 split
 ·exact .inr ⟨_,_,rfl,by omega,by omega⟩
 split
 ·exact .inl rfl
 ·exact .inr ⟨_,_,rfl,by omega,by omega⟩
theorem stood (h:Rch texts n ds ns [] k) (ha:a<n) (hl:ds.length≤1800):∃ x2:Node,Rch texts n (ds++[(⟨6,(a:Int),0⟩:Deed),(⟨0,(a:Int),0⟩:Deed)]) (lset (lset ns (a:Int) ⟨(lget ns (a:Int)).N,(lget ns (a:Int)).ID,(lget ns (a:Int)).Term,(lget ns (a:Int)).Vote,(lget ns (a:Int)).Log,0,0,[],[],[]⟩) (a:Int) x2) (mls (a:Int) (askM (a:Int) ((lget ns (a:Int)).Term+1) (lget ns (a:Int)).Log) n) k∧
  x2.Term=(lget ns (a:Int)).Term+1∧x2.Log=(lget ns (a:Int)).Log∧(n=1→x2.Role=2)∧(n≠1→x2.Role=1∧x2.Votes=[(a:Int)]):=by
 have hlen:=h.gi.1.len
 obtain ⟨xg,xid,xN,xT⟩:=h.node ha
 have htn:=h.tn (a:Int) ⟨by omega,by omega⟩
 generalize hx:lget ns (a:Int)=x at *
 have hb1:=bad0 (d:=⟨6,(a:Int),0⟩) h (.inr (.inr (.inl rfl))) rfl ha
 have hd1:deedC texts ⟨6,(a:Int),0⟩ ns [] k=(lset ns (a:Int) ⟨x.N,x.ID,x.Term,x.Vote,x.Log,0,0,[],[],[]⟩,[],k):=by
  unfold deedC
  rw [if_neg (show ¬ (6:Int)=0 by decide),if_neg (show ¬ (6:Int)=1 by decide),if_neg (show ¬ (6:Int)=2 by decide),if_neg (show ¬ (6:Int)=3 by decide),if_neg (show ¬ (6:Int)=4 by decide),if_neg (show ¬ (6:Int)=5 by decide)]
  have hr:restS x=(⟨x.N,x.ID,x.Term,x.Vote,x.Log,0,0,[],[],[]⟩,nodeF x):=by
   unfold restS
   rw [if_neg (not_not_intro (nodeF_good.2 xg))]
  show ((act ns [] (a:Int) ((restS (lget ns (a:Int))).1,[],(restS (lget ns (a:Int))).2)).1,(act ns [] (a:Int) ((restS (lget ns (a:Int))).1,[],(restS (lget ns (a:Int))).2)).2,k)=_
  rw [hx,hr]
  unfold act
  rw [if_pos (nodeF_good.2 xg)]; rfl
 have h1:=h.snoc (by omega) hb1 (by rw [hd1]; exact Nat.zero_le _)
 rw [hd1] at h1
 have hb2:=bad0 (d:=⟨0,(a:Int),0⟩) h1 (.inl rfl) rfl ha
 have hx1:lget (lset ns (a:Int) (⟨x.N,x.ID,x.Term,x.Vote,x.Log,0,0,[],[],[]⟩:Node)) (a:Int)=⟨x.N,x.ID,x.Term,x.Vote,x.Log,0,0,[],[],[]⟩:=by rw [lget_lset _ _ _ _ (by omega) (by omega),if_pos rfl]
 obtain ⟨yg,-⟩:=h1.node ha
 rw [hx1] at yg
 have hst:standS (⟨x.N,x.ID,x.Term,x.Vote,x.Log,0,0,[],[],[]⟩:Node)=(if x.N=1 then leaderN (stX ⟨x.N,x.ID,x.Term,x.Vote,x.Log,0,0,[],[],[]⟩) else stX ⟨x.N,x.ID,x.Term,x.Vote,x.Log,0,0,[],[],[]⟩,mls x.ID (askM x.ID (x.Term+1) x.Log) x.N.toNat,⟨0,0⟩):=by
  unfold standS
  rw [if_neg (not_not_intro (nodeF_good.2 yg)),if_neg (show ¬ (0:Int)=2 by decide),if_neg (show ¬ x.Term=1000000000 by omega)]
 have hd2:deedC texts ⟨0,(a:Int),0⟩ (lset ns (a:Int) ⟨x.N,x.ID,x.Term,x.Vote,x.Log,0,0,[],[],[]⟩) [] k=(lset (lset ns (a:Int) ⟨x.N,x.ID,x.Term,x.Vote,x.Log,0,0,[],[],[]⟩) (a:Int) (if x.N=1 then leaderN (stX ⟨x.N,x.ID,x.Term,x.Vote,x.Log,0,0,[],[],[]⟩) else stX ⟨x.N,x.ID,x.Term,x.Vote,x.Log,0,0,[],[],[]⟩),mls x.ID (askM x.ID (x.Term+1) x.Log) x.N.toNat,k):=by
  unfold deedC
  rw [if_pos (show (0:Int)=0 from rfl)]
  show ((act _ [] (a:Int) (standS (lget _ (a:Int)))).1,(act _ [] (a:Int) (standS (lget _ (a:Int)))).2,k)=_
  rw [hx1,hst]
  unfold act
  rw [if_pos rfl,List.nil_append]
 have hmn:(mls x.ID (askM x.ID (x.Term+1) x.Log) x.N.toNat).length≤200:=by have:=mls_len x.ID (askM x.ID (x.Term+1) x.Log) x.N.toNat; have:=h.h7; omega
 have h2:=h1.snoc (by simp; omega) hb2 (by rw [hd2]; exact hmn)
 rw [hd2] at h2
 have hNn:x.N.toNat=n:=by omega
 have hm:mls x.ID (askM x.ID (x.Term+1) x.Log) x.N.toNat=mls (a:Int) (askM (a:Int) (x.Term+1) x.Log) n:=by rw [xid,hNn]
 rw [hm] at h2
 refine ⟨_,by rw [List.append_assoc] at h2; exact h2,?_,?_,fun q=>?_,fun q=>?_⟩
 ·split <;> rfl
 ·split <;> rfl
 ·rw [if_pos (by omega)]; rfl
 ·rw [if_neg (by omega)]; exact ⟨rfl,by show [x.ID]=_; rw [xid]⟩
structure PE (n a:Nat) (T:Int) (L:Log) (zf:Nat→Mail) (m:Nat) (x:Node) (acc:List Mail):Prop where
 g:NGood x
 id:x.ID=(a:Int)
 N:x.N=(n:Int)
 tm:x.Term=T
 lg:x.Log=L
 c:(x.Role=1∧acc=[]∧(a:Int)∈x.Votes∧∀ i:Nat,i<m→i≠a→(zf i).Ok=true→(i:Int)∈x.Votes)∨(x.Role=2∧acc=mls (a:Int) (bringM x) n)
structure PN (n a:Nat) (T:Int) (tt:Nat→Int) (m:Nat) (x:Node) (acc:List Mail):Prop where
 g:NGood x
 id:x.ID=(a:Int)
 N:x.N=(n:Int)
 lo:T≤x.Term
 up:∀ c:Int,T≤c→(∀ j:Nat,j<n→tt j≤c)→x.Term≤c
 ge:∀ i:Nat,i<m→i≠a→max (tt i) T≤x.Term
 ro:x.Term=T∨x.Role=0
 r1:x.Role=1→acc=[]
 ac:acc=[]∨∃ x0:Node,acc=mls (a:Int) (bringM x0) n∧NGood x0∧x0.Role=2∧x0.ID=(a:Int)∧x0.N=(n:Int)∧x0.Term=T
theorem vts_mem {x:Node} {z:Mail} {i:Int}:i∈vts x z↔i∈x.Votes∨i=z.From:=by
 unfold vts
 split
 ·rename_i h
  constructor
  ·exact .inl
  ·rintro (q | q)
   ·exact q
   ·rw [q]; exact h
 ·simp
theorem pe_step {T:Int} {L:Log} {zf:Nat→Mail} {j:Nat} {x:Node} {acc:List Mail} (h:PE n a T L zf j x acc) (hj:j<n) (hja:j≠a) (hT:1≤T∧T≤1000000000) (k:(zf j).Kind=2) (fr:(zf j).From=(j:Int)) (to:(zf j).To=(a:Int)) (tm:(zf j).Term=T) (A:(zf j).A=0) (B:(zf j).B=0) (C:(zf j).C0=0) (E:(zf j).Entries=[]) :
  (takeS x (zf j)).2.2.Code=0∧PE n a T L zf (j+1) (takeS x (zf j)).1 (acc++(takeS x (zf j)).2.1):=by
 have ht:=give_eff h.g h.id h.N k to (by omega) (by omega) A B C E
 rw [bas_id (by rw [tm,h.tm]; exact Int.le_refl _)] at ht
 have hok:=take_ok (x:=x) (m:=zf j) (by rw [ht])
 refine ⟨by rw [ht],?_⟩
 rw [ht] at hok ⊢
 have hN:=h.N
 have hid:=h.id
 unfold take2 at hok ⊢
 rcases h.c with ⟨c1,c2,c3,c4⟩ | ⟨c1,c2⟩
 ·by_cases o:(zf j).Ok=true
  ·have hn:¬ (x.Role≠1∨(zf j).Term≠x.Term∨(zf j).Ok=false):=by
    rintro (q | q | q)
    ·exact q c1
    ·exact q (by rw [tm,h.tm])
    ·rw [o] at q; cases q
   rw [if_neg hn] at hok ⊢
   by_cases cm:x.N<2*((vts x (zf j)).length:Int)
   ·rw [if_pos cm] at hok ⊢
    refine ⟨hok.g,hid,hN,h.tm,h.lg,.inr ⟨rfl,?_⟩⟩
    rw [c2,List.nil_append]
    show mls x.ID _ x.N.toNat=_
    rw [hid,hN]; rfl
   ·rw [if_neg cm] at hok ⊢
    refine ⟨hok.g,hid,hN,h.tm,h.lg,.inl ⟨c1,by rw [c2]; rfl,vts_mem.2 (.inl c3),fun i hi hia hio=>vts_mem.2 ?_⟩⟩
    by_cases q:i=j
    ·right; rw [q,fr]
    ·exact .inl (c4 i (by omega) hia hio)
  ·rw [if_pos (.inr (.inr (by simpa using o)))] at hok ⊢
   refine ⟨h.g,hid,hN,h.tm,h.lg,.inl ⟨c1,by rw [c2]; rfl,c3,fun i hi hia hio=>?_⟩⟩
   have:i≠j:=fun q=>o (q▸hio)
   exact c4 i (by omega) hia hio
 ·rw [if_pos (.inl (by omega))] at hok ⊢
  exact ⟨h.g,hid,hN,h.tm,h.lg,.inr ⟨c1,by rw [c2,List.append_nil]⟩⟩
theorem pn_step {T:Int} {tt:Nat→Int} {z:Mail} {j:Nat} {x:Node} {acc:List Mail} (h:PN n a T tt j x acc) (hj:j<n) (hja:j≠a) (hT:1≤T) (hmx:max (tt j) T≤1000000000) (k:z.Kind=2) (fr:z.From=(j:Int)) (to:z.To=(a:Int)) (tm:z.Term=max (tt j) T) (A:z.A=0) (B:z.B=0) (C:z.C0=0) (E:z.Entries=[]) :
  (takeS x z).2.2.Code=0∧PN n a T tt (j+1) (takeS x z).1 (acc++(takeS x z).2.1):=by
 have ht:=give_eff h.g h.id h.N k to (by omega) (by omega) A B C E
 have hok:=take_ok (x:=x) (m:=z) (by rw [ht])
 have htm:=(take_tm (x:=x) (m:=z) (by rw [ht])).1
 refine ⟨by rw [ht],?_⟩
 have hN:=h.N
 have hid:=h.id
 have hlo:=h.lo
 have hup:∀ c:Int,T≤c→(∀ j:Nat,j<n→tt j≤c)→(takeS x z).1.Term≤c:=fun c hc1 hc=>by
  have:=h.up c hc1 hc
  have:=hc j hj
  rw [htm]; omega
 have hge:∀ i:Nat,i<j+1→i≠a→max (tt i) T≤(takeS x z).1.Term:=fun i hi hia=>by
  rw [htm]
  by_cases q:i=j
  ·rw [q]; omega
  ·have:=h.ge i (by omega) hia; omega
 have hn':(takeS x z).1.N=(n:Int):=by rw [hok.n,hN]
 have hi':(takeS x z).1.ID=(a:Int):=by rw [hok.i,hid]
 refine ⟨hok.g,hi',hn',by rw [htm]; omega,hup,hge,?_,?_,?_⟩
 all_goals rw [ht]
 all_goals dsimp only
 all_goals unfold take2
 ·by_cases c:(bas x z).Role≠1∨z.Term≠(bas x z).Term∨z.Ok=false
  ·rw [if_pos c]
   unfold bas
   by_cases q:x.Term<z.Term
   ·rw [if_pos q]; exact .inr rfl
   ·rw [if_neg q]; exact h.ro
  ·rw [if_neg c]
   have hb:bas x z=x:=by
    refine bas_id (Int.not_lt.1 fun q=>c (.inl ?_))
    unfold bas
    rw [if_pos q]; show (0:Int)≠1; decide
   rw [hb] at c ⊢
   have hT2:x.Term=T:=by
    rcases h.ro with q | q
    ·exact q
    ·exact absurd (.inl (by omega)) c
   left
   split <;> exact hT2
 ·by_cases c:(bas x z).Role≠1∨z.Term≠(bas x z).Term∨z.Ok=false
  ·rw [if_pos c]
   unfold bas
   by_cases q:x.Term<z.Term
   ·rw [if_pos q]; intro w; exact absurd (show (0:Int)=1 from w) (by decide)
   ·rw [if_neg q]; intro w; rw [h.r1 w]; rfl
  ·rw [if_neg c]
   have hb:bas x z=x:=by
    refine bas_id (Int.not_lt.1 fun q=>c (.inl ?_))
    unfold bas
    rw [if_pos q]; show (0:Int)≠1; decide
   rw [hb] at c ⊢
   split
   ·intro w; exact absurd (show (2:Int)=1 from w) (by decide)
   ·intro w; rw [h.r1 w]; rfl
 ·by_cases c:(bas x z).Role≠1∨z.Term≠(bas x z).Term∨z.Ok=false
  ·rw [if_pos c,List.append_nil]; exact h.ac
  ·rw [if_neg c]
   have hb:bas x z=x:=by
    refine bas_id (Int.not_lt.1 fun q=>c (.inl ?_))
    unfold bas
    rw [if_pos q]; show (0:Int)≠1; decide
   have hg2:=hok.g
   rw [ht] at hg2
   dsimp only at hg2
   unfold take2 at hg2
   rw [if_neg c] at hg2
   rw [hb] at c hg2 ⊢
   have hT2:x.Term=T:=by
    rcases h.ro with q | q
    ·exact q
    ·exact absurd (.inl (by omega)) c
   have hac:acc=[]:=h.r1 (Classical.not_not.1 fun q=>c (.inl q))
   rw [hac,List.nil_append]
   by_cases cm:x.N<2*((vts x z).length:Int)
   ·rw [if_pos cm] at hg2 ⊢
    refine .inr ⟨leaderN (wv x (vts x z)),?_,hg2,rfl,hid,hN,hT2⟩
    show mls x.ID _ x.N.toNat=_
    rw [hid,hN]; rfl
   ·rw [if_neg cm]; exact .inl rfl
end
section
variable {texts:List (List UInt8)} {n k a:Nat} {ds:List Deed} {ns:List Node} {way:List Mail}
theorem calm_late {x0:Node} (h:Rch texts n ds ns (mls (a:Int) (bringM x0) n) k) (ha:a<n) (g0:NGood x0) (r0:x0.Role=2) (id0:x0.ID=(a:Int)) (N0:x0.N=(n:Int)) (T0:1≤x0.Term) (hr:(lget ns (a:Int)).Role=0) (ht:∀ j:Nat,j<n→j≠a→x0.Term≤(lget ns (j:Int)).Term∧(lget ns (j:Int)).Term≤(lget ns (a:Int)).Term)
  {P:List Node→Prop} (hP:∀ ns',lget ns' (a:Int)=lget ns (a:Int)→(∀ j:Nat,j<n→(lget ns' (j:Int)).Term=(lget ns (j:Int)).Term)→P ns'):Calm texts n ds k P:=by
 have hlen:=h.gi.1.len
 have h7:=h.h7
 obtain ⟨xg,xid,xN,xT⟩:=h.node ha
 obtain ⟨g1,g2,g3,g4,g5⟩:=g0.lead r0
 have hl0:=g0.len
 have heff:∀ j:Nat,j<n→j≠a→(takeS (lget ns (j:Int)) (bringM x0 j)).2.2.Code=0∧(takeS (lget ns (j:Int)) (bringM x0 j)).1.Term=(lget ns (j:Int)).Term∧((takeS (lget ns (j:Int)) (bringM x0 j)).2.1=[]∨∃ (A:Int) (ok:Bool),(takeS (lget ns (j:Int)) (bringM x0 j)).2.1=[ans (lget ns (j:Int)) (bringM x0 j) 4 A ok]∧0≤A∧A≤1000000000):=fun j hj hja=>by
  obtain ⟨yg,yid,yN,yT⟩:=h.node hj
  have hf:=bring_fin g0 r0 id0 N0 T0 yg yid yN hj ha hja
  have hle:=(ht j hj hja).1
  have hts:takeS (lget ns (j:Int)) (bringM x0 j)=((take3 (lget ns (j:Int)) (bringM x0 j)).1,(take3 (lget ns (j:Int)) (bringM x0 j)).2,⟨0,0⟩):=by
   rw [takeS_of hf,bas_id hle]; rfl
  have hk:=g3 _ (lget_mem x0.Next (j:Int) (by omega))
  have hE:(bringM x0 j).Entries.length≤5:=by
   show ((x0.Log.take (min (lget x0.Next (j:Int) - 1+5) (x0.Log.length:Int)).toNat).drop (lget x0.Next (j:Int) - 1).toNat).length≤5
   rw [List.length_drop,List.length_take]; omega
  have htm:=(take_tm (x:=lget ns (j:Int)) (m:=bringM x0 j) (by rw [hts])).1
  refine ⟨by rw [hts],by rw [htm]; show max _ x0.Term=_; omega,?_⟩
  rw [hts]
  exact take3_mails yg.len (by show 0≤lget x0.Next (j:Int) - 1∧lget x0.Next (j:Int) - 1≤1000; omega) hE
 have hway:(mls (a:Int) (bringM x0) n).length≤20:=by have:=mls_len (a:Int) (bringM x0) n; omega
 obtain ⟨r1,r2,r3⟩:=rnd_others (a:=a) (f:=bringM x0) (r:=fun j=>(takeS (lget ns (j:Int)) (bringM x0 j)).1) (q:=fun j=>(takeS (lget ns (j:Int)) (bringM x0 j)).2.1) (ns:=ns) [] n (by omega) (fun j hj hja=>⟨rfl,(takeS (lget ns (j:Int)) (bringM x0 j)).2.2,(heff j hj hja).1,rfl⟩)
 rw [List.nil_append] at r3
 have hns1a:lget (rnd (mls (a:Int) (bringM x0) n) ns []).1 (a:Int)=lget ns (a:Int):=by rw [r2 a,if_neg (by omega)]
 obtain ⟨s1,s2,s3⟩:=rnd_to (a:=a) (q:=fun j=>(takeS (lget ns (j:Int)) (bringM x0 j)).2.1) (P:=fun _ x acc=>x=lget ns (a:Int)∧acc=[]) (ns:=(rnd (mls (a:Int) (bringM x0) n) ns []).1) (acc:=[]) (by omega) ⟨hns1a,rfl⟩ n
  (fun j hj hja x acc hp=>by
   refine ⟨fun _=>hp,fun z q=>?_⟩
   rcases (heff j hj hja).2.2 with e | ⟨A,ok,e,e1,e2⟩
   ·rw [e] at q; cases q
   ·rw [e] at q
    cases q
    obtain ⟨yg,yid,yN,yT⟩:=h.node hj
    have hle:=ht j hj hja
    rw [hp.1,hp.2]
    have hf:=fin0 (m:=ans (lget ns (j:Int)) (bringM x0 j) 4 A ok) xg ⟨by show (1:Int)≤4; decide,by show (4:Int)≤4; decide⟩ (by show x0.ID=_; rw [id0,xid]) (by show (lget ns (j:Int)).ID≠_; rw [yid,xid]; omega) (by show 0≤(lget ns (j:Int)).ID∧(lget ns (j:Int)).ID<_; rw [yid,xN]; omega) (by show 1≤(lget ns (j:Int)).Term∧(lget ns (j:Int)).Term≤1000000000; have:=yg.t1; omega) ⟨e1,e2⟩ ⟨Int.le_refl _,by show (0:Int)≤1000000000; decide⟩ rfl rfl
    have hts:takeS (lget ns (a:Int)) (ans (lget ns (j:Int)) (bringM x0 j) 4 A ok)=(lget ns (a:Int),[],⟨0,0⟩):=by
     rw [takeS_of hf,bas_id (show (lget ns (j:Int)).Term≤_ by omega)]
     have:takeK (lget ns (a:Int)) (ans (lget ns (j:Int)) (bringM x0 j) 4 A ok)=(lget ns (a:Int),[]):=by
      show take4 _ _=_
      unfold take4
      rw [if_pos (.inl (by omega))]
     rw [this]
    rw [hts]
    exact ⟨id0,rfl,rfl,rfl⟩)
  (fun x acc hp=>hp)
  (fun j hj hja=>by
   rcases (heff j hj hja).2.2 with e | ⟨A,ok,e,_⟩
   ·exact .inl e
   ·exact .inr ⟨_,e⟩)
 rw [← r3] at s1 s2 s3
 have hl2:(rnd (mls (a:Int) (bringM x0) n) ns []).2.length≤20:=by
  rw [r3]
  have:=mlq_len (a:=a) (q:=fun j=>(takeS (lget ns (j:Int)) (bringM x0 j)).2.1) n (fun j hj hja=>by
   rcases (heff j hj hja).2.2 with e | ⟨A,ok,e,_⟩
   ·show (takeS _ _).2.1.length≤1; rw [e]; exact Nat.zero_le _
   ·show (takeS _ _).2.1.length≤1; rw [e]; exact Nat.le_refl _)
  omega
 refine Calm.round2 h hway (fun ds' hd=>Calm.round2 hd hl2 (fun ds'' hd2=>?_))
 rw [s3.2] at hd2
 refine .done hd2 (hP _ s3.1 (fun j hj=>?_))
 by_cases q:j=a
 ·rw [q,s3.1]
 ·rw [s2 j q,r2 j,if_pos ⟨hj,q⟩]; exact (heff j hj q).2.1
theorem calm_turn (h:Rch texts n ds ns [] k) (ha:a<n) (hl:ds.length≤1800):Calm texts n (ds++[(⟨6,(a:Int),0⟩:Deed),(⟨0,(a:Int),0⟩:Deed)]) k (TO n a ns):=by
 have h7:=h.h7
 have hn1:=h.h1
 have hlen:=h.gi.1.len
 obtain ⟨xg,xid,xN,xT⟩:=h.node ha
 have htn:=h.tn (a:Int) ⟨by omega,by omega⟩
 have ht0:=xg.t0
 obtain ⟨x2,h2,t2,l2,q1,qn⟩:=stood h ha hl
 generalize hx:lget ns (a:Int)=x at *
 generalize hns2:lset (lset ns (a:Int) (⟨x.N,x.ID,x.Term,x.Vote,x.Log,0,0,[],[],[]⟩:Node)) (a:Int) x2=ns2 at h2
 have hget2:∀ j:Nat,lget ns2 (j:Int)=if j=a then x2 else lget ns (j:Int):=fun j=>by
  rw [← hns2,lget_lset _ _ _ _ (by rw [lset_len]; omega) (by omega),lget_lset _ _ _ _ (by omega) (by omega)]
  by_cases q:j=a
  ·rw [if_pos (by omega),if_pos q]
  ·rw [if_neg (by omega),if_neg (by omega),if_neg q]
 have hlen2:=h2.gi.1.len
 have hx2:lget ns2 (a:Int)=x2:=by rw [hget2,if_pos rfl]
 by_cases cn:n=1
 ·
  have ha0:a=0:=by omega
  subst cn
  subst ha0
  have hw:mls ((0:Nat):Int) (askM ((0:Nat):Int) (x.Term+1) x.Log) 1=[]:=rfl
  rw [hw] at h2
  refine .done h2 (.inl ⟨by rw [hx2]; exact q1 rfl,fun j hj=>?_,fun j hj hja=>?_⟩)
  ·have:j=0:=by omega
   rw [this]
  ·omega
 obtain ⟨qr,qv⟩:=qn cn
 obtain ⟨g2,id2,N2,-⟩:=h2.node ha
 rw [hx2] at g2 id2 N2
 have hask:=fun (j:Nat) (hj:j<n) (hja:j≠a)=>ask_eff (a:=(a:Int)) (T:=x.Term+1) (log:=x.Log) (h.node hj).1 (h.node hj).2.1 (h.node hj).2.2.1 ⟨by omega,by omega⟩ (by omega) ⟨by omega,by omega⟩ xg.log
 have hns2j:∀ j:Nat,j≠a→lget ns2 (j:Int)=lget ns (j:Int):=fun j hj=>by rw [hget2,if_neg hj]
 have hz:∀ j:Nat,j<n→j≠a→(takeS (lget ns2 (j:Int)) (askM (a:Int) (x.Term+1) x.Log j)).2.2.Code=0∧
   (takeS (lget ns2 (j:Int)) (askM (a:Int) (x.Term+1) x.Log j)).2.1=[(takeS (lget ns2 (j:Int)) (askM (a:Int) (x.Term+1) x.Log j)).2.1.getD 0 default]∧
   (takeS (lget ns2 (j:Int)) (askM (a:Int) (x.Term+1) x.Log j)).1.Term=max (lget ns (j:Int)).Term (x.Term+1)∧(takeS (lget ns2 (j:Int)) (askM (a:Int) (x.Term+1) x.Log j)).1.Log=(lget ns (j:Int)).Log∧
   ((takeS (lget ns2 (j:Int)) (askM (a:Int) (x.Term+1) x.Log j)).2.1.getD 0 default).Kind=2∧((takeS (lget ns2 (j:Int)) (askM (a:Int) (x.Term+1) x.Log j)).2.1.getD 0 default).From=(j:Int)∧((takeS (lget ns2 (j:Int)) (askM (a:Int) (x.Term+1) x.Log j)).2.1.getD 0 default).To=(a:Int)∧
   ((takeS (lget ns2 (j:Int)) (askM (a:Int) (x.Term+1) x.Log j)).2.1.getD 0 default).Term=max (lget ns (j:Int)).Term (x.Term+1)∧((takeS (lget ns2 (j:Int)) (askM (a:Int) (x.Term+1) x.Log j)).2.1.getD 0 default).A=0∧((takeS (lget ns2 (j:Int)) (askM (a:Int) (x.Term+1) x.Log j)).2.1.getD 0 default).B=0∧
   ((takeS (lget ns2 (j:Int)) (askM (a:Int) (x.Term+1) x.Log j)).2.1.getD 0 default).C0=0∧((takeS (lget ns2 (j:Int)) (askM (a:Int) (x.Term+1) x.Log j)).2.1.getD 0 default).Entries=[]∧(((takeS (lget ns2 (j:Int)) (askM (a:Int) (x.Term+1) x.Log j)).2.1.getD 0 default).Ok=false→(lget ns (j:Int)).Term<x.Term+1→Newer (lget ns (j:Int)).Log x.Log):=fun j hj hja=>by
  obtain ⟨r,z,e,e1,e2,e3,e4,e5,e6,e7,e8,e9,e10,e11⟩:=hask j hj hja
  rw [hns2j j hja,e]
  exact ⟨rfl,rfl,e1,e2,e3,e4,e5,e6,e7,e8,e9,e10,e11⟩
 generalize hq:(fun j:Nat=>(takeS (lget ns2 (j:Int)) (askM (a:Int) (x.Term+1) x.Log j)).2.1)=q
 generalize hzf:(fun j:Nat=>(takeS (lget ns2 (j:Int)) (askM (a:Int) (x.Term+1) x.Log j)).2.1.getD 0 default)=zf
 have hqz:∀ j:Nat,j<n→j≠a→q j=[zf j]:=fun j hj hja=>by rw [← hq,← hzf]; exact (hz j hj hja).2.1
 have hway:(mls (a:Int) (askM (a:Int) (x.Term+1) x.Log) n).length≤20:=by have:=mls_len (a:Int) (askM (a:Int) (x.Term+1) x.Log) n; omega
 obtain ⟨r1,r2,r3⟩:=rnd_others (a:=a) (f:=askM (a:Int) (x.Term+1) x.Log) (r:=fun j=>(takeS (lget ns2 (j:Int)) (askM (a:Int) (x.Term+1) x.Log j)).1) (q:=q) (ns:=ns2) [] n (by omega) (fun j hj hja=>⟨rfl,(takeS (lget ns2 (j:Int)) (askM (a:Int) (x.Term+1) x.Log j)).2.2,(hz j hj hja).1,by rw [← hq]⟩)
 rw [List.nil_append] at r3
 refine Calm.round2 h2 hway (fun ds3 h3=>?_)
 rw [r3] at h3
 generalize hns3:(rnd (mls (a:Int) (askM (a:Int) (x.Term+1) x.Log) n) ns2 []).1=ns3 at h3 r1 r2
 have hns3a:lget ns3 (a:Int)=x2:=by rw [r2 a,if_neg (by omega),hx2]
 have hns3j:∀ j:Nat,j<n→j≠a→(lget ns3 (j:Int)).Term=max (lget ns (j:Int)).Term (x.Term+1)∧(lget ns3 (j:Int)).Log=(lget ns (j:Int)).Log:=fun j hj hja=>by
  rw [r2 j,if_pos ⟨hj,hja⟩]
  obtain ⟨_,_,z3,z4,_⟩:=hz j hj hja
  exact ⟨z3,z4⟩
 have hwl:(mlq a q n).length≤20:=by
  have:=mlq_len (a:=a) (q:=q) n (fun j hj hja=>by rw [hqz j hj hja]; exact Nat.le_refl _)
  omega
 have hzz:∀ j:Nat,j<n→j≠a→(zf j).Kind=2∧(zf j).From=(j:Int)∧(zf j).To=(a:Int)∧(zf j).Term=max (lget ns (j:Int)).Term (x.Term+1)∧(zf j).A=0∧(zf j).B=0∧(zf j).C0=0∧(zf j).Entries=[]∧((zf j).Ok=false→(lget ns (j:Int)).Term<x.Term+1→Newer (lget ns (j:Int)).Log x.Log):=fun j hj hja=>by
  rw [← hzf]
  obtain ⟨_,_,_,_,z⟩:=hz j hj hja
  exact z
 refine Calm.round2 h3 hwl (fun ds4 h4=>?_)
 by_cases hE:∀ j:Nat,j<n→j≠a→(lget ns (j:Int)).Term≤x.Term+1
 ·
  have hP0:PE n a (x.Term+1) x.Log zf 0 x2 []:=⟨g2,id2,N2,t2,l2,.inl ⟨qr,rfl,by rw [qv]; simp,fun i hi=>by omega⟩⟩
  obtain ⟨s1,s2,s3⟩:=rnd_to (a:=a) (q:=q) (P:=PE n a (x.Term+1) x.Log zf) (ns:=ns3) (acc:=[]) (by omega) (by rw [hns3a]; exact hP0) n
   (fun j hj hja y acc hp=>by
    refine ⟨fun w=>(by rw [hqz j hj hja] at w; cases w),fun z w=>?_⟩
    rw [hqz j hj hja] at w
    cases w
    obtain ⟨z1,z2,z3,z4,z5,z6,z7,z8,z9⟩:=hzz j hj hja
    have:=hE j hj hja
    obtain ⟨u1,u2⟩:=pe_step hp hj hja (by omega) z1 z2 z3 (by omega) z5 z6 z7 z8
    exact ⟨z3,u1,u2⟩)
   (fun y acc hp=>⟨hp.g,hp.id,hp.N,hp.tm,hp.lg,by
    rcases hp.c with ⟨c1,c2,c3,c4⟩ | c
    ·exact .inl ⟨c1,c2,c3,fun i hi hia=>c4 i (by omega) hia⟩
    ·exact .inr c⟩)
   (fun j hj hja=>.inr ⟨_,hqz j hj hja⟩)
  generalize hns4:(rnd (mlq a q n) ns3 []).1=ns4 at h4 s1 s2 s3
  have hterm:∀ j:Nat,j<n→(lget ns4 (j:Int)).Term=x.Term+1∧(lget ns4 (j:Int)).Log=(lget ns (j:Int)).Log:=fun j hj=>by
   by_cases w:j=a
   ·rw [w,hx]; exact ⟨s3.tm,s3.lg⟩
   ·rw [s2 j w]
    obtain ⟨u1,u2⟩:=hns3j j hj w
    have:=hE j hj w
    exact ⟨by omega,u2⟩
  rcases s3.c with ⟨c1,c2,c3,c4⟩ | ⟨c1,c2⟩
  ·rw [c2] at h4
   refine .done h4 (.inr ⟨by omega,.inl ⟨fun j hj=>by rw [hx]; exact hterm j hj,?_⟩⟩)
   apply Classical.byContradiction
   intro hno
   have hall:∀ j:Nat,j<n→(j:Int)∈(lget ns4 (a:Int)).Votes:=fun j hj=>by
    by_cases w:j=a
    ·rw [w]; exact c3
    ·refine c4 j hj w ?_
     cases ho:(zf j).Ok with
     | true=>rfl
     | false=>
      exfalso
      apply hno
      obtain ⟨_,_,_,_,_,_,_,_,z9⟩:=hzz j hj w
      have:=hE j hj w
      refine ⟨j,hj,w,?_⟩
      rw [hx]
      by_cases u:(lget ns (j:Int)).Term=x.Term+1
      ·exact .inl u
      ·exact .inr (z9 ho (by omega))
   have h5:=all_len hall
   have h6:=s3.g.votes c1
   have:=s3.N
   omega
  ·rw [c2] at h4
   refine calm_beat h4 ha c1 (fun i hi hia=>by rw [(hterm i hi).1,(hterm a ha).1]) (fun ns' hb=>.inl ⟨hb.ro,fun j hj=>?_,fun j hj hja=>?_⟩)
   ·by_cases w:j=a
    ·rw [w]
    ·rw [hb.ft j hj w,hb.tm]
   ·rw [hb.hv j hj,if_pos hja,hb.nx j hj hja]
    unfold nxI
    split
    ·omega
    ·rename_i o
     unfold hvI
     rw [if_neg o]; omega
 ·
  obtain ⟨j0,hj0⟩:=Classical.not_forall.1 hE
  have hj0n:j0<n:=Classical.byContradiction fun w=>hj0 fun q=>absurd q w
  have hj0a:j0≠a:=fun w=>hj0 fun _ q=>absurd w q
  have hj0t:x.Term+1<(lget ns (j0:Int)).Term:=by
   have:¬ (lget ns (j0:Int)).Term≤x.Term+1:=fun w=>hj0 fun _ _=>w
   omega
  have hP0:PN n a (x.Term+1) (fun i=>(lget ns (i:Int)).Term) 0 x2 []:=⟨g2,id2,N2,by omega,fun c hc1 hc=>by omega,fun i hi=>by omega,.inl t2,fun _=>rfl,.inl rfl⟩
  obtain ⟨s1,s2,s3⟩:=rnd_to (a:=a) (q:=q) (P:=PN n a (x.Term+1) (fun i=>(lget ns (i:Int)).Term)) (ns:=ns3) (acc:=[]) (by omega) (by rw [hns3a]; exact hP0) n
   (fun j hj hja y acc hp=>by
    refine ⟨fun w=>(by rw [hqz j hj hja] at w; cases w),fun z w=>?_⟩
    rw [hqz j hj hja] at w
    cases w
    obtain ⟨z1,z2,z3,z4,z5,z6,z7,z8,z9⟩:=hzz j hj hja
    have ht1:=(h.node hj).1.t1
    obtain ⟨u1,u2⟩:=pn_step hp hj hja (by omega) (by show max (lget ns (j:Int)).Term _≤_; omega) z1 z2 z3 z4 z5 z6 z7 z8
    exact ⟨z3,u1,u2⟩)
   (fun y acc hp=>⟨hp.g,hp.id,hp.N,hp.lo,hp.up,fun i hi hia=>hp.ge i (by omega) hia,hp.ro,hp.r1,hp.ac⟩)
   (fun j hj hja=>.inr ⟨_,hqz j hj hja⟩)
  generalize hns4:(rnd (mlq a q n) ns3 []).1=ns4 at h4 s1 s2 s3
  have hge:=s3.ge j0 hj0n hj0a
  have hr0:(lget ns4 (a:Int)).Role=0:=by
   rcases s3.ro with w | w
   ·omega
   ·exact w
  have hrose:∀ ns',lget ns' (a:Int)=lget ns4 (a:Int)→(∀ j:Nat,j<n→(lget ns' (j:Int)).Term=(lget ns4 (j:Int)).Term)→TO n a ns ns':=fun ns' e1 e2=>by
   have hlo:=s3.lo
   have hj4:∀ j:Nat,j<n→j≠a→(lget ns4 (j:Int)).Term=max (lget ns (j:Int)).Term (x.Term+1):=fun j hj hja=>by rw [s2 j hja]; exact (hns3j j hj hja).1
   refine .inr ⟨by rw [e1]; omega,.inr ⟨⟨j0,hj0n,by rw [hx]; exact hj0t⟩,fun j hj=>?_,fun c hc j hj=>?_⟩⟩
   ·rw [e2 j hj,e1]
    by_cases w:j=a
    ·rw [w,hx]; omega
    ·rw [hj4 j hj w]
     have:=s3.ge j hj w
     omega
   ·have hc0:=hc j0 hj0n
    rw [e2 j hj]
    by_cases w:j=a
    ·rw [w]; exact s3.up c (by omega) hc
    ·rw [hj4 j hj w]
     have:=hc j hj
     omega
  rcases s3.ac with w | ⟨x0,w1,w2,w3,w4,w5,w6⟩
  ·rw [w] at h4
   exact .done h4 (hrose _ rfl (fun _ _=>rfl))
  ·rw [w1] at h4
   refine calm_late h4 ha w2 w3 w4 w5 (by omega) hr0 (fun j hj hja=>?_) hrose
   have:=s3.ge j hj hja
   rw [s2 j hja,(hns3j j hj hja).1]
   omega
end
theorem sub_lenP:∀ {l m:List (Int×Nat)},l.Nodup→(∀ x∈l,x∈m)→l.length≤m.length
 | [],m,_,_=>Nat.zero_le _
 | a::l,m,hn,h=>by
  rw [List.nodup_cons] at hn
  have ha:=h a List.mem_cons_self
  have:=sub_lenP (l:=l) (m:=m.erase a) hn.2 (fun x hx=>(List.mem_erase_of_ne (fun e=>hn.1 (by rw [← e]; exact hx))).2 (h x (List.mem_cons_of_mem _ hx)))
  rw [List.length_erase_of_mem ha] at this
  have:=List.length_pos_of_mem ha
  rw [List.length_cons]; omega
def MaxA (W l:Log) (M:Nat):Prop:=Agr W l M∧∀ p,Agr W l p→p≤M
theorem Agr.down {W l:Log} {p q:Nat} (h:Agr W l p) (hq:q≤p):Agr W l q:=by
 obtain ⟨h1,h2,h3⟩:=h
 refine ⟨by omega,by omega,?_⟩
 have:=congrArg (List.take q) h3
 rwa [List.take_take,List.take_take,Nat.min_eq_left hq] at this
theorem agr0 (W l:Log):Agr W l 0:=⟨Nat.zero_le _,Nat.zero_le _,by rw [List.take_zero,List.take_zero]⟩
theorem maxA_ex (W l:Log):∃ M,MaxA W l M:=by
 have:∀ m:Nat,(∀ p,Agr W l p→p≤m)→∃ M,MaxA W l M:=by
  intro m
  induction m with
  | zero=>exact fun h=>⟨0,agr0 W l,h⟩
  | succ m ih=>
   intro h
   by_cases c:Agr W l (m+1)
   ·exact ⟨m+1,c,h⟩
   ·exact ih fun p hp=>by
     have:=h p hp
     have:p≠m+1:=fun e=>c (e▸hp)
     omega
 exact this l.length fun p hp=>hp.1
theorem agr_pre {W l:Log} {p:Nat} (hp:p≤W.length) (h:W.take p <+: l):Agr W l p:=by
 have hl:=h.length_le
 rw [List.length_take] at hl
 refine ⟨by omega,hp,?_⟩
 rw [pre_take h (by rw [List.length_take]; omega),List.take_take,Nat.min_self]
section
variable {texts:List (List UInt8)} {n k a:Nat} {ds:List Deed} {ns:List Node} {way:List Mail}
theorem lm_in {G:Gh} {l:Log} (h:LM G l) {PR:List (Int×Nat)} (h3:∀ (T:Int) (p:Nat) (e:Entry),(G.ll T)[p]?=some e→(e.Term,p)∈PR) {p:Nat} (hp:p<l.length):((lget l (p:Int)).Term,p)∈PR:=h3 _ _ _ (h.at (lget_some hp))
theorem log_le (h:Rch texts n ds ns way k) (ha:a<n):(lget ns (a:Int)).Log.length≤k:=by
 obtain ⟨G,hri,PR,h1,h2,h3,h4⟩:=h.inv
 have hx:=(hri.nd (a:Int) ⟨by omega,by omega⟩).lm
 have:=sub_lenP (l:=(List.range (lget ns (a:Int)).Log.length).map fun (p:Nat)=>((lget (lget ns (a:Int)).Log (p:Int)).Term,p)) (m:=PR) (List.Pairwise.map _ (fun p q hpq e=>hpq (Prod.mk.inj e).2) List.nodup_range) (fun z hz=>by
  obtain ⟨p,hp,rfl⟩:=List.mem_map.1 hz
  exact lm_in hx h3 (List.mem_range.1 hp))
 rw [List.length_map,List.length_range] at this
 omega
theorem conf_le (h:Rch texts n ds ns way k) (ha:a<n) {j:Nat} (hj:j<n) {M c:Nat} (hM:MaxA (lget ns (a:Int)).Log (lget ns (j:Int)).Log M) (hc:M+c=min (lget ns (j:Int)).Log.length (lget ns (a:Int)).Log.length):(lget ns (a:Int)).Log.length+c≤k:=by
 obtain ⟨G,hri,PR,h1,h2,h3,h4⟩:=h.inv
 have hx:=(hri.nd (a:Int) ⟨by omega,by omega⟩).lm
 have hy:=(hri.nd (j:Int) ⟨by omega,by omega⟩).lm
 generalize (lget ns (a:Int)).Log=W at *
 generalize (lget ns (j:Int)).Log=l at *
 have hd:∀ p,M≤p→p<M+c→(lget W (p:Int)).Term≠(lget l (p:Int)).Term:=fun p p1 p2 e=>by
  have:=hx.same hy (lget_some (by omega)) (lget_some (by omega)) e
  have:=hM.2 (p+1) ⟨by omega,by omega,this.symm⟩
  omega
 have:=sub_lenP (l:=((List.range W.length).map fun (p:Nat)=>((lget W (p:Int)).Term,p))++((List.range' M c).map fun (p:Nat)=>((lget l (p:Int)).Term,p))) (m:=PR)
  (List.nodup_append.2 ⟨List.Pairwise.map _ (fun p q hpq e=>hpq (Prod.mk.inj e).2) List.nodup_range,List.Pairwise.map _ (fun p q hpq e=>hpq (Prod.mk.inj e).2) List.nodup_range',fun u hu v hv e=>by
   obtain ⟨p,hp,rfl⟩:=List.mem_map.1 hu
   obtain ⟨q,hq,rfl⟩:=List.mem_map.1 hv
   obtain ⟨e1,e2⟩:=Prod.mk.inj e
   subst e2
   have:=List.mem_range'_1.1 hq
   exact hd p this.1 this.2 e1⟩)
  (fun z hz=>by
   rcases List.mem_append.1 hz with q | q
   ·obtain ⟨p,hp,rfl⟩:=List.mem_map.1 q
    exact lm_in hx h3 (List.mem_range.1 hp)
   ·obtain ⟨p,hp,rfl⟩:=List.mem_map.1 q
    have:=List.mem_range'_1.1 hp
    exact lm_in hy h3 (by omega))
 rw [List.length_append,List.length_map,List.length_range,List.length_map,List.length_range'] at this
 omega
structure FI (W:Log) (b:Nat) (x y:Node) (j:Nat):Prop where
 hh:0≤lget x.Have (j:Int)∧lget x.Have (j:Int)≤lget x.Next (j:Int) - 1∧lget x.Next (j:Int) - 1≤(W.length:Int)
 ag:Agr W y.Log (lget x.Have (j:Int)).toNat
 p1:b≤46→∃ M c,MaxA W y.Log M∧M+c=min y.Log.length W.length∧(nxA x j≤M∨b=0∨nxA x j+b≤M+c+1)
 p2:46≤b→Agr W y.Log (nxA x j)∧min W.length (5*(b - 46))≤nxA x j
 p3:47≤b→((nxA x j:Nat):Int)=lget x.Have (j:Int)
 p4:66≤b→y.Commit=(W.length:Int)
structure BI (n a:Nat) (T:Int) (W:Log) (b:Nat) (ns:List Node):Prop where
 ro:(lget ns (a:Int)).Role=2
 tm:∀ j:Nat,j<n→(lget ns (j:Int)).Term=T
 lg:(lget ns (a:Int)).Log=W
 own:lget (lget ns (a:Int)).Have (a:Int)=(W.length:Int)
 c1:n=1∨65≤b→(lget ns (a:Int)).Commit=(W.length:Int)
 fo:∀ j:Nat,j<n→j≠a→FI W b (lget ns (a:Int)) (lget ns (j:Int)) j
theorem bi_step {ds':List Deed} {ns':List Node} {T:Int} {W:Log} {b:Nat} (h:Rch texts n ds ns [] k) (h':Rch texts n ds' ns' [] k) (hk:k≤90) (ha:a<n) (hW:1≤W.length) (hl:tat W (W.length:Int)=T) (hb:BI n a T W b ns) (hs:BB n a ns ns'):BI n a T W (b+1) ns':=by
 have hWk:W.length≤90:=by have:=log_le h ha; rw [hb.lg] at this; omega
 have hxa:=hb.tm a ha
 have htm:∀ j:Nat,j<n→(lget ns' (j:Int)).Term=T:=fun j hj=>by
  by_cases q:j=a
  ·rw [q,hs.tm,hxa]
  ·rw [hs.ft j hj q,hxa]
 have hlg:(lget ns' (a:Int)).Log=W:=by rw [hs.lg,hb.lg]
 obtain ⟨xg,xid,xN,xT⟩:=h.node ha
 obtain ⟨xg',-⟩:=h'.node ha
 have hcl:=xg'.cl
 rw [hlg] at hcl
 have hcl0:=xg.cl
 rw [hb.lg] at hcl0
 have hcnt:∀ j:Nat,j<n→∀ M c,MaxA W (lget ns' (j:Int)).Log M→M+c=min (lget ns' (j:Int)).Log.length W.length→c≤45:=fun j hj M c hM hc=>by
  have:=conf_le h' ha hj (by rw [hlg]; exact hM) (by rw [hlg]; exact hc)
  rw [hlg] at this
  omega
 have hkn:∀ j:Nat,j<n→(lget ns (j:Int)).Commit≤(W.length:Int):=fun j hj=>by
  obtain ⟨G,hri,_⟩:=h.inv
  have hj':=hri.nd (j:Int) ⟨by omega,by omega⟩
  obtain ⟨⟨l,l1⟩,l2,_⟩:=(hri.nd (a:Int) ⟨by omega,by omega⟩).ld hb.ro
  have:=known_lead hri.gg hj' (T:=(lget ns (a:Int)).Term) (by rw [hxa,hb.tm j hj]; exact Int.le_refl _) l1
  rw [← l2,hb.lg] at this
  have:=this.length_le
  have hk1:=hj'.kn.1
  have hk2:=hj'.kn.2.1
  rw [List.length_take] at this
  omega
 have hbc1:=hb.c1
 have hbo:=hb.own
 have hbf:=hb.fo
 have hxl:=hb.lg
 generalize hx:lget ns (a:Int)=x at *
 refine ⟨hs.ro,htm,hlg,by rw [hs.hv a ha,if_neg (by omega),hx]; exact hbo,fun q=>?_,fun j hj hja=>?_⟩
 ·rcases q with q | q
  ·have:=hbc1 (.inl q)
   have:=hs.cm
   rw [hx] at this
   omega
  ·by_cases c:65≤b
   ·have:=hbc1 (.inr c)
    have:=hs.cm
    rw [hx] at this
    omega
   ·have hb64:b=64:=by omega
    by_cases cn:n=1
    ·have:=hbc1 (.inl cn)
     have:=hs.cm
     rw [hx] at this
     omega
    ·have hA:∀ i:Nat,i<n→i≠a→nxA x i=W.length∧lget x.Have (i:Int)=(W.length:Int)∧okI x (lget ns (i:Int)) i=true:=fun i hi hia=>by
      have f:=hbf i hi hia
      obtain ⟨e1,e2⟩:=f.p2 (by omega)
      have e3:=f.p3 (by omega)
      have e4:=e1.2.1
      have e5:nxA x i=W.length:=by omega
      exact ⟨e5,by omega,okI_iff.2 (by rw [hxl]; exact e1)⟩
     have h1:=h.h1
     have hi0:(if a=0 then 1 else 0)<n∧(if a=0 then 1 else 0)≠a:=by split <;> omega
     have:=hs.cn (fun i hi=>by
      rw [hx,hxl]
      by_cases w:i=a
      ·rw [w]; exact hbo
      ·exact (hA i hi w).2.1) (by rw [hx,hxl,hl,hxa]) (by rw [hx,hxl]; exact hW) ⟨_,hi0.1,hi0.2,by rw [hx]; exact (hA _ hi0.1 hi0.2).2.2⟩
     rw [hx,hxl] at this
     exact this
 ·have f:=hbf j hj hja
  have hhv:=hs.hv j hj
  have hnx:=hs.nx j hj hja
  rw [if_pos hja,hx] at hhv
  rw [hx] at hnx
  have hAi:((nxA x j:Nat):Int)=lget x.Next (j:Int) - 1:=by unfold nxA; have:=f.hh; omega
  have hfh:=f.hh
  have hAW:nxA x j≤W.length:=by omega
  have hyl:=hkn j hj
  by_cases o:okI x (lget ns (j:Int)) j=true
  ·have hag:=okI_iff.1 o
   rw [hxl] at hag
   obtain ⟨e1,e2,e3⟩:=hs.fo j hj hja (by rw [hx]; exact o)
   rw [hx,hxl] at e1 e2 e3
   have hH:hvI x (lget ns (j:Int)) j=((min (nxA x j+5) W.length:Nat):Int):=by unfold hvI; rw [if_pos o,hxl]; omega
   have hNx:nxI x (lget ns (j:Int)) j=((min (nxA x j+5) W.length:Nat):Int)+1:=by unfold nxI; rw [if_pos o,hH]
   have hA':nxA (lget ns' (a:Int)) j=min (nxA x j+5) W.length:=by unfold nxA; rw [hnx,hNx]; unfold nxA; omega
   have hagn:Agr W (lget ns' (j:Int)).Log (min (nxA x j+5) W.length):=agr_pre (by omega) e1
   refine ⟨by rw [hhv,hnx,hH,hNx]; omega,by rw [hhv,hH,Int.toNat_natCast]; exact hagn,fun q=>?_,fun q=>?_,fun q=>by rw [hA',hhv,hH],fun q=>?_⟩
   ·obtain ⟨M,hM⟩:=maxA_ex W (lget ns' (j:Int)).Log
    have hMl:=hM.1.1
    have hMW:=hM.1.2.1
    exact ⟨M,min (lget ns' (j:Int)).Log.length W.length - M,hM,by omega,.inl (by rw [hA']; exact hM.2 _ hagn)⟩
   ·rw [hA']
    refine ⟨hagn,?_⟩
    by_cases w:46≤b
    ·have:=(f.p2 w).2
     omega
    ·have:b+1 - 46=0:=by omega
     rw [this]; omega
   ·have hc:=hbc1 (.inr (by omega))
    have e4:=(f.p2 (by omega)).2
    rw [e3,hc]
    omega
  ·obtain ⟨e1,e2⟩:=hs.fn j hj hja (by rw [hx]; exact o)
   have hnag:¬ Agr W (lget ns (j:Int)).Log (nxA x j):=fun q=>o (okI_iff.2 (by rw [hxl]; exact q))
   have hb46:b<46:=by
    apply Nat.lt_of_not_le
    intro q
    exact hnag (f.p2 q).1
   obtain ⟨M,c,hM,hMc,hp⟩:=f.p1 (by omega)
   have hMlt:M<nxA x j:=by
    apply Nat.lt_of_not_le
    intro q
    exact hnag (hM.1.down q)
   have hHM:=hM.2 _ f.ag
   have hH:hvI x (lget ns (j:Int)) j=lget x.Have (j:Int):=by unfold hvI; rw [if_neg o]
   have hNx:nxI x (lget ns (j:Int)) j=max (lget x.Have (j:Int)+1) (min (nxA x j:Int) (max 0 (min ((nxA x j:Int) - 1) ((lget ns (j:Int)).Log.length:Int))+1)):=by
    unfold nxI upA
    rw [if_neg o,if_neg o,hAi]
   have hnew:nxA (lget ns' (a:Int)) j≤M∨(nxA (lget ns' (a:Int)) j≤nxA x j - 1∧nxA (lget ns' (a:Int)) j≤(lget ns (j:Int)).Log.length):=by
    have:(nxA (lget ns' (a:Int)) j:Int)=max (lget x.Have (j:Int)+1) (min (nxA x j:Int) (max 0 (min ((nxA x j:Int) - 1) ((lget ns (j:Int)).Log.length:Int))+1)) - 1:=by
     show (((lget (lget ns' (a:Int)).Next (j:Int) - 1).toNat:Nat):Int)=_
     rw [hnx,hNx]; omega
    omega
   have hp1:∃ M c,MaxA W (lget ns' (j:Int)).Log M∧M+c=min (lget ns' (j:Int)).Log.length W.length∧(nxA (lget ns' (a:Int)) j≤M∨b+1=0∨nxA (lget ns' (a:Int)) j+(b+1)≤M+c+1):=by
    refine ⟨M,c,by rw [e1]; exact hM,by rw [e1]; exact hMc,?_⟩
    rcases hnew with w | ⟨w1,w2⟩
    ·exact .inl w
    ·rcases hp with u | u | u
     ·omega
     ·right; right; omega
     ·right; right; omega
   refine ⟨by rw [hhv,hnx,hH,hNx]; omega,by rw [hhv,hH,e1]; exact f.ag,fun _=>hp1,fun q=>?_,fun q=>by omega,fun q=>by omega⟩
   have hb45:b+1=46:=by omega
   obtain ⟨M',c',m1,m2,m3⟩:=hp1
   have hc45:=hcnt j hj M' c' m1 m2
   refine ⟨m1.1.down (by omega),by rw [hb45]; omega⟩
end
section
variable {texts:List (List UInt8)} {n k a:Nat} {ds:List Deed} {ns:List Node} {way:List Mail}
theorem moves_L3 {v7:List Deed×Clan×Fault×Int} {ds':List Deed} {f:Fault} (hl:ns.length=n) (h7:n≤7) (ha:a<n) {r:(List Deed×Clan×Fault×Int)⊕((List Deed×Clan×Fault×Int)⊕Bool)}
  (hr:law_ClanMoves_J6 (a:Int) v7 (ds',⟨ns,way⟩,f) (decide (∀ j:Nat,j<n→(lget ns (j:Int)).Commit=((lget ns (a:Int)).Log.length:Int)))=some r) :
  law_ClanMoves_L3 (n:Int) (a:Int) v7 (ds',⟨ns,way⟩,f) (true,0)=some r:=by
 have e0:(true,(0:Int))=(decide (∀ j:Nat,j<0→(lget ns (j:Int)).Commit=((lget ns (a:Int)).Log.length:Int)),((0:Nat):Int)):=by
  rw [decide_eq_true (fun j hj=>by omega)]; rfl
 rw [e0]
 refine loop_run (step:=fun y=>law_ClanMoves_B3 (n:Int) (a:Int) v7 (ds',⟨ns,way⟩,f) y) n (fun i=>(decide (∀ j:Nat,j<i→(lget ns (j:Int)).Commit=((lget ns (a:Int)).Log.length:Int)),(i:Int))) (fun i hi=>?_) ?_
 ·have hw:w64 ((i:Int)+1)=((i+1:Nat):Int):=by rw [w64_id (by omega) (by omega)]; omega
  show law_ClanMoves_B3 (n:Int) (a:Int) _ _ (_,(i:Int))=_
  unfold law_ClanMoves_B3
  dsimp only [lt]
  rw [if_pos (d_t (by omega)),asrt_pos (fun _=>by omega),asrt_pos (fun _=>by omega),hw]
  have e:(decide (∀ j:Nat,j<i→(lget ns (j:Int)).Commit=((lget ns (a:Int)).Log.length:Int))&&decide ((lget ns (i:Int)).Commit=((lget ns (a:Int)).Log.length:Int)))=decide (∀ j:Nat,j<i+1→(lget ns (j:Int)).Commit=((lget ns (a:Int)).Log.length:Int)):=by
   rw [Bool.eq_iff_iff,Bool.and_eq_true,decide_eq_true_iff,decide_eq_true_iff,decide_eq_true_iff]
   constructor
   ·rintro ⟨h1,h2⟩ j hj
    by_cases q:j=i
    ·rw [q]; exact h2
    ·exact h1 j (by omega)
   ·intro h
    exact ⟨fun j hj=>h j (by omega),h i (by omega)⟩
  rw [e]
 ·show law_ClanMoves_B3 (n:Int) (a:Int) _ _ (_,(n:Int))=_
  unfold law_ClanMoves_B3
  dsimp only
  rw [if_neg (d_f (by omega)),hr]; rfl
theorem beat_calm (h:Rch texts n ds ns [] k) (ha:a<n) (hl:ds.length≤1900) (hr:(lget ns (a:Int)).Role=2) (ht:∀ j:Nat,j<n→(lget ns (j:Int)).Term=(lget ns (a:Int)).Term):Calm texts n (ds++[(⟨2,(a:Int),0⟩:Deed)]) k (BB n a ns):=by
 have hlen:=h.gi.1.len
 obtain ⟨xg,xid,xN,xT⟩:=h.node ha
 have hb:=bad0 (d:=⟨2,(a:Int),0⟩) h (.inr (.inl rfl)) rfl ha
 have hd:deedC texts ⟨2,(a:Int),0⟩ ns [] k=(ns,mls (a:Int) (bringM (lget ns (a:Int))) n,k):=by
  unfold deedC
  rw [if_neg (show ¬ (2:Int)=0 by decide),if_neg (show ¬ (2:Int)=1 by decide),if_pos (show (2:Int)=2 from rfl)]
  have hbt:beatS (lget ns (a:Int))=(mls (lget ns (a:Int)).ID (bringM (lget ns (a:Int))) (lget ns (a:Int)).N.toNat,⟨0,0⟩):=by
   unfold beatS
   rw [if_neg (not_not_intro (nodeF_good.2 xg)),if_neg (not_not_intro hr)]
  show ((act ns [] (a:Int) (lget ns (a:Int),(beatS (lget ns (a:Int))).1,(beatS (lget ns (a:Int))).2)).1,(act ns [] (a:Int) (lget ns (a:Int),(beatS (lget ns (a:Int))).1,(beatS (lget ns (a:Int))).2)).2,k)=_
  rw [hbt]
  unfold act
  rw [if_pos rfl,List.nil_append]
  dsimp only
  rw [lset_same ns a (by omega),xid,xN,Int.toNat_natCast]
 have hm:=mls_len (a:Int) (bringM (lget ns (a:Int))) n
 have h7:=h.h7
 have h2:=h.snoc (by omega) hb (by rw [hd]; show (mls _ _ _).length≤200; omega)
 rw [hd] at h2
 exact calm_beat h2 ha hr (fun i hi hia=>ht i hi) (fun ns' hb=>hb)
theorem beat_step {T:Int} {W:Log} (hk:k≤90) (ha:a<n) (hW:1≤W.length) (hlt:tat W (W.length:Int)=T) {b:Nat} (hb66:b≤66) (c:Clan) (f:Fault) (h:Rch texts n ds ns [] k) (hb:BI n a T W b ns) (hl:ds.length≤1750) :
  law_ClanMoves_L2 (n:Int) texts (a:Int) (ds,c,f,(b:Int))=some (.inr true)∨(b+1<66∧∃ ds' ns' c' f',Rch texts n ds' ns' [] k∧BI n a T W (b+1) ns'∧ds'.length≤1750∧law_ClanMoves_L2 (n:Int) texts (a:Int) (ds,c,f,(b:Int))=law_ClanMoves_L2 (n:Int) texts (a:Int) (ds',c',f',((b+1:Nat):Int))):=by
 have hta:=hb.tm a ha
 obtain ⟨ds',ns',way',e1,e2,e3⟩:=beat_calm h ha (by omega) hb.ro (fun j hj=>by rw [hb.tm j hj,hta])
 have hlen':=e2.gi.1.len
 have h7:=h.h7
 have hstart:law_ClanMoves_B2 (n:Int) texts (a:Int) (ds,c,f,(b:Int))=if (decide (1700<(ds'.length:Int)))=true then some (.inr (.inr true)) else law_ClanMoves_L3 (n:Int) (a:Int) (ds,c,f,(b:Int)) (ds',⟨ns',way'⟩,⟨0,0⟩) (true,0):=by
  unfold law_ClanMoves_B2
  dsimp only
  rw [if_pos (d_t (by omega)),asrt_pos (by simp; omega),e1,ob_some,if_neg (by simp; omega)]
 rcases e3 with e3 | ⟨e3,e4⟩
 ·left
  refine loopO_inr ?_
  show law_ClanMoves_B2 (n:Int) texts (a:Int) (ds,c,f,(b:Int))=_
  rw [hstart,if_pos (d_t (by omega))]
 by_cases c17:1700<ds'.length
 ·left
  refine loopO_inr ?_
  show law_ClanMoves_B2 (n:Int) texts (a:Int) (ds,c,f,(b:Int))=_
  rw [hstart,if_pos (d_t (by omega))]
 subst e3
 have hbi:=bi_step h e2 hk ha hW hlt hb e4
 rw [if_neg (d_f (by omega))] at hstart
 have hlg:=hbi.lg
 have hta':=hbi.tm a ha
 have hWl:W.length≤100:=by have:=(e2.node ha).1.len; rw [hlg] at this; exact this
 by_cases dn:∀ j:Nat,j<n→(lget ns' (j:Int)).Commit=((lget ns' (a:Int)).Log.length:Int)
 ·left
  refine loopO_inr ?_
  show law_ClanMoves_B2 (n:Int) texts (a:Int) (ds,c,f,(b:Int))=_
  rw [hstart]
  refine moves_L3 hlen' h7 ha ?_
  rw [decide_eq_true dn]
  unfold law_ClanMoves_J6
  dsimp only [lt]
  have hw:w64 ((W.length:Int) - 1)=(W.length:Int) - 1:=w64_id (by omega) (by omega)
  rw [if_pos rfl,asrt_pos (by omega),hlg,hw,asrt_pos (fun _=>by omega),asrt_pos (fun _=>by omega)]
  have e5:(lget W ((W.length:Int) - 1)).Term=(lget ns' (a:Int)).Term:=by
   rw [hta',← hlt,tat_in W W.length hW (Nat.le_refl _),show ((W.length - 1:Nat):Int)=(W.length:Int) - 1 by omega]
  rw [decide_eq_true (show (0:Int)<(W.length:Int) by omega),decide_eq_true e5]; rfl
 ·right
  refine ⟨?_,ds',ns',⟨ns',[]⟩,⟨0,0⟩,e2,hbi,by omega,loopO_inl ?_⟩
  ·apply Classical.byContradiction
   intro hge
   apply dn
   intro j hj
   rw [hlg]
   by_cases q:j=a
   ·rw [q]; exact hbi.c1 (.inr (by omega))
   ·exact (hbi.fo j hj q).p4 (by omega)
  ·show law_ClanMoves_B2 (n:Int) texts (a:Int) (ds,c,f,(b:Int))=_
   rw [hstart]
   refine moves_L3 hlen' h7 ha ?_
   rw [decide_eq_false dn]
   unfold law_ClanMoves_J6
   dsimp only
   have hw:w64 ((b:Int)+1)=((b+1:Nat):Int):=by rw [w64_id (by omega) (by omega)]; omega
   rw [if_neg (by decide),hw]
theorem beats {T:Int} {W:Log} (hk:k≤90) (ha:a<n) (hW:1≤W.length) (hlt:tat W (W.length:Int)=T):∀ (m b:Nat) (ds:List Deed) (ns:List Node) (c:Clan) (f:Fault),b+m=66→Rch texts n ds ns [] k→BI n a T W b ns→ds.length≤1750→
  law_ClanMoves_L2 (n:Int) texts (a:Int) (ds,c,f,(b:Int))=some (.inr true)
 | 0,b,ds,ns,c,f,hbm,h,hb,hl=>by
  rcases beat_step hk ha hW hlt (by omega) c f h hb hl with q | ⟨q,_⟩
  ·exact q
  ·omega
 | m+1,b,ds,ns,c,f,hbm,h,hb,hl=>by
  rcases beat_step hk ha hW hlt (by omega) c f h hb hl with q | ⟨q,ds',ns',c',f',q1,q2,q3,q4⟩
  ·exact q
  ·rw [q4]; exact beats hk ha hW hlt m (b+1) ds' ns' c' f' (by omega) q1 q2 q3
theorem cnt_full {g:Nat→Bool} {c L:Nat} (hg:g (L+1)=true) (hc:c≤L):cntD g c (L+1)=L+1:=by rw [cntD,if_neg (by omega),if_pos hg]
theorem prop_alone {x:Node} (g:NGood x) (ro:x.Role=2) (hN:x.N=1) (hid:x.ID=0) (text:List UInt8):(proX x text).Commit=((x.Log.length+1:Nat):Int):=by
 obtain ⟨g1,g2,g3,g4,g5⟩:=g.lead ro
 have hcl:=g.cl
 have hc0:=g.c0
 have hlast:tat (x.Log++[(⟨x.Term,text⟩:Entry)]) ((x.Log.length+1:Nat):Int)=x.Term:=by
  rw [tat_in _ _ (by omega) (by simp),Nat.add_sub_cancel,lget_app_r _ _ _ (Int.le_refl _),Int.sub_self]; rfl
 have hhv:haveN (lset x.Have x.ID ((x.Log.length:Int)+1)) ((x.Log.length+1:Nat):Int)=1:=by
  have hl:x.Have.length=1:=by omega
  match hh:x.Have,hl with
  | [v],_=>rw [hid]; simp [lset,haveN]
 have hgd:gd x.N x.Term (x.Log++[⟨x.Term,text⟩]) (lset x.Have x.ID ((x.Log.length:Int)+1)) (x.Log.length+1)=true:=by
  unfold gd
  rw [hhv,hlast,hN]; simp
 exact congrArg (fun z:Nat=>(z:Int)) (cnt_full hgd (by omega))
theorem led_moves (h:Rch texts n ds ns [] k) (ha:a<n) (hl:ds.length≤1700) (hL:Led n a ns) (hk:k<texts.length) (ht90:texts.length≤90) (ht:∀ t∈texts,t.length≤200) (c:Clan) (f:Fault) :
  law_ClanMoves_L2 (n:Int) texts (a:Int) (ds++[(⟨1,(a:Int),0⟩:Deed)],c,f,0)=some (.inr true):=by
 have hlen:=h.gi.1.len
 obtain ⟨xg,xid,xN,xT⟩:=h.node ha
 have hll:=log_le h ha
 have hro:=hL.ro
 have hn1:=h.h1
 have htx:=ht _ (lget_mem texts (k:Int) (by omega))
 have hb:=bad0 (d:=⟨1,(a:Int),0⟩) h (.inr (.inr (.inr ⟨rfl,hk⟩))) rfl ha
 generalize hx:lget ns (a:Int)=x at *
 have hps:propS x (lget texts (k:Int))=(proX x (lget texts (k:Int)),⟨0,0⟩):=by
  unfold propS
  rw [if_neg (not_not_intro (nodeF_good.2 xg)),if_neg (not_not_intro hro),if_neg (by omega),if_neg (by omega)]
 have hd:deedC texts ⟨1,(a:Int),0⟩ ns [] k=(lset ns (a:Int) (proX x (lget texts (k:Int))),[],k+1):=by
  unfold deedC
  rw [if_neg (show ¬ (1:Int)=0 by decide),if_pos (show (1:Int)=1 from rfl)]
  show ((act ns [] (a:Int) ((propS (lget ns (a:Int)) (lget texts (k:Int))).1,[],(propS (lget ns (a:Int)) (lget texts (k:Int))).2)).1,(act ns [] (a:Int) ((propS (lget ns (a:Int)) (lget texts (k:Int))).1,[],(propS (lget ns (a:Int)) (lget texts (k:Int))).2)).2,if (propS (lget ns (a:Int)) (lget texts (k:Int))).2.Code=0 then k+1 else k)=_
  rw [hx,hps]
  unfold act
  rw [if_pos rfl,if_pos rfl]; rfl
 have h2:=h.snoc (by omega) hb (by rw [hd]; exact Nat.zero_le _)
 rw [hd] at h2
 replace h2:Rch texts n (ds++[(⟨1,(a:Int),0⟩:Deed)]) (lset ns (a:Int) (proX x (lget texts (k:Int)))) [] (k+1):=h2
 have hget:∀ j:Nat,lget (lset ns (a:Int) (proX x (lget texts (k:Int)))) (j:Int)=if j=a then proX x (lget texts (k:Int)) else lget ns (j:Int):=fun j=>by
  rw [lget_lset _ _ _ _ (by omega) (by omega)]
  by_cases q:j=a
  ·rw [if_pos (by omega),if_pos q]
  ·rw [if_neg (by omega),if_neg q]
 have hga:=hget a
 rw [if_pos rfl] at hga
 obtain ⟨g1,g2,g3,g4,g5⟩:=xg.lead hro
 have hWl:(x.Log++[(⟨x.Term,lget texts (k:Int)⟩:Entry)]).length=x.Log.length+1:=by simp
 obtain ⟨G,hri,_⟩:=h2.inv
 have hxa:=hri.nd (a:Int) ⟨by omega,by omega⟩
 obtain ⟨xg2,-⟩:=h2.node ha
 rw [hga] at hxa xg2
 obtain ⟨⟨l,l1⟩,l2,l3⟩:=hxa.ld hro
 have hWG:G.ll x.Term=x.Log++[⟨x.Term,lget texts (k:Int)⟩]:=l2.symm
 refine beats (T:=x.Term) (W:=x.Log++[⟨x.Term,lget texts (k:Int)⟩]) (by omega) ha (by omega) ?_ 66 0 _ _ c f rfl h2 ?_ (by simp; omega)
 ·rw [hWl,tat_in _ _ (by omega) (by rw [hWl]; exact Nat.le_refl _),Nat.add_sub_cancel,lget_app_r _ _ _ (Int.le_refl _),Int.sub_self]; rfl
 refine ⟨by rw [hga]; exact hro,fun j hj=>?_,by rw [hga]; rfl,?_,fun q=>?_,fun j hj hja=>?_⟩
 ·rw [hget j]
  by_cases q:j=a
  ·rw [if_pos q]; rfl
  ·rw [if_neg q,hL.tm j hj]
   exact congrArg Node.Term hx
 ·rw [hga,hWl]
  show lget (lset x.Have x.ID ((x.Log.length:Int)+1)) (a:Int)=_
  rw [xid,lget_lset _ _ _ _ (by omega) (by omega),if_pos rfl]; omega
 ·rcases q with q | q
  ·rw [hga,hWl]
   exact prop_alone xg hro (by omega) (by omega) _
  ·omega
 ·rw [hga,hget j,if_neg hja]
  have hjn:=hri.nd (j:Int) ⟨by omega,by omega⟩
  rw [hget j,if_neg hja] at hjn
  have hHv:lget (proX x (lget texts (k:Int))).Have (j:Int)=lget x.Have (j:Int):=by
   show lget (lset x.Have x.ID ((x.Log.length:Int)+1)) (j:Int)=_
   rw [xid,lget_lset _ _ _ _ (by omega) (by omega),if_neg (by omega)]
  have hNx:lget (proX x (lget texts (k:Int))).Next (j:Int)=lget x.Next (j:Int):=by
   show lget (lset x.Next x.ID ((x.Log.length:Int)+2)) (j:Int)=_
   rw [xid,lget_lset _ _ _ _ (by omega) (by omega),if_neg (by omega)]
  have hnx:=g3 _ (lget_mem x.Next (j:Int) (by omega))
  have hhv:=g4 _ (lget_mem x.Have (j:Int) (by omega))
  have hhn:=hL.hn j hj hja
  rw [hx] at hhn
  have htj:(lget ns (j:Int)).Term=x.Term:=by rw [hL.tm j hj]; exact congrArg Node.Term hx
  have hag:Agr (x.Log++[(⟨x.Term,lget texts (k:Int)⟩:Entry)]) (lget ns (j:Int)).Log (lget x.Have (j:Int)).toNat:=by
   have h5:lget (proX x (lget texts (k:Int))).Have (j:Int)≤(G.ak (j:Int) x.Term:Int):=l3 (j:Int) ⟨by omega,by omega⟩
   rw [hHv] at h5
   have h6:=hjn.A x.Term (lget x.Have (j:Int)).toNat (by rw [htj]; exact Int.le_refl _) (by omega) (fun S s1 s2=>by rw [htj] at s2; omega)
   rw [hWG] at h6
   exact agr_pre (by rw [hWl]; omega) h6
  obtain ⟨M,hM⟩:=maxA_ex (x.Log++[(⟨x.Term,lget texts (k:Int)⟩:Entry)]) (lget ns (j:Int)).Log
  have hMl:=hM.1.1
  have hMW:=hM.1.2.1
  exact ⟨by rw [hHv,hNx,hWl]; omega,by rw [hHv]; exact hag,fun _=>⟨M,min (lget ns (j:Int)).Log.length (x.Log++[(⟨x.Term,lget texts (k:Int)⟩:Entry)]).length - M,hM,by omega,.inr (.inl rfl)⟩,fun q=>by omega,fun q=>by omega,fun q=>by omega⟩
end
theorem newest:∀ (n:Nat) (f:Nat→Log),1≤n→∃ a,a<n∧∀ j,j<n→¬ Newer (f j) (f a)
 | 0,f,h=>by omega
 | n+1,f,_=>by
  by_cases c:n=0
  ·subst c
   exact ⟨0,by omega,fun j hj=>by
    have:j=0:=by omega
    rw [this]; unfold Newer; omega⟩
  ·obtain ⟨a,ha,h⟩:=newest n f (by omega)
   by_cases q:Newer (f n) (f a)
   ·refine ⟨n,by omega,fun j hj=>?_⟩
    by_cases e:j=n
    ·rw [e]; unfold Newer; omega
    ·have:=h j (by omega)
     unfold Newer at this q ⊢
     omega
   ·refine ⟨a,by omega,fun j hj=>?_⟩
    by_cases e:j=n
    ·rw [e]; exact q
    ·exact h j (by omega)
theorem greatest:∀ (n:Nat) (f:Nat→Int),1≤n→∃ a,a<n∧∀ j,j<n→f j≤f a
 | 0,f,h=>by omega
 | n+1,f,_=>by
  by_cases c:n=0
  ·subst c
   exact ⟨0,by omega,fun j hj=>by
    have:j=0:=by omega
    rw [this]; exact Int.le_refl _⟩
  ·obtain ⟨a,ha,h⟩:=greatest n f (by omega)
   by_cases q:f a≤f n
   ·refine ⟨n,by omega,fun j hj=>?_⟩
    by_cases e:j=n
    ·rw [e]; exact Int.le_refl _
    ·have:=h j (by omega); omega
   ·refine ⟨a,by omega,fun j hj=>?_⟩
    by_cases e:j=n
    ·rw [e]; omega
    ·exact h j (by omega)
theorem met_in {n r a:Nat} (ha:a<n):∃ q,q<n∧(r+q) % n=a:=by
 have hr:r % n<n:=Nat.mod_lt _ (by omega)
 have key:∀ q,r % n+q=a∨r % n+q=a+n→(r+q) % n=a:=fun q h=>by
  have h1:=Nat.mod_add_div r n
  generalize r % n=s at *
  generalize r / n=d at *
  rcases h with h | h
  ·have:r+q=a+n*d:=by omega
   rw [this,Nat.add_mul_mod_self_left,Nat.mod_eq_of_lt ha]
  ·have:r+q=a+n*(d+1):=by rw [Nat.mul_add]; omega
   rw [this,Nat.add_mul_mod_self_left,Nat.mod_eq_of_lt ha]
 by_cases c:r % n≤a
 ·exact ⟨a - r % n,by omega,key _ (.inl (by omega))⟩
 ·exact ⟨a+n - r % n,by omega,key _ (.inr (by omega))⟩
section
variable {texts:List (List UInt8)} {n k w:Nat} {who:Int}
theorem turn_step (ht90:texts.length≤90) (ht:∀ t∈texts,t.length≤200) (hk:k<texts.length) (hw:w<n) (hwho:Int.tmod (IntKind.u64.wrap who) (IntKind.u64.wrap (n:Int))=(w:Int)) {t:Nat} (htt:t<4*n) {ds:List Deed} {ns:List Node} (c:Clan) (f:Fault) (h:Rch texts n ds ns [] k) (hl:ds.length≤1700) :
  law_ClanMoves_L1 (n:Int) texts who (ds,c,f,(t:Int))=some true∨∃ ds' ns' c' f',Rch texts n ds' ns' [] k∧ds'.length≤1700∧(Even n ((w+t) % n) ns ns'∨Rose n ((w+t) % n) ns ns')∧law_ClanMoves_L1 (n:Int) texts who (ds,c,f,(t:Int))=law_ClanMoves_L1 (n:Int) texts who (ds',c',f',((t+1:Nat):Int)):=by
 have h7:=h.h7
 have h1:=h.h1
 have ha:(w+t) % n<n:=Nat.mod_lt _ (by omega)
 have hv5:Int.tmod (w64 (w64 (Int.tmod (IntKind.u64.wrap who) (IntKind.u64.wrap (n:Int)))+(t:Int))) (n:Int)=(((w+t) % n:Nat):Int):=by
  have e1:w64 (w:Int)=(w:Int):=w64_id (by omega) (by omega)
  have e2:w64 ((w:Int)+(t:Int))=((w+t:Nat):Int):=by rw [w64_id (by omega) (by omega)]; omega
  rw [hwho,e1,e2]; rfl
 have h4:w64 (4*(n:Int))=4*(n:Int):=w64_id (by omega) (by omega)
 have hw1:w64 ((t:Int)+1)=((t+1:Nat):Int):=by rw [w64_id (by omega) (by omega)]; omega
 obtain ⟨ds',ns',way',e1,e2,e3⟩:=calm_turn h ha (by omega)
 have hlen':=e2.gi.1.len
 generalize (w+t) % n=a at *
 have hstart:law_ClanMoves_B1 (n:Int) texts who (ds,c,f,(t:Int))=if (decide (1700<(ds'.length:Int)))=true then some (.inr true) else if (!decide ((lget ns' (a:Int)).Role=2))=true then some (.inl (ds',⟨ns',way'⟩,⟨0,0⟩,((t+1:Nat):Int))) else
   asrt (((ds'++[(⟨1,(a:Int),0⟩:Deed)]).length:Int)*24≤140737488351232) (law_ClanMoves_L2 (n:Int) texts (a:Int) (ds'++[(⟨1,(a:Int),0⟩:Deed)],⟨ns',way'⟩,⟨0,0⟩,0)):=by
  unfold law_ClanMoves_B1
  dsimp only [lt]
  rw [h4,if_pos (d_t (by omega)),asrt_pos (by omega),hv5,asrt_pos (by omega),asrt_pos (by simp; omega),e1,ob_some,if_neg (by simp; omega)]
  dsimp only
  rw [hw1,asrt_pos (show 0≤(a:Int)∧(a:Int)<(ns'.length:Int) by omega)]
 by_cases c17:1700<ds'.length
 ·left
  refine loopO_inr ?_
  show law_ClanMoves_B1 (n:Int) texts who (ds,c,f,(t:Int))=_
  rw [hstart,if_pos (d_t (by omega))]
 rw [if_neg (d_f (by omega))] at hstart
 rcases e3 with e3 | ⟨e3,e4⟩
 ·omega
 subst e3
 rcases e4 with e4 | ⟨e4,e5⟩
 ·left
  refine loopO_inr ?_
  show law_ClanMoves_B1 (n:Int) texts who (ds,c,f,(t:Int))=_
  rw [hstart,if_neg (by simp [e4.ro]),asrt_pos (by simp; omega)]
  exact led_moves e2 ha (by omega) e4 hk ht90 ht _ _
 ·right
  refine ⟨ds',ns',⟨ns',[]⟩,⟨0,0⟩,e2,by omega,e5,loopO_inl ?_⟩
  show law_ClanMoves_B1 (n:Int) texts who (ds,c,f,(t:Int))=_
  rw [hstart,if_pos (by simp [e4])]
theorem phase2 (ht90:texts.length≤90) (ht:∀ t∈texts,t.length≤200) (hk:k<texts.length) (hw:w<n) (hwho:Int.tmod (IntKind.u64.wrap who) (IntKind.u64.wrap (n:Int))=(w:Int)) {s:Nat} (hs:s≤n) (lgs:Nat→Log):∀ (m l:Nat) (ds:List Deed) (ns:List Node) (c:Clan) (f:Fault),l+m=n→Rch texts n ds ns [] k→ds.length≤1700→
  (∃ M,∀ j:Nat,j<n→(lget ns (j:Int)).Term=M)→(∀ j:Nat,j<n→(lget ns (j:Int)).Log=lgs j)→(∀ q:Nat,q<l→∃ j,j<n∧Newer (lgs j) (lgs ((w+s+q) % n)))→law_ClanMoves_L1 (n:Int) texts who (ds,c,f,((s+l:Nat):Int))=some true
 | 0,l,ds,ns,c,f,hlm,h,hl,hE,hlg,hq=>by
  exfalso
  obtain ⟨a,ha,h1⟩:=newest n lgs (by omega)
  obtain ⟨q,q1,q2⟩:=met_in (r:=w+s) ha
  obtain ⟨j,j1,j2⟩:=hq q (by omega)
  rw [q2] at j2
  exact h1 j j1 j2
 | m+1,l,ds,ns,c,f,hlm,h,hl,⟨M,hE⟩,hlg,hq=>by
  have ha:(w+(s+l)) % n<n:=Nat.mod_lt _ (by omega)
  rcases turn_step ht90 ht hk hw hwho (t:=s+l) (by omega) c f h hl with e | ⟨ds',ns',c',f',e1,e2,e3,e4⟩
  ·exact e
  ·rw [e4]
   rcases e3 with e3 | e3
   ·refine phase2 ht90 ht hk hw hwho hs lgs m (l+1) ds' ns' c' f' (by omega) e1 e2 ⟨_,fun j hj=>(e3.all j hj).1⟩ (fun j hj=>by rw [(e3.all j hj).2]; exact hlg j hj) (fun q hq2=>?_)
    by_cases z:q=l
    ·obtain ⟨j,j1,j2,j3⟩:=e3.nw
     refine ⟨j,j1,?_⟩
     rw [z,Nat.add_assoc w s l]
     rcases j3 with j3 | j3
     ·rw [hE j j1,hE _ ha] at j3; omega
     ·rwa [hlg j j1,hlg _ ha] at j3
    ·exact hq q (by omega)
   ·exfalso
    obtain ⟨j,j1,j2⟩:=e3.gt
    rw [hE j j1,hE _ ha] at j2
    omega
theorem phase1 (ht90:texts.length≤90) (ht:∀ t∈texts,t.length≤200) (hk:k<texts.length) (hw:w<n) (hwho:Int.tmod (IntKind.u64.wrap who) (IntKind.u64.wrap (n:Int))=(w:Int)) {M:Int}:∀ (m i:Nat) (ds:List Deed) (ns:List Node) (c:Clan) (f:Fault),i+m=n→Rch texts n ds ns [] k→ds.length≤1700→
  (∀ j:Nat,j<n→(lget ns (j:Int)).Term≤M)→(∃ j:Nat,j<n∧(lget ns (j:Int)).Term=M)→(∀ q:Nat,q<i→(lget ns (((w+q) % n:Nat):Int)).Term=M)→law_ClanMoves_L1 (n:Int) texts who (ds,c,f,(i:Int))=some true
 | 0,i,ds,ns,c,f,him,h,hl,hM,hj,hq=>by
  have hE:∀ j:Nat,j<n→(lget ns (j:Int)).Term=M:=fun j hj=>by
   obtain ⟨q,q1,q2⟩:=met_in (r:=w) hj
   have:=hq q (by omega)
   rwa [q2] at this
  have:=phase2 ht90 ht hk hw hwho (s:=i) (by omega) (fun j=>(lget ns (j:Int)).Log) n 0 ds ns c f (by omega) h hl ⟨M,hE⟩ (fun j _=>rfl) (fun q hq=>by omega)
  exact this
 | m+1,i,ds,ns,c,f,him,h,hl,hM,⟨j0,hj0,hj0M⟩,hq=>by
  have ha:(w+i) % n<n:=Nat.mod_lt _ (by omega)
  rcases turn_step ht90 ht hk hw hwho (t:=i) (by omega) c f h hl with e | ⟨ds',ns',c',f',e1,e2,e3,e4⟩
  ·exact e
  ·rw [e4]
   rcases e3 with e3 | e3
   ·have:=phase2 ht90 ht hk hw hwho (s:=i+1) (by omega) (fun j=>(lget ns' (j:Int)).Log) n 0 ds' ns' c' f' (by omega) e1 e2 ⟨_,fun j hj=>(e3.all j hj).1⟩ (fun j _=>rfl) (fun q hq=>by omega)
    exact this
   ·have hle:=e3.le M hM
    have haM:(lget ns' (((w+i) % n:Nat):Int)).Term=M:=by
     have h1:=(e3.up j0 hj0).2
     have h2:=hle _ ha
     omega
    refine phase1 ht90 ht hk hw hwho m (i+1) ds' ns' c' f' (by omega) e1 e2 hle ⟨_,ha,haM⟩ (fun q hq2=>?_)
    by_cases z:q=i
    ·rw [z]; exact haM
    ·have h1:=hq q (by omega)
     have hqn:(w+q) % n<n:=Nat.mod_lt _ (by omega)
     have h2:=(e3.up _ hqn).1
     have h3:=hle _ hqn
     omega
end
theorem first_such {p:Nat→Prop}:∀ {n:Nat},(∃ j,j<n∧p j)→∃ j,j<n∧p j∧∀ i,i<j→¬ p i
 | 0,⟨j,h,_⟩=>by omega
 | n+1,⟨j,h,hp⟩=>by
  by_cases c:∃ j,j<n∧p j
  ·obtain ⟨i,a,b,d⟩:=first_such c
   exact ⟨i,by omega,b,d⟩
  ·have:j=n:=by
    apply Classical.byContradiction
    intro q
    exact c ⟨j,by omega,hp⟩
   subst this
   exact ⟨j,by omega,hp,fun i hi q=>c ⟨i,hi,q⟩⟩
section
variable {texts:List (List UInt8)} {n:Nat}
theorem rch_begin (h1:1≤n) (h7:n≤7) (ht:texts.length≤100):Rch texts n [] (beginC n n) [] 0:=
 ⟨h1,h7,ht,Nat.zero_le _,fun j hj=>(by cases hj),rfl,⟨G0,ri_begin,rp_begin⟩,fun j hj=>by
  unfold isN at hj
  obtain ⟨i,rfl⟩:∃ i:Nat,j=(i:Int):=⟨j.toNat,by omega⟩
  rw [beginC_get n n i (by omega)]; exact Int.le_refl _,fun m hm=>(by cases hm)⟩
def asks (deeds:List Deed):Nat→Nat
 | 0=>0
 | i+1=>if (lget deeds (i:Int)).Kind=1 then asks deeds i+1 else asks deeds i
theorem asks_le (deeds:List Deed):∀ i,asks deeds i≤i
 | 0=>Nat.le_refl _
 | i+1=>by
  have:=asks_le deeds i
  rw [asks]; split <;> omega
theorem rch_all {deeds:List Deed} (h1:1≤n) (h7:n≤7) (ht:texts.length≤100) (hd:deeds.length≤2000) (hall:∀ j,j<deeds.length→cd texts deeds n j=0):∀ i:Nat,i≤deeds.length→∃ ns way k,Rch texts n (deeds.take i) ns way k∧k≤asks deeds i
 | 0,_=>⟨_,_,_,rch_begin h1 h7 ht,Nat.le_refl _⟩
 | i+1,hi=>by
  obtain ⟨ns,way,k,h,hk⟩:=rch_all h1 h7 ht hd hall i (by omega)
  have hl:(deeds.take i).length=i:=by rw [List.length_take]; omega
  have hgm:=h.gm
  rw [hl] at hgm
  have hg2:G.gm texts deeds n i=(ns,way,k):=by
   have:=gm_app (texts:=texts) (n:=n) (ds:=deeds.take i) (es:=deeds.drop i) i (by omega)
   rw [List.take_append_drop] at this
   rw [this,hgm]
  have hc:=hall i (by omega)
  unfold cd at hc
  rw [hg2] at hc
  dsimp only at hc
  have hb:badC texts (lget deeds (i:Int)) ns way k=0:=by
   apply Classical.byContradiction
   intro q
   unfold stepC at hc
   rw [if_pos q] at hc
   exact q hc
  have hw:(deedC texts (lget deeds (i:Int)) ns way k).2.1.length≤200:=by
   apply Classical.byContradiction
   intro q
   unfold stepC at hc
   rw [if_neg (not_not_intro hb)] at hc
   dsimp only at hc
   rw [if_pos (by omega)] at hc
   exact absurd hc (by decide)
  have h2:=h.snoc (by omega) hb hw
  have e:deeds.take (i+1)=deeds.take i++[lget deeds (i:Int)]:=lget_take deeds i (by omega)
  rw [e]
  refine ⟨_,_,_,h2,?_⟩
  rw [asks]
  have hkk:(deedC texts (lget deeds (i:Int)) ns way k).2.2≤if (lget deeds (i:Int)).Kind=1 then k+1 else k:=by
   unfold deedC
   by_cases k0:(lget deeds (i:Int)).Kind=0
   ·rw [if_pos k0,if_neg (by omega)]; exact Nat.le_refl _
   rw [if_neg k0]
   by_cases k1:(lget deeds (i:Int)).Kind=1
   ·rw [if_pos k1,if_pos k1]
    dsimp only
    split <;> omega
   rw [if_neg k1,if_neg k1]
   split
   ·exact Nat.le_refl _
   split
   ·exact Nat.le_refl _
   split
   ·exact Nat.le_refl _
   split
   ·exact Nat.le_refl _
   ·exact Nat.le_refl _
  split at hkk <;> rename_i q
  ·rw [if_pos q]; omega
  ·rw [if_neg q]; omega
section
variable {num who:Int} {deeds:List Deed}
theorem moves_J3 (hN:num=(n:Int)) (ht90:texts.length≤90) (ht:∀ t∈texts,t.length≤200) {ds:List Deed} {ns:List Node} {k:Nat} (h:Rch texts n ds ns [] k) (hl:ds.length≤1700) (x2:Clan×Fault) {v2:Int} (hk:(k:Int)≤v2):law_ClanMoves_J3 num texts who x2 ds v2=some true:=by
 subst hN
 have h1:=h.h1
 have h7:=h.h7
 unfold law_ClanMoves_J3
 by_cases c:(texts.length:Int)≤v2
 ·rw [if_pos (d_t c)]
 rw [if_neg (d_f c)]
 have e:IntKind.u64.wrap (n:Int)=(n:Int):=by rw [IntKind.wrap_u64]; omega
 rw [asrt_pos (by rw [e]; omega)]
 have hw0:0≤IntKind.u64.wrap who:=by rw [IntKind.wrap_u64]; omega
 have hm:=Int.tmod_nonneg (n:Int) hw0
 have hm2:=Int.tmod_lt_of_pos (IntKind.u64.wrap who) (show (0:Int)<(n:Int) by omega)
 obtain ⟨w,hw⟩:∃ w:Nat,Int.tmod (IntKind.u64.wrap who) (n:Int)=(w:Int):=⟨(Int.tmod (IntKind.u64.wrap who) (n:Int)).toNat,by omega⟩
 obtain ⟨a,ha,hg⟩:=greatest n (fun j=>(lget ns (j:Int)).Term) h1
 exact phase1 ht90 ht (by omega) (w:=w) (by omega) (by rw [e]; exact hw) n 0 ds ns x2.1 x2.2 (by omega) h hl hg ⟨a,ha,rfl⟩ (fun q hq=>by omega)
theorem moves_J2 (hN:num=(n:Int)) (ht90:texts.length≤90) (ht:∀ t∈texts,t.length≤200) (hd:deeds.length≤100) {ds:List Deed} {ns:List Node} {k:Nat} (h:Rch texts n ds ns [] k) (hl:ds.length≤1700) (x2:Clan×Fault) (hk:k≤asks deeds deeds.length):law_ClanMoves_J2 num texts deeds who x2 ds=some true:=by
 unfold law_ClanMoves_J2 law_ClanMoves_L4
 have e0:((0:Int),(0:Int))=((asks deeds 0:Int),((0:Nat):Int)):=rfl
 rw [e0]
 refine loop_run (step:=fun y=>law_ClanMoves_B4 num texts deeds who x2 ds y) deeds.length (fun i=>((asks deeds i:Int),(i:Int))) (fun i hi=>?_) ?_
 ·have hw:w64 ((i:Int)+1)=((i+1:Nat):Int):=by rw [w64_id (by omega) (by omega)]; omega
  have ha:=asks_le deeds i
  have hw2:w64 ((asks deeds i:Int)+1)=((asks deeds i+1:Nat):Int):=by rw [w64_id (by omega) (by omega)]; omega
  show law_ClanMoves_B4 num texts deeds who x2 ds ((asks deeds i:Int),(i:Int))=_
  unfold law_ClanMoves_B4
  dsimp only
  rw [if_pos (d_t (by omega)),asrt_pos (by omega),hw,hw2,asks]
  by_cases c:(lget deeds (i:Int)).Kind=1
  ·rw [if_pos (d_t c),if_pos c,ob_some]
  ·rw [if_neg (d_f c),if_neg c,ob_some]
 ·show law_ClanMoves_B4 num texts deeds who x2 ds ((asks deeds deeds.length:Int),(deeds.length:Int))=_
  unfold law_ClanMoves_B4
  dsimp only
  rw [if_neg (d_f (by omega)),moves_J3 hN ht90 ht h hl x2 (by omega)]; rfl
theorem moves_L5 (hN:num=(n:Int)) (ht90:texts.length≤90) (ht:∀ t∈texts,t.length≤200) (hd:deeds.length≤100) (x2:Clan×Fault) {k:Nat} (hk:k≤asks deeds deeds.length):∀ (m:Nat) (ds:List Deed) (ns:List Node) (way:List Mail),way.length=m→Rch texts n ds ns way k→ds.length+m≤400→
  law_ClanMoves_L5 num texts deeds who x2 (ds,(m:Int))=some true
 | 0,ds,ns,way,hm,h,hl=>by
  have:way=[]:=List.eq_nil_of_length_eq_zero hm
  subst this
  refine loopO_inr ?_
  show law_ClanMoves_B5 num texts deeds who x2 (ds,((0:Nat):Int))=_
  unfold law_ClanMoves_B5
  dsimp only
  rw [if_neg (d_f (by omega)),moves_J2 hN ht90 ht hd h (by omega) x2 hk]; rfl
 | m+1,ds,ns,way,hm,h,hl=>by
  have hw:w64 (((m+1:Nat):Int) - 1)=(m:Int):=by rw [w64_id (by omega) (by omega)]; omega
  have hb:badC texts ⟨5,0,(m:Int)⟩ ns way k=0:=by
   unfold badC
   rw [if_neg (show ¬ ((5:Int)<0∨6<(5:Int)) by decide),if_neg,if_neg (fun q=>absurd q.1 (show ¬ (5:Int)=1 by decide))]
   rintro (⟨_,q⟩ | ⟨q,_⟩)
   ·have q:(m:Int)<0∨(way.length:Int)≤(m:Int):=q
    omega
   ·exact q (show 3≤(5:Int)∧(5:Int)≤5 by decide)
  have hdd:deedC texts ⟨5,0,(m:Int)⟩ ns way k=(ns,way.eraseIdx m,k):=by
   unfold deedC
   rw [if_neg (show ¬ (5:Int)=0 by decide),if_neg (show ¬ (5:Int)=1 by decide),if_neg (show ¬ (5:Int)=2 by decide),if_neg (show ¬ (5:Int)=3 by decide),if_neg (show ¬ (5:Int)=4 by decide),if_pos (show (5:Int)=5 from rfl),Int.toNat_natCast]
  have hel:(way.eraseIdx m).length=m:=by rw [List.length_eraseIdx_of_lt (by omega)]; omega
  have h2:=h.snoc (by omega) hb (by rw [hdd]; show (way.eraseIdx m).length≤200; have:=h.gi.2.2; omega)
  rw [hdd] at h2
  refine (loopO_inl (y:=(ds++[(⟨5,0,(m:Int)⟩:Deed)],(m:Int))) ?_).trans (moves_L5 hN ht90 ht hd x2 hk m _ ns _ hel h2 (by simp; omega))
  show law_ClanMoves_B5 num texts deeds who x2 (ds,((m+1:Nat):Int))=_
  unfold law_ClanMoves_B5
  dsimp only
  rw [if_pos (d_t (by omega)),hw,asrt_pos (by simp; omega)]
theorem moves_J1 (hN:num=(n:Int)) (h1:1≤n) (h7:n≤7) (ht90:texts.length≤90) (ht:∀ t∈texts,t.length≤200) (hd:deeds.length≤100):law_ClanMoves_J1 num texts deeds who ()=some true:=by
 unfold law_ClanMoves_J1
 rw [asrt_pos (by omega),hN]
 rcases both (texts:=texts) (deeds:=deeds) h1 h7 (by omega) (by omega) with ⟨j,j1,j2,_,j4⟩ | ⟨hall,hp,hg⟩
 ·rw [j4,ob_some,if_pos (n_t j2)]
 ·rw [hg,ob_some,if_neg (n_f rfl),hp,ob_some,if_neg (n_f rfl)]
  obtain ⟨ns,way,k,h,hk⟩:=rch_all h1 h7 (by omega) (by omega) hall deeds.length (Nat.le_refl _)
  rw [List.take_length] at h
  have hgm:=h.gm
  rw [hgm]
  have:=h.gi.2.2
  exact moves_L5 rfl ht90 ht hd _ hk way.length deeds ns way rfl h (by omega)
end
theorem ClanMoves_eq (num:Int) (texts:List (List UInt8)) (deeds:List Deed) (who:Int):law_ClanMoves num texts deeds who=some true:=by
 unfold law_ClanMoves
 rw [clanBegun_eq,ob_some,if_neg (by decide)]
 by_cases c:(((100<(deeds.length:Int)∨(texts.length:Int)=0)∨90<(texts.length:Int))∨num<1)∨7<num
 ·rw [if_pos (by simpa using c)]
 ·rw [if_neg (by simpa using c)]
  obtain ⟨n,hn⟩:∃ n:Nat,num=(n:Int):=⟨num.toNat,by omega⟩
  unfold law_ClanMoves_L6
  have hgo:∀ i:Nat,i<texts.length→¬ 200<(lget texts (i:Int)).length→law_ClanMoves_B6 num texts deeds who (i:Int)=some (.inl ((i+1:Nat):Int)):=fun i hi hb=>by
   have hw:w64 ((i:Int)+1)=((i+1:Nat):Int):=by rw [w64_id (by omega) (by omega)]; omega
   unfold law_ClanMoves_B6
   rw [if_pos (d_t (by omega)),asrt_pos (by omega),if_neg (d_f (by omega)),hw]
  by_cases hb:∃ j,j<texts.length∧200<(lget texts (j:Int)).length
  ·obtain ⟨j,j1,j2,j3⟩:=first_such hb
   refine loop_run (step:=fun y=>law_ClanMoves_B6 num texts deeds who y) j (fun i=>(i:Int)) (fun i hi=>hgo i (by omega) (j3 i hi)) ?_
   show law_ClanMoves_B6 num texts deeds who (j:Int)=_
   unfold law_ClanMoves_B6
   rw [if_pos (d_t (by omega)),asrt_pos (by omega),if_pos (d_t (by omega))]
  ·refine loop_run (step:=fun y=>law_ClanMoves_B6 num texts deeds who y) texts.length (fun i=>(i:Int)) (fun i hi=>hgo i hi (fun q=>hb ⟨i,hi,q⟩)) ?_
   show law_ClanMoves_B6 num texts deeds who (texts.length:Int)=_
   unfold law_ClanMoves_B6
   rw [if_neg (d_f (by omega)),moves_J1 hn (by omega) (by omega) (by omega) (fun z hz=>?_) (by omega)]; rfl
   obtain ⟨i,hi,e⟩:=mem_lget.1 hz
   rw [← e]
   exact Nat.le_of_not_lt fun q=>hb ⟨i,hi,q⟩
end
end G
end Go.Proofs.Ythiighaapaomcaa
