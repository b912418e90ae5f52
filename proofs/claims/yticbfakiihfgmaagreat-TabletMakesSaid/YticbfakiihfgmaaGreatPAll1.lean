/- The plain law. -/
import Derived.Test.YticbfakiihfgmaaGreatPAll0
namespace Go.Proofs.YticbfakiihfgmaaGreat
open Go Go.Dm
set_option linter.unusedVariables false
set_option linter.unusedSimpArgs false
set_option linter.unusedSectionVars false
namespace G
theorem encF_take_len (L:B9)(k:Nat)(hk:k<L.length):(zjp (L.take (k+1))).length=(zjp (L.take k)).length+(zad L (k:Int)).length+6:=by
 rw [zdq L k hk,zn9,zr7,xaa,zcs]; omega
theorem encF_take_mono (L:B9)(k:Nat):(zjp (L.take k)).length<=(zjp L).length:=by
 have e:zjp L=zjp (L.take k)++zjp (L.drop k):=by rw [<- zn9,xa1]
 rw [e,xaa]; omega
noncomputable def zl3 (l:Cs)(size:Int):Fault:=
 if ¬ (zk1 l).Code=0 then zk1 l
 else if 500<l.length then ⟨2,-1⟩
 else if size<50\/4000<size then ⟨3,-1⟩
 else if 60000<(ze2 l size).length then ⟨9,0⟩ else ⟨0,0⟩
noncomputable def makeS (l:Cs)(size:Int):B8×Fault:=if (zl3 l size).Code=0 then (ze2 l size,⟨0,0⟩) else ([],zl3 l size)
section
variable {l:Cs}(hg:∀ c∈l,za1 c=0)(hl:l.length<=1000)(size:Int)
include hg hl
omit hg hl in
theorem blk_last (hne:l.length≠0):(zd1 l size l.length).2=[]:=by
 obtain ⟨k,hk⟩:∃ k,l.length=k+1:=⟨l.length - 1,by omega⟩
 rw [hk,zd1,xac (.inr hk.symm)]
omit hg hl in
theorem blk_end:(zd1 l size l.length).2=[]:=by
 by_cases h:l.length=0
 ·have:l=[]:=xag h
  subst this; rfl
 ·exact blk_last size h
omit hg hl in
theorem rows_end:zn0 (zd1 l size l.length)=(zd1 l size l.length).1.map hdR:=by
 unfold zn0; rw [xac (blk_end size),xa4]
omit hg hl in
theorem partsL_len:(zcg l size).length=(zd1 l size l.length).1.length+2:=by simp [zcg]
theorem parts_bd:∀ b∈zcg l size,b.length<=400000:=by
 obtain ⟨h1,h2,h3,h4,h5,h6,h7⟩:=blk_bd hg hl size l.length (xae _)
 have hN:=zqm l
 intro b hb
 unfold zcg at hb
 rcases xar.1 hb with q | q
 ·obtain ⟨g,hgm,rfl⟩:=xb8.1 q
  have:∀ (gs:List Cs),g∈gs->(zft g).length<=(zjp (gs.map zft)).length:=by
   intro gs
   induction gs with
   | nil=>intro h; cases h
   | cons x gs ih=>
    intro h
    rw [xbr,zgj,xaa,zcs]
    rcases xap.1 h with e | e
    ·subst e; omega
    ·have:=ih e; omega
  have:=this _ hgm
  omega
 ·simp only [xap,List.not_mem_nil,or_false] at q
  rcases q with e | e
  ·rw [e]; omega
  ·rw [e]; unfold filF; rw [zei]; omega
theorem fileB_bd:(ze2 l size).length<=1000000:=by
 obtain ⟨h1,h2,h3,h4,h5,h6,h7⟩:=blk_bd hg hl size l.length (xae _)
 have hN:=zqm l
 have hfl:(filF l).length<=l.length+1:=by unfold filF; rw [zei]; omega
 unfold ze2 zcg
 rw [zn9,zgj,zr7,xaa,xaa,zcs,zcs]
 omega
theorem make_L1 (z:Fault):zqa ((zd1 l size l.length).1.map zft,zn0 (zd1 l size l.length)) (z,zs5 (zd1 l size l.length).1) (filF l) (z,[],0)=some (if 60000<(ze2 l size).length then ([],⟨9,0⟩) else (ze2 l size,⟨0,0⟩)):=by
 have hb:=parts_bd hg hl size
 have hbd:=fileB_bd hg hl size
 have hL:(zd1 l size l.length).1.map zft++[zs5 (zd1 l size l.length).1,filF l]=zcg l size:=rfl
 have hlen:=partsL_len size (l:=l)
 obtain ⟨_,_,_,h4,_,_,_⟩:=blk_bd hg hl size l.length (xae _)
 have hfb:ze2 l size=zjp (zcg l size):=rfl
 rw [hfb] at hbd ⊢
 unfold zqa
 have hstep:∀ k,k<(zcg l size).length->ziw ((zd1 l size l.length).1.map zft,zn0 (zd1 l size l.length)) (z,zs5 (zd1 l size l.length).1) (filF l) (z,zjp ((zcg l size).take k),(k:Int)) =
   if 60000<(zjp ((zcg l size).take (k+1))).length then some (.inr ([],⟨9,0⟩)) else some (.inl (z,zjp ((zcg l size).take (k+1)),((k+1:Nat):Int))):=by
  intro k hk
  have hw:w64 ((k:Int)+1)=((k+1:Nat):Int):=by rw [zai ..]; omega
  have hm:=encF_take_mono (zcg l size) k
  have hbk:=hb _ (zcb (zcg l size) (k:Int) (by omega))
  have htl:=encF_take_len (zcg l size) k hk
  have hw2:w64 (w64 (((zjp ((zcg l size).take k)).length:Int)+((zad (zcg l size) (k:Int)).length:Int))+6)=((zjp ((zcg l size).take (k+1))).length:Int):=by
   have e0:w64 (((zjp ((zcg l size).take k)).length:Int)+((zad (zcg l size) (k:Int)).length:Int))=((zjp ((zcg l size).take k)).length:Int)+((zad (zcg l size) (k:Int)).length:Int):=zai ..
   rw [e0,zai ..]; omega
  unfold ziw
  dsimp only [lt]
  rw [hL,ifT ..,zaa ..,zaa ..,hw2]
  by_cases c:60000<(zjp ((zcg l size).take (k+1))).length
  ·rw [ifT ..,xac c]; rfl
  ·rw [ifF ..,xab c,addFrame_eq _ _ (by omega) (by omega),zac,hw,zdq _ k hk,zn9,zr7]
 have key:=loop_any (step:=fun y=>ziw ((zd1 l size l.length).1.map zft,zn0 (zd1 l size l.length)) (z,zs5 (zd1 l size l.length).1) (filF l) y) (zcg l size).length (fun k=>(z,zjp ((zcg l size).take k),(k:Int))) (fun k=>60000<(zjp ((zcg l size).take (k+1))).length) (rb:=([],⟨9,0⟩)) (r:=(zjp (zcg l size),⟨0,0⟩))
  (fun k hk hnb=>by
   have:=hstep k hk
   rw [xab hnb] at this; exact this)
  (fun k hk hbad=>by
   have:=hstep k hk
   rw [xac hbad] at this; exact this)
  (by
   show ziw _ _ _ (z,zjp ((zcg l size).take (zcg l size).length),((zcg l size).length:Int))=_
   unfold ziw
   dsimp only [lt]
   rw [hL,ifF ..,xbg]; rfl)
 rcases key with ⟨⟨j,hj,hbad⟩,e⟩ | ⟨hall,e⟩
 ·have:=encF_take_mono (zcg l size) (j+1)
  rw [xac (by omega)]; exact e
 ·have h9:=hall ((zcg l size).length - 1) (by omega)
  have e9:(zcg l size).length - 1+1=(zcg l size).length:=by omega
  rw [e9,xbg] at h9
  rw [xab h9]; exact e
end
theorem make_eq (l:Cs)(size:Int):zo6 l size=some (makeS l size):=by
 unfold zo6 makeS zl3
 rw [check_eq,zac]
 by_cases c:(zk1 l).Code=0
 ·have hg:=zl9 c
  have hc:=hg.code
  have hl:=hg.len
  rw [xab (n_f c),xab (xat c)]
  by_cases c2:500<l.length
  ·rw [ifT ..,xac c2]; rfl
  ·rw [ifF ..,xab c2]
   by_cases c3:size<50\/4000<size
   ·rw [xac (or_t c3),xac c3]; rfl
   ·rw [xab (or_f c3),xab c3,blocks_eq hc hl size,zac]
    have:zpy l ((zd1 l size l.length).1.map zft,zn0 (zd1 l size l.length)) ((⟨0,0⟩:Fault),([]:B8),0)=some (if 60000<(ze2 l size).length then ([],⟨9,0⟩) else (ze2 l size,⟨0,0⟩)):=by
     obtain ⟨h1,h2,h3,h4,h5,h6,h7⟩:=blk_bd hc hl size l.length (xae _)
     have hre:=rows_end size (l:=l)
     have hml:=make_L1 hc hl size ⟨0,0⟩
     rw [hre] at hml h3 ⊢
     unfold zpy
     generalize hgs:(zd1 l size l.length).1=gs at *
     have hbd:∀ k,(zs5 (gs.take k)).length<=(zs5 gs).length:=fun k=>by
      have e:zs5 gs=zs5 (gs.take k)++zs5 (gs.drop k):=by unfold zs5; rw [<- xex,xa1]
      rw [e,xaa]; omega
     refine zjf (step:=fun y=>zi7 l (gs.map zft,gs.map hdR) y) gs.length (fun k=>(⟨0,0⟩,zs5 (gs.take k),(k:Int))) (fun k hk=>?_) ?_
     ·have hw:w64 ((k:Int)+1)=((k+1:Nat):Int):=by rw [zai ..]; omega
      have m1:zad (gs.map hdR) (k:Int)=hdR (zad gs (k:Int)):=by rw [zbi _ k (by simpa using hk),zbi _ k hk]; simp
      have m2:zad (gs.map zft) (k:Int)=zft (zad gs (k:Int)):=by rw [zbi _ k (by simpa using hk),zbi _ k hk]; simp
      have hgm:=zcb gs (k:Int) (by omega)
      have hhd:(hdR (zad gs (k:Int))).length<=40:=by
       obtain ⟨hne,hcs⟩:=h6 _ hgm
       have:zad (zad gs (k:Int)) 0∈zad gs (k:Int):=zcb _ 0 (by have:=xaq.2 hne; omega)
       exact (zil (hcs _ this)).1
      have hel:(zft (zad gs (k:Int))).length<=400000:=parts_bd hc hl size _ (by unfold zcg; rw [hgs]; exact xer _ (xb8.2 ⟨_,hgm,rfl⟩))
      have hbk:=hbd k
      have q1:=zno (hdR (zad gs (k:Int))) (by omega)
      have q2:=zie (n:=(zft (zad gs (k:Int))).length) (by omega)
      show zi7 l (gs.map zft,gs.map hdR) (⟨0,0⟩,zs5 (gs.take k),(k:Int))=_
      unfold zi7
      dsimp only
      rw [xao,xao,ifT ..,zaa ..,zaa ..,zaa ..,zaa ..,m1,m2,addText_eq _ _ (by omega) (by omega),zac,addNum_eq _ _ (by rw [xaa]; omega),zac,hw,zdq gs k hk,idxL_snoc,xaf]
     ·show zi7 l (gs.map zft,gs.map hdR) (⟨0,0⟩,zs5 (gs.take gs.length),(gs.length:Int))=_
      have hN:=zqm l
      unfold zi7
      dsimp only
      rw [xao,ifF ..,xbg]
      have hJ:znd l (gs.map zft,gs.map hdR) (⟨0,0⟩,zs5 gs)=some (if 60000<(ze2 l size).length then ([],⟨9,0⟩) else (ze2 l size,⟨0,0⟩)):=by
       unfold znd
       rw [filter_eq l (by omega) (fun c hcm=>by have:=(zil (hc c hcm)).1; omega),zac,zaa (by simp; omega)]
       exact hml
      rw [hJ]; rfl
    rw [this]
    by_cases c4:60000<(ze2 l size).length
    ·rw [xac c4,xac c4]; rfl
    ·rw [xab c4,xab c4]; rfl
 ·rw [xac (n_t c),xac c,xab c]
theorem ck_zero:∀ (l:Cs) (p:Option Cell) (i:Int),(∀ c∈l,za1 c=0)->l.Pairwise ah->(∀ q,p=some q->∀ c∈l,ah q c)->ck p l i=⟨0,0⟩
 | [],p,i,_,_,_=>by rw [ck]
 | c::l,p,i,hc,hs,hp=>by
  have hok:okp p c=true:=by
   cases p with
   | none=>rfl
   | some q=>exact (za0 q c).2 (hp q rfl c (by simp))
  rw [xbh] at hs
  rw [ck,xab (xat (hc c (by simp))),xac hok]
  exact ck_zero l (some c) (i+1) (fun x hx=>hc x (by simp [hx])) hs.2 (fun q hq x hx=>by cases hq; exact hs.1 x hx)
theorem good_of {l:Cs}(hl:l.length<=1000)(hc:∀ c∈l,za1 c=0)(hs:l.Pairwise ah):Good l:=by
 have e:zk1 l=⟨0,0⟩:=by
  unfold zk1
  rw [xab (by omega),ck_zero l none 0 hc hs (fun q h=>by cases h)]
 exact zl9 (by rw [e])
theorem readS_good {l:Cs}(hg:Good l)(hl:(zft l).length<=60000):zjt (zft l)=(l,⟨0,0⟩):=by
 have:=rdAll_wrAll (f:=rdC) (w:=wrC) (fun x=>za1 x=0) (fun x r h=>rdC_wrC h r) (fun x h=>(zsh h).2) l (zft l).length [] hg.code (xae _)
 have e:zqn rdC (zft l).length (zft l) [] = .inl l:=by simpa [zft] using this
 unfold zjt
 rw [xab (by omega),e]
 unfold rcS
 dsimp only
 rw [hg.f]
 rfl
theorem opn_all:∀ (L:B9) (k:Nat) (acc:B9) (g:Nat),(∀ s∈L,s.length<=65535)->(zjp L).length<=k->opn k (zjp L) acc g=(acc++L,g+(zjp L).length)
 | [],k,acc,g,_,_=>by
  have:rdF (zjp [])=none:=by simp [zjp,zi5,rdF]
  rw [zka this]; simp [zjp,zi5]
 | x::L,k,acc,g,hs,hk=>by
  have hx:=hs x (by simp)
  have hfl:=zcs x
  rw [zgj,xaa,hfl] at hk
  match k,hk with
  | 0,hk=>omega
  | k+1,hk=>
   rw [zgj,zr3 (rdF_frame hx _),opn_all L k _ _ (fun s h=>hs s (by simp [h])) (by omega),xaa,hfl]
   simp; omega
section
variable {l:Cs}(hG:Good l)(size:Int)(hB:(ze2 l size).length<=60000)
include hG hB
theorem parts_small:∀ s∈zcg l size,s.length<=60000:=by
 intro s hs
 have:∀ L:B9,s∈L->s.length<=(zjp L).length:=by
  intro L
  induction L with
  | nil=>intro h; cases h
  | cons x L ih=>
   intro h
   rw [zgj,xaa,zcs]
   rcases xap.1 h with e | e
   ·subst e; omega
   ·have:=ih e; omega
 have:=this _ hs
 unfold ze2 at hB
 omega
theorem open_eq:zpb (ze2 l size)=some (true,⟨(zd1 l size l.length).1.map zft,(zd1 l size l.length).1.map hdR,filF l⟩,⟨0,0⟩):=by
 have hc:=hG.code
 have hl:=hG.len
 have hps:=parts_small hG size hB
 obtain ⟨h1,h2,h3,h4,h5,h6,h7⟩:=blk_bd hc hl size l.length (xae _)
 have hN:=zqm l
 have hop:=opn_all (zcg l size) (ze2 l size).length [] 0 (fun s h=>by have:=hps s h; omega) (by unfold ze2; omega)
 have hpl:=partsL_len size (l:=l)
 have hop2:opn (ze2 l size).length (ze2 l size) [] 0=(zcg l size,(ze2 l size).length):=by
  have:opn (ze2 l size).length (zjp (zcg l size)) [] 0=_:=hop
  unfold ze2 at this ⊢
  rw [this]; simp
 unfold zpb
 rw [ifF ..,opened_eq _ (by omega),zac,hop2]
 dsimp only
 have hw1:w64 (((zcg l size).length:Int) - 2)=((zd1 l size l.length).1.length:Int):=by rw [hpl,zai ..]; omega
 have hw2:w64 (((zd1 l size l.length).1.length:Int)+1)=(((zd1 l size l.length).1.length+1:Nat):Int):=by rw [zai ..]; omega
 have g1:zad (zcg l size) (((zd1 l size l.length).1.length+1:Nat):Int)=filF l:=by
  unfold zcg
  rw [zre _ _ _ (by rw [xao]; omega),xao]
  have:(((zd1 l size l.length).1.length+1:Nat):Int) - ((zd1 l size l.length).1.length:Int)=1:=by omega
  rw [this]; rfl
 have g0:zad (zcg l size) ((zd1 l size l.length).1.length:Int)=zs5 (zd1 l size l.length).1:=by
  unfold zcg
  rw [zre _ _ _ (by rw [xao]; omega),xao,Int.sub_self]; rfl
 have hfl:(filF l).length=filN l:=by unfold filF; rw [zei]
 have hcond:(((!decide (((ze2 l size).length:Int)=((ze2 l size).length:Int)))||(decide (((zd1 l size l.length).1.length:Int)<0)))||(decide (((filF l).length:Int)=0)))=false:=by
  simp only [decide_true,xez,xd1,xb4,xbi]
  omega
 rw [hw1,hw2,g1,hcond,zaa (fun _=>by omega),xab (by decide),zaa ..,zaa ..,zaa ..,g0]
 dsimp only [lt,znf]
 unfold zni
 have htk:zd8 (zcg l size) ((zd1 l size l.length).1.length:Int)=(zd1 l size l.length).1.map zft:=by
  rw [zde]; unfold zcg; rw [List.take_left' (by rw [xao])]
 have hgk:∀ k:Nat,k<(zd1 l size l.length).1.length->zad (zcg l size) (k:Int)=zft (zad (zd1 l size l.length).1 (k:Int)):=fun k hk=>by
  unfold zcg
  rw [lget_app_l _ _ _ (by rw [xao]; omega),zbi _ k (by simpa using hk),zbi _ k hk]; simp
 have hidx:(zs5 (zd1 l size l.length).1).length<=60000:=hps _ (by unfold zcg; simp)
 have hend:zks (zcg l size,((ze2 l size).length:Int)) ((zd1 l size l.length).1.map hdR,⟨[],false⟩)=some (true,⟨(zd1 l size l.length).1.map zft,(zd1 l size l.length).1.map hdR,filF l⟩,⟨0,0⟩):=by
  unfold zks zgu
  dsimp only [lt]
  rw [hw1,hw2,g1,htk,xab (by simp)]
 generalize hgs:(zd1 l size l.length).1=gs at *
 refine zjf (step:=fun y=>zcu (zcg l size,((ze2 l size).length:Int)) y) gs.length (fun k=>((gs.take k).map hdR,⟨zs5 (gs.drop k),false⟩,(k:Int))) (fun k hk=>?_) ?_
 ·have hw:w64 ((k:Int)+1)=((k+1:Nat):Int):=by rw [zai ..]; omega
  have hgm:=zcb gs (k:Int) (by omega)
  have hhd:(hdR (zad gs (k:Int))).length<=40:=by
   obtain ⟨hne,hcs⟩:=h6 _ hgm
   have:zad (zad gs (k:Int)) 0∈zad gs (k:Int):=zcb _ 0 (by have:=xaq.2 hne; omega)
   exact (zil (hcs _ this)).1
  have hel:(zft (zad gs (k:Int))).length<=60000:=by
   have:=hps (zad (zcg l size) (k:Int)) (zcb _ _ (by omega))
   rwa [hgk k hk] at this
  have hdr:gs.drop k=zad gs (k:Int)::gs.drop (k+1):=by rw [zbi _ k hk]; exact xb1 hk
  have hid:zs5 (gs.drop k)=wrT (hdR (zad gs (k:Int)))++(num (zft (zad gs (k:Int))).length++zs5 (gs.drop (k+1))):=by rw [hdr]; simp [zs5]
  have hbd:(zs5 (gs.drop k)).length<=60000:=by
   have e:zs5 gs=zs5 (gs.take k)++zs5 (gs.drop k):=by unfold zs5; rw [<- xex,xa1]
   rw [e,xaa] at hidx; omega
  have ht:=text_some (b:=zs5 (gs.drop k)) (by omega) (by rw [hid]; exact rdT_wrT (by omega) _)
  have hn:=num_some (b:=num (zft (zad gs (k:Int))).length++zs5 (gs.drop (k+1))) ht.2 (rdN_num (by omega) _)
  show zcu (zcg l size,((ze2 l size).length:Int)) ((gs.take k).map hdR,⟨zs5 (gs.drop k),false⟩,(k:Int))=_
  unfold zcu
  dsimp only
  rw [hw1,ifT ..,ht.1,zac]
  dsimp only
  rw [zaa (by rw [xaa,xao,xal,xan]; omega),hn.1,zac]
  dsimp only
  rw [zaa ..,hgk k hk,xab (by simp),hw,zdq gs k hk,xcx]
  rfl
 ·show zcu (zcg l size,((ze2 l size).length:Int)) ((gs.take gs.length).map hdR,⟨zs5 (gs.drop gs.length),false⟩,(gs.length:Int))=_
  have e0:zs5 (gs.drop gs.length)=[]:=by rw [xbw]; rfl
  rw [e0,xbg]
  unfold zcu
  dsimp only
  rw [hw1,ifF ..,hend]; rfl
theorem cells_eq (o2:B8):zfq ((zd1 l size l.length).1.map zft) ((zd1 l size l.length).1.map hdR) o2 0 (((zd1 l size l.length).1.map zft).length:Int)=some (l,true):=by
 have hc:=hG.code
 have hl:=hG.len
 have hps:=parts_small hG size hB
 obtain ⟨h1,h2,h3,h4,h5,h6,h7⟩:=blk_bd hc hl size l.length (xae _)
 rw [blk_end size,xa4,xbg] at h7
 have hgp:∀ g∈(zd1 l size l.length).1,(zft g).length<=60000:=fun g hg=>hps _ (by unfold zcg; exact xer _ (xb8.2 ⟨g,hg,rfl⟩))
 generalize hgs:(zd1 l size l.length).1=gs at *
 have hfl:∀ k,(gs.take k).flatten.length<=l.length:=fun k=>by
  have e:gs.flatten=(gs.take k).flatten++(gs.drop k).flatten:=by rw [<- xcj,xa1]
  rw [<- h7,e,xaa]; omega
 have hgood:∀ k:Nat,k<gs.length->Good (zad gs (k:Int)):=fun k hk=>by
  have hgm:=zcb gs (k:Int) (by omega)
  have hsub:(zad gs (k:Int)).Sublist l:=by
   have hdr:gs.drop k=zad gs (k:Int)::gs.drop (k+1):=by rw [zbi _ k hk]; exact xb1 hk
   have e2:gs.flatten=(gs.take k).flatten++(gs.drop k).flatten:=by rw [<- xcj,xa1]
   rw [<- h7,e2,hdr,xcg]
   exact (List.sublist_append_left _ _).trans (List.sublist_append_right _ _)
  exact good_of (by have:=hsub.length_le; omega) (h6 _ hgm).2 (hG.srt.sublist hsub)
 unfold zfq zgy
 rw [xao]
 refine zjf (step:=fun y=>zb6 (gs.length:Int) y) gs.length (fun k=>(⟨gs.map zft,gs.map hdR,o2⟩,(gs.take k).flatten,(k:Int))) (fun k hk=>?_) ?_
 ·have hw:w64 ((k:Int)+1)=((k+1:Nat):Int):=by rw [zai ..]; omega
  have hgm:=zcb gs (k:Int) (by omega)
  have m1:zad (gs.map hdR) (k:Int)=hdR (zad gs (k:Int)):=by rw [zbi _ k (by simpa using hk),zbi _ k hk]; simp
  have m2:zad (gs.map zft) (k:Int)=zft (zad gs (k:Int)):=by rw [zbi _ k (by simpa using hk),zbi _ k hk]; simp
  have hne:=xaq.2 (h6 _ hgm).1
  have hfk:=hfl (k+1)
  have htk:(gs.take (k+1)).flatten=(gs.take k).flatten++zad gs (k:Int):=by rw [zdq gs k hk,xcj]; simp
  show zb6 (gs.length:Int) (⟨gs.map zft,gs.map hdR,o2⟩,(gs.take k).flatten,(k:Int))=_
  unfold zb6
  dsimp only
  rw [xao,xao,ifT ..,zaa ..,m1,m2,read_eq,readS_good (hgood k hk) (hgp _ hgm),zac]
  dsimp only
  have hcond:(((!decide ((0:Int)=0))||(decide (((zad gs (k:Int)).length:Int)=0)))||(!decide ((zad (zad gs (k:Int)) 0).Row=hdR (zad gs (k:Int)))))=false:=by
   have e1:decide (((zad gs (k:Int)).length:Int)=0)=false:=xa0 (by omega)
   have e2:decide ((zad (zad gs (k:Int)) 0).Row=hdR (zad gs (k:Int)))=true:=xbm rfl
   rw [e1,e2]; rfl
  rw [hcond,zaa (fun _=>by omega),zaa (fun _=>by omega),zaa (fun _=>by omega),xab (by decide),<- htk,zaa ..,hw]
 ·show zb6 (gs.length:Int) (_,(gs.take gs.length).flatten,(gs.length:Int))=_
  rw [xbg,h7]
  unfold zb6
  dsimp only
  rw [ifF ..]
  unfold zff
  rw [check_eq,hG.f,zac]; rfl
theorem open_made (hl5:l.length<=500):zpp (ze2 l size)=some (l,⟨0,0⟩):=by
 have hN:=zqm l
 unfold zpp
 rw [open_eq hG size hB,zac]
 dsimp only
 rw [xab (by simp),zaa rfl,cells_eq hG size hB,zac]
 dsimp only
 have e5:decide (500<(l.length:Int))=false:=xa0 (by omega)
 have hcond:((!true)||(decide (500<(l.length:Int))))=false:=by rw [e5]; rfl
 rw [hcond,xab (by decide),filter_eq l (by omega) (fun c hc=>by have:=(zil (hG.code c hc)).1; omega),zac,equal_eq _ _ (by unfold filF; rw [zei]; omega),zac,xab (by simp)]
end
theorem opn_len:∀ (k:Nat) (b:B8) (acc:B9) (g:Nat),(opn k b acc g).1.length<=acc.length+k/\(opn k b acc g).2<=g+b.length
 | 0,b,acc,g=>by simp [opn]
 | k+1,b,acc,g=>by
  cases h:rdF b with
  | none=>rw [zka h]; simp
  | some q=>
   obtain ⟨x,r⟩:=q
   obtain ⟨e,_⟩:=rdF_some h
   have:=opn_len k r (acc++[x]) (g+(x.length+6))
   rw [zr3 h]
   rw [xaa,xan] at this
   have hl:b.length=x.length+6+r.length:=by rw [e,xaa,zcs]
   omega
theorem opn_mem:∀ (k:Nat) (b:B8) (acc:B9) (g:Nat) (s:B8),s∈(opn k b acc g).1->s∈acc\/s.length<=b.length
 | 0,b,acc,g,s,h=>by simp [opn] at h; exact .inl h
 | k+1,b,acc,g,s,h=>by
  cases hr:rdF b with
  | none=>rw [zka hr] at h; exact .inl h
  | some q=>
   obtain ⟨x,r⟩:=q
   obtain ⟨e,_⟩:=rdF_some hr
   have hl:b.length=x.length+6+r.length:=by rw [e,xaa,zcs]
   rw [zr3 hr] at h
   rcases opn_mem k r _ _ s h with q | q
   ·rcases xar.1 q with q | q
    ·exact .inl q
    ·rw [xau] at q; rw [q]; right; omega
   ·right; omega
def idxP (L:B9):Nat->Nat->B8->B9->Option B9
 | 0,_,x,rows=>if x=[] then some rows else none
 | m+1,k,x,rows=>match rdT x with
  | none=>none
  | some (s,r)=>match rdN r with
   | none=>none
   | some (v,r')=>if v=(zad L (k:Int)).length then idxP L m (k+1) r' (rows++[s]) else none
def opI (L:B9):Option B9->Bool×opened×Fault
 | some rows=>(true,⟨L.take (L.length - 2),rows,zad L ((L.length:Int) - 1)⟩,⟨0,0⟩)
 | none=>(false,default,⟨5,1⟩)
section
variable {L:B9}(h2:2<=L.length)(hL:L.length<=100000)(hs:∀ s∈L,s.length<=100000)(z:Int)
include h2 hL hs
theorem open_bad:∀ (m k:Nat) (rows:B9),L.length - 2 - k=m->k<=L.length - 2->rows.length<=k->zni (L,z) (rows,⟨[],true⟩,(k:Int))=some (false,default,⟨5,1⟩)
 | 0,k,rows,e,hk,hr=>by
  have hw1:w64 ((L.length:Int) - 2)=(L.length:Int) - 2:=zai ..
  refine zah ?_
  unfold zcu
  dsimp only
  rw [hw1,ifF ..]
  rfl
 | m+1,k,rows,e,hk,hr=>by
  have hw1:w64 ((L.length:Int) - 2)=(L.length:Int) - 2:=zai ..
  have hw:w64 ((k:Int)+1)=((k+1:Nat):Int):=by rw [zai ..]; omega
  by_cases c:(0:Int)=((zad L (k:Int)).length:Int)
  ·refine (zak ?_).trans (open_bad m (k+1) (rows++[[]]) (by omega) (by omega) (by rw [xaa,xan]; omega))
   unfold zcu
   dsimp only
   rw [hw1,ifT ..,text_bad,zac]
   dsimp only
   rw [zaa (by rw [xaa,xan]; omega),num_bad,zac]
   dsimp only
   rw [zaa ..,xab (n_f c),hw]
  ·refine zah ?_
   unfold zcu
   dsimp only
   rw [hw1,ifT ..,text_bad,zac]
   dsimp only
   rw [zaa (by rw [xaa,xan]; omega),num_bad,zac]
   dsimp only
   rw [zaa ..,xac (n_t c)]
   rfl
theorem open_idx:∀ (m k:Nat) (x:B8) (rows:B9),L.length - 2 - k=m->k<=L.length - 2->rows.length<=k->x.length<=100000->zni (L,z) (rows,⟨x,false⟩,(k:Int))=some (opI L (idxP L m k x rows))
 | 0,k,x,rows,e,hk,hr,hx=>by
  have hw1:w64 ((L.length:Int) - 2)=(L.length:Int) - 2:=zai ..
  have hw2:w64 ((L.length:Int) - 2+1)=(L.length:Int) - 1:=by rw [zai ..]; omega
  have ht:zd8 L ((L.length:Int) - 2)=L.take (L.length - 2):=by
   have:(L.length:Int) - 2=((L.length - 2:Nat):Int):=by omega
   rw [this,zde]
  refine zah ?_
  unfold zcu
  dsimp only
  rw [hw1,ifF ..]
  unfold zks zgu
  dsimp only [lt]
  rw [hw1,hw2,ht,idxP]
  by_cases c:x=[]
  ·subst c
   rw [xac rfl,xab (by simp)]; rfl
  ·have:¬ ((x.length:Int)=0):=fun q=>c (xag (by omega))
   rw [xab c,xac (by simp; exact c)]; rfl
 | m+1,k,x,rows,e,hk,hr,hx=>by
  have hw1:w64 ((L.length:Int) - 2)=(L.length:Int) - 2:=zai ..
  have hw:w64 ((k:Int)+1)=((k+1:Nat):Int):=by rw [zai ..]; omega
  have hrl:∀ s:B8,(rows++[s]).length<=k+1:=fun s=>by rw [xaa,xan]; omega
  rw [idxP]
  cases ht:rdT x with
  | none=>
   have h1:=text_none (by omega) ht
   by_cases c:(0:Int)=((zad L (k:Int)).length:Int)
   ·refine (zak ?_).trans (open_bad h2 hL hs z m (k+1) (rows++[[]]) (by omega) (by omega) (hrl _))
    unfold zcu
    dsimp only
    rw [hw1,ifT ..,h1,zac]
    dsimp only
    rw [zaa (by have:=hrl []; omega),num_bad,zac]
    dsimp only
    rw [zaa ..,xab (n_f c),hw]
   ·refine zah ?_
    unfold zcu
    dsimp only
    rw [hw1,ifT ..,h1,zac]
    dsimp only
    rw [zaa (by have:=hrl []; omega),num_bad,zac]
    dsimp only
    rw [zaa ..,xac (n_t c)]
    rfl
  | some q=>
   obtain ⟨s,r⟩:=q
   have h1:=text_some (by omega) ht
   have hrx:=rdT_len ht
   dsimp only
   cases hn:rdN r with
   | none=>
    have h3:=num_none (by omega) hn
    by_cases c:(0:Int)=((zad L (k:Int)).length:Int)
    ·refine (zak ?_).trans (open_bad h2 hL hs z m (k+1) (rows++[s]) (by omega) (by omega) (hrl _))
     unfold zcu
     dsimp only
     rw [hw1,ifT ..,h1.1,zac]
     dsimp only
     rw [zaa (by have:=hrl s; omega),h3,zac]
     dsimp only
     rw [zaa ..,xab (n_f c),hw]
    ·refine zah ?_
     unfold zcu
     dsimp only
     rw [hw1,ifT ..,h1.1,zac]
     dsimp only
     rw [zaa (by have:=hrl s; omega),h3,zac]
     dsimp only
     rw [zaa ..,xac (n_t c)]
     rfl
   | some q=>
    obtain ⟨v,r'⟩:=q
    have h3:=num_some (by omega) hn
    have hrr:r'.length<=r.length:=by
     obtain ⟨e',_⟩:=zf6 hn
     rw [e',xaa]; omega
    dsimp only
    by_cases c:v=(zad L (k:Int)).length
    ·rw [xac c]
     refine (zak ?_).trans (open_idx m (k+1) r' (rows++[s]) (by omega) (by omega) (hrl _) (by omega))
     unfold zcu
     dsimp only
     rw [hw1,ifT ..,h1.1,zac]
     dsimp only
     rw [zaa (by have:=hrl s; omega),h3.1,zac]
     dsimp only
     rw [zaa ..,xab (n_f (by omega)),hw]
    ·rw [xab c]
     refine zah ?_
     unfold zcu
     dsimp only
     rw [hw1,ifT ..,h1.1,zac]
     dsimp only
     rw [zaa (by have:=hrl s; omega),h3.1,zac]
     dsimp only
     rw [zaa ..,xac (n_t (by omega))]
     rfl
end
def badO (b:B8):Prop:=(opn b.length b [] 0).2≠b.length\/(opn b.length b [] 0).1.length<2\/(zad (opn b.length b [] 0).1 (((opn b.length b [] 0).1.length:Int) - 1)).length=0
instance (b:B8):Decidable (badO b):=inferInstanceAs (Decidable (_\/_))
def idxO (L:B9):Option B9:=idxP L (L.length - 2) 0 (zad L ((L.length:Int) - 2)) []
def openS (b:B8):Bool×opened×Fault:=
 if 60000<b.length then (false,default,⟨8,0⟩)
 else if badO b then (false,default,⟨5,0⟩)
 else opI (opn b.length b [] 0).1 (idxO (opn b.length b [] 0).1)
theorem open_all (b:B8):zpb b=some (openS b):=by
 unfold zpb openS
 by_cases c:60000<b.length
 ·rw [ifT ..,xac c]; rfl
 ·have hlen:=opn_len b.length b [] 0
  have hmem:=fun s h=>opn_mem b.length b [] 0 s h
  obtain ⟨L,n,hop⟩:∃ L n,opn b.length b [] 0=(L,n):=⟨_,_,rfl⟩
  have hb:badO b↔(n≠b.length\/L.length<2\/(zad L ((L.length:Int) - 1)).length=0):=by unfold badO; rw [hop]
  rw [ifF ..,xab c,opened_eq _ (by omega),zac,hop]
  rw [hop] at hlen hmem
  dsimp only at hlen hmem ⊢
  unfold idxO
  have hL:L.length<=60000:=by have:=hlen.1; simp at this; omega
  have hw1:w64 ((L.length:Int) - 2)=(L.length:Int) - 2:=zai ..
  have hw2:w64 ((L.length:Int) - 2+1)=(L.length:Int) - 1:=by rw [zai ..]; omega
  rw [hw1,hw2]
  have hcond:(((!decide ((n:Int)=(b.length:Int)))||(decide ((L.length:Int) - 2<0)))||(decide (((zad L ((L.length:Int) - 1)).length:Int)=0)))=decide (n≠b.length\/L.length<2\/(zad L ((L.length:Int) - 1)).length=0):=by
   rw [xbu]
   simp only [xbb,xaz,xbs,xbi]
   omega
  rw [hcond,zaa (fun q=>by
   simp only [xbs,xb4,xbi,xe3] at q
   omega)]
  by_cases cb:n≠b.length\/L.length<2\/(zad L ((L.length:Int) - 1)).length=0
  ·rw [xac (d_t cb),xac (hb.2 cb)]; rfl
  ·rw [xab (d_f cb),xab (fun q=>cb (hb.1 q)),zaa ..,zaa ..,zaa ..]
   dsimp only [lt,znf]
   have hs:∀ s∈L,s.length<=100000:=fun s h=>by
    rcases hmem s h with q | q
    ·cases q
    ·omega
   exact open_idx (by omega) (by omega) hs (n:Int) (L.length - 2) 0 _ [] (by omega) (by omega) (by simp) (hs _ (zcb L _ (by omega)))
section
variable {L:B9}(h2:2<=L.length)(hL:L.length<=100000)(hs:∀ s∈L,s.length<=100000)(z:Int)(f:Fault)
include h2 hL hs
theorem ridx:∀ (m k:Nat) (x:B8) (rows:B9),L.length - 2 - k=m->k<=L.length - 2->rows.length<=k->x.length<=100000->zk4 (L,z) (f,x,rows,(k:Int))=match idxP L m k x rows with
  | some rs=>zhg (L,z) (f,[],rs) (f,[],[],0)
  | none=>some ([],[],⟨5,1⟩)
 | 0,k,x,rows,e,hk,hr,hx=>by
  have hw1:w64 ((L.length:Int) - 2)=(L.length:Int) - 2:=zai ..
  have hB:ze7 (L,z) (f,x,rows,(k:Int))=zev (zir (L,z) (f,x,rows)):=by
   unfold ze7
   dsimp only
   rw [hw1,ifF ..]
  unfold zk4
  rw [znx,hB,idxP]
  unfold zir
  dsimp only
  by_cases c:x=[]
  ·subst c
   rw [xac rfl,xab (by simp)]
   dsimp only
   cases zhg (L,z) (f,[],rows) (f,[],[],0) <;> rfl
  ·have:0<(x.length:Int):=by have:=xaq.2 c; omega
   rw [xab c,xac (d_t this)]; rfl
 | m+1,k,x,rows,e,hk,hr,hx=>by
  have hw1:w64 ((L.length:Int) - 2)=(L.length:Int) - 2:=zai ..
  have hw:w64 ((k:Int)+1)=((k+1:Nat):Int):=by rw [zai ..]; omega
  rw [idxP]
  cases hn:rdN x with
  | none=>
   have ht:rdT x=none:=by unfold rdT; rw [hn]
   have ha:rnat x=(0,0):=by unfold rnat; rw [hn]
   rw [ht]
   refine zah ?_
   unfold ze7
   dsimp only
   rw [hw1,ifT ..,zny x (by omega),zac,ha,xac (by simp)]; rfl
  | some q=>
   obtain ⟨n,r⟩:=q
   obtain ⟨ex,hn9⟩:=zf6 hn
   have hlx:x.length=(num n).length+r.length:=by rw [ex,xaa]
   have hnp:0<(num n).length:=num_pos n
   have ha:rnat x=((n:Int),((num n).length:Int)):=by unfold rnat; rw [hn]
   have hwr:w64 ((x.length:Int) - ((num n).length:Int))=(r.length:Int):=by rw [zai ..]; omega
   by_cases cn:n<=r.length
   ·have ht:rdT x=some (r.take n,r.drop n):=by unfold rdT; rw [hn]; dsimp only; rw [xac cn]
    have hwc:w64 (((num n).length:Int)+(n:Int))=(((num n).length+n:Nat):Int):=by rw [zai ..]; omega
    have hd1:zc1 (zd8 x (((num n).length+n:Nat):Int)) ((num n).length:Int)=r.take n:=by
     rw [zde,zb8,ex,List.take_append,List.drop_append]
     simp
    have hd2:zc1 x (((num n).length+n:Nat):Int)=r.drop n:=by rw [zb8,ex,List.drop_append]; simp
    rw [ht]
    dsimp only
    have hrd:(r.drop n).length<=100000:=by rw [xa7]; omega
    have hrl:(rows++[r.take n]).length<=k+1:=by rw [xaa,xan]; omega
    have pre:∀ y,(ob (zkq (r.drop n)) fun x13=>
       zao ((!(decide (x13.2=0)))=true->0<=(k:Int)/\(k:Int)<(L.length:Int)) <|
       zao ((!(decide (x13.2=0)))=true->0<=(k:Int)/\(k:Int)<(L.length:Int)) <|
       if ((decide (x13.2=0))||(!decide (x13.1=((zad L (k:Int)).length:Int))))=true then
        lt (R_F 5 1) fun x14=>
        some (Sum.inr (([]:Cs),([]:List Int),x14))
       else
        zao (0<=x13.2/\x13.2<=((r.drop n).length:Int)) <|
        some (Sum.inl (f,(zc1 (r.drop n) x13.2),rows++[r.take n],w64 ((k:Int)+1))))=y->ze7 (L,z) (f,x,rows,(k:Int))=y:=by
     intro y hy
     unfold ze7
     dsimp only
     have hcond:((decide (((num n).length:Int)=0))||(decide ((r.length:Int)<(n:Int))))=false:=by
      rw [xb4]; exact ⟨xa0 (by omega),xa0 (by omega)⟩
     rw [hw1,ifT ..,zny x (by omega),zac,ha]
     dsimp only
     rw [hwr,hcond,xab (by decide),hwc,zaa ..,hd1,zaa ..]
     dsimp only [lt]
     rw [zaa ..,hd2]
     exact hy
    cases hm:rdN (r.drop n) with
    | none=>
     have ha2:rnat (r.drop n)=(0,0):=by unfold rnat; rw [hm]
     refine zah (pre _ ?_)
     rw [zny _ (by omega),zac,ha2,zaa (fun q=>by simp at q),zaa (fun q=>by simp at q),xac (by simp)]; rfl
    | some q=>
     obtain ⟨v,r'⟩:=q
     obtain ⟨er,_⟩:=zf6 hm
     have hlr:(r.drop n).length=(num v).length+r'.length:=by rw [er,xaa]
     have hvp:0<(num v).length:=num_pos v
     have ha2:rnat (r.drop n)=((v:Int),((num v).length:Int)):=by unfold rnat; rw [hm]
     have hd3:zc1 (r.drop n) ((num v).length:Int)=r':=by rw [zb8,er,xd9]
     dsimp only
     by_cases c:v=(zad L (k:Int)).length
     ·rw [xac c]
      refine (zak (pre _ ?_)).trans (ridx m (k+1) r' (rows++[r.take n]) (by omega) (by omega) hrl (by omega))
      have hc2:((decide (((num v).length:Int)=0))||(!decide ((v:Int)=((zad L (k:Int)).length:Int))))=false:=by
       rw [xb4]; exact ⟨xa0 (by omega),by rw [d_t ..]; rfl⟩
      rw [zny _ (by omega),zac,ha2,zaa (fun _=>by omega),zaa (fun _=>by omega)]
      dsimp only
      rw [hc2,xab (by decide),zaa ..,hd3,hw]
     ·rw [xab c]
      refine zah (pre _ ?_)
      have hc2:((decide (((num v).length:Int)=0))||(!decide ((v:Int)=((zad L (k:Int)).length:Int))))=true:=by
       have:decide ((v:Int)=((zad L (k:Int)).length:Int))=false:=xa0 (by omega)
       rw [this]; simp
      rw [zny _ (by omega),zac,ha2,zaa (fun _=>by omega),zaa (fun _=>by omega)]
      dsimp only
      rw [hc2,xac rfl]; rfl
   ·have ht:rdT x=none:=by unfold rdT; rw [hn]; dsimp only; rw [xab cn]
    rw [ht]
    refine zah ?_
    unfold ze7
    dsimp only
    rw [hw1,ifT ..,zny x (by omega),zac,ha]
    dsimp only
    rw [hwr,xac (by simp only [xbb,xaz]; right; omega)]; rfl
end
def badC (x:Cs×Fault)(row:B8):Prop:=¬ x.2.Code=0\/x.1.length=0\/¬ (zad x.1 0).Row=row
instance (x:Cs×Fault)(row:B8):Decidable (badC x row):=inferInstanceAs (Decidable (_\/_))
noncomputable def celP (L rows:B9):Nat->Nat->Cs->List Int->Option (Cs×List Int)
 | 0,_,acc,es=>some (acc,es)
 | m+1,k,acc,es=>if badC (zjt (zad L (k:Int))) (zad rows (k:Int)) then none else celP L rows m (k+1) (acc++(zjt (zad L (k:Int))).1) (es++[((zjt (zad L (k:Int))).1.length:Int)])
theorem badC_iff (x:Cs×Fault)(row:B8):(((!decide (x.2.Code=0))||(decide ((x.1.length:Int)=0)))||(!decide (((zad x.1 0).Row)=row)))=decide (badC x row):=by
 rw [xbu,xd8]
 unfold badC
 simp only [xbb,xaz,xbs,xbi]
 constructor
 ·rintro ((q | q) | q)
  ·exact .inl q
  ·exact .inr (.inl (by omega))
  ·exact .inr (.inr q)
 ·rintro (q | q | q)
  ·exact .inl (.inl q)
  ·exact .inl (.inr (by omega))
  ·exact .inr q
theorem goodC {x:Cs×Fault}(q:(!((!decide (x.2.Code=0))||(decide ((x.1.length:Int)=0))))=true):0<x.1.length:=by
 simp only [xbs,xb4,xbi,xe3] at q
 omega
noncomputable def cellsO:Option (Cs×List Int)->Cs×Bool
 | some q=>(q.1,decide ((zk1 q.1).Code=0))
 | none=>([],false)
theorem cells_loop (L rows:B9)(o2:B8)(to:Nat)(ht:to<=L.length)(hr:to<=rows.length)(hL:to<=100000):∀ (m k:Nat) (acc:Cs) (es:List Int),to - k=m->k<=to->acc.length<=60000*k->
  zgy (to:Int) (⟨L,rows,o2⟩,acc,(k:Int))=some (cellsO (celP L rows m k acc es))
 | 0,k,acc,es,e,hk,ha=>by
  refine zah ?_
  unfold zb6
  dsimp only
  rw [ifF ..]
  unfold zff
  rw [check_eq,zac,celP]; rfl
 | m+1,k,acc,es,e,hk,ha=>by
  have hw:w64 ((k:Int)+1)=((k+1:Nat):Int):=by rw [zai ..]; omega
  have hl:=readS_len (zad L (k:Int))
  rw [celP]
  by_cases c:badC (zjt (zad L (k:Int))) (zad rows (k:Int))
  ·rw [xac c]
   refine zah ?_
   unfold zb6
   dsimp only
   rw [ifT ..,zaa ..,read_eq,zac,zaa (fun q=>by have:=goodC q; omega),zaa (fun q=>by have:=goodC q; omega),zaa (fun q=>by omega),badC_iff,xac (d_t c)]
   rfl
  ·rw [xab c]
   refine (zak ?_).trans (cells_loop L rows o2 to ht hr hL m (k+1) (acc++(zjt (zad L (k:Int))).1) (es++[((zjt (zad L (k:Int))).1.length:Int)]) (by omega) (by omega) (by rw [xaa]; omega))
   unfold zb6
   dsimp only
   rw [ifT ..,zaa ..,read_eq,zac,zaa (fun q=>by have:=goodC q; omega),zaa (fun q=>by have:=goodC q; omega),zaa (fun q=>by omega),badC_iff,xab (d_f c),zaa (by rw [xaa]; omega),hw]
theorem rcells_loop (L rows:B9)(z:Int)(f:Fault)(x:B8)(h2:2<=L.length)(hr:L.length - 2<=rows.length)(hL:L.length<=100000):∀ (m k:Nat) (acc:Cs) (es:List Int),L.length - 2 - k=m->k<=L.length - 2->acc.length<=60000*k->es.length<=k->
  zhg (L,z) (f,x,rows) (f,acc,es,(k:Int))=match celP L rows m k acc es with
   | some q=>zfu (L,z) (f,q.1,q.2)
   | none=>some ([],[],⟨5,2⟩)
 | 0,k,acc,es,e,hk,ha,he=>by
  have hw1:w64 ((L.length:Int) - 2)=(L.length:Int) - 2:=zai ..
  have hB:zg5 (L,z) (f,x,rows) (f,acc,es,(k:Int))=zev (zfu (L,z) (f,acc,es)):=by
   unfold zg5
   dsimp only
   rw [hw1,ifF ..]
  unfold zhg
  rw [znx,hB,celP]
  dsimp only
  cases zfu (L,z) (f,acc,es) <;> rfl
 | m+1,k,acc,es,e,hk,ha,he=>by
  have hw1:w64 ((L.length:Int) - 2)=(L.length:Int) - 2:=zai ..
  have hw:w64 ((k:Int)+1)=((k+1:Nat):Int):=by rw [zai ..]; omega
  have hl:=readS_len (zad L (k:Int))
  rw [celP]
  by_cases c:badC (zjt (zad L (k:Int))) (zad rows (k:Int))
  ·rw [xac c]
   refine zah ?_
   unfold zg5
   dsimp only
   rw [hw1,ifT ..,zaa ..,zaa ..,cellsOf_eq,zac,zaa (fun q=>by have:=goodC q; omega),zaa (fun q=>by have:=goodC q; omega),zaa (fun q=>by omega),zaa (fun q=>by omega),badC_iff,xac (d_t c)]
   rfl
  ·rw [xab c]
   refine (zak ?_).trans (rcells_loop L rows z f x h2 hr hL m (k+1) (acc++(zjt (zad L (k:Int))).1) (es++[((zjt (zad L (k:Int))).1.length:Int)]) (by omega) (by omega) (by rw [xaa]; omega) (by rw [xaa,xan]; omega))
   unfold zg5
   dsimp only
   rw [hw1,ifT ..,zaa ..,zaa ..,cellsOf_eq,zac,zaa (fun q=>by have:=goodC q; omega),zaa (fun q=>by have:=goodC q; omega),zaa (fun q=>by omega),zaa (fun q=>by omega),badC_iff,xab (d_f c),zaa (by rw [xaa]; omega),zaa (by rw [xaa,xan]; omega),hw]
noncomputable def endO (flt:B8):Option (Cs×List Int)->Cs×List Int×Fault
 | none=>([],[],⟨5,2⟩)
 | some q=>if ¬ (zk1 q.1).Code=0\/500<q.1.length then ([],[],⟨5,2⟩) else if filF q.1=flt then (q.1,q.2,⟨0,0⟩) else ([],[],⟨5,3⟩)
noncomputable def zke (b:B8):Cs×List Int×Fault:=
 if 60000<b.length then ([],[],⟨8,0⟩)
 else if badO b then ([],[],⟨5,0⟩)
 else match idxO (opn b.length b [] 0).1 with
  | none=>([],[],⟨5,1⟩)
  | some rows=>endO (zad (opn b.length b [] 0).1 (((opn b.length b [] 0).1.length:Int) - 1)) (celP (opn b.length b [] 0).1 rows ((opn b.length b [] 0).1.length - 2) 0 [] [])
theorem idxP_len (L:B9):∀ (m k:Nat) (x:B8) (rows rs:B9),idxP L m k x rows=some rs->rs.length=rows.length+m
 | 0,k,x,rows,rs,h=>by
  rw [idxP] at h
  split at h
  ·cases h; rfl
  ·cases h
 | m+1,k,x,rows,rs,h=>by
  rw [idxP] at h
  split at h
  ·cases h
  ·split at h
   ·cases h
   ·split at h
    ·have:=idxP_len L m _ _ _ _ h
     rw [xaa,xan] at this; omega
    ·cases h
theorem celP_take (L rows:B9)(n:Nat)(hn:n<=L.length):∀ (m k:Nat) (acc:Cs) (es:List Int),k+m=n->celP (L.take n) rows m k acc es=celP L rows m k acc es
 | 0,k,acc,es,_=>rfl
 | m+1,k,acc,es,e=>by
  have hg:zad (L.take n) (k:Int)=zad L (k:Int):=by
   have:=zml L (n:Int) (k:Int) (by omega)
   rwa [zde] at this
  rw [celP,celP,hg]
  split
  ·rfl
  ·exact celP_take L rows n hn m (k+1) _ _ (by omega)
theorem rfil_small {l:Cs}(h:(zk1 l).Code=0):zkw l=some (filF l)/\zkn l=some (filF l):=by
 have hG:=zl9 h
 have hl:=hG.len
 have hr:∀ c∈l,c.Row.length<=140737488351232:=fun c hc=>by have:=(zil (hG.code c hc)).1; omega
 exact ⟨rfilter_eq l (by omega) hr,filter_eq l (by omega) hr⟩
theorem ropen_eq (b:B8):zm8 b=some (zke b):=by
 unfold zm8 zke
 by_cases c:60000<b.length
 ·rw [ifT ..,xac c]; rfl
 ·have hlen:=opn_len b.length b [] 0
  have hmem:=fun s h=>opn_mem b.length b [] 0 s h
  obtain ⟨L,n,hop⟩:∃ L n,opn b.length b [] 0=(L,n):=⟨_,_,rfl⟩
  have hb:badO b↔(n≠b.length\/L.length<2\/(zad L ((L.length:Int) - 1)).length=0):=by unfold badO; rw [hop]
  rw [ifF ..,xab c,unframed_eq _ (by omega),zac,hop]
  rw [hop] at hlen hmem
  dsimp only at hlen hmem ⊢
  have hL:L.length<=60000:=by have:=hlen.1; simp at this; omega
  have hw1:w64 ((L.length:Int) - 2)=(L.length:Int) - 2:=zai ..
  have hw2:w64 ((L.length:Int) - 2+1)=(L.length:Int) - 1:=by rw [zai ..]; omega
  rw [hw1,hw2]
  have hcond:(((!decide ((n:Int)=(b.length:Int)))||(decide ((L.length:Int) - 2<0)))||(decide (((zad L ((L.length:Int) - 1)).length:Int)=0)))=decide (n≠b.length\/L.length<2\/(zad L ((L.length:Int) - 1)).length=0):=by
   rw [xbu]
   simp only [xbb,xaz,xbs,xbi]
   omega
  have ha:(!((!decide ((n:Int)=(b.length:Int)))||(decide ((L.length:Int) - 2<0))))=true->0<=(L.length:Int) - 1/\(L.length:Int) - 1<(L.length:Int):=fun q=>by
   simp only [xbs,xb4,xbi,xe3] at q
   omega
  rw [hcond,zaa ha,zaa ha]
  by_cases cb:n≠b.length\/L.length<2\/(zad L ((L.length:Int) - 1)).length=0
  ·rw [xac (d_t cb),xac (hb.2 cb)]; rfl
  ·rw [xab (d_f cb),xab (fun q=>cb (hb.1 q)),zaa ..,zaa ..]
   have hs:∀ s∈L,s.length<=100000:=fun s h=>by
    rcases hmem s h with q | q
    ·cases q
    ·omega
   have h0:=ridx (L:=L) (by omega) (by omega) hs (n:Int) ⟨0,0⟩ (L.length - 2) 0 (zad L ((L.length:Int) - 2)) [] (by omega) (by omega) (by simp) (hs _ (zcb L _ (by omega)))
   refine h0.trans ?_
   unfold idxO
   cases hi:idxP L (L.length - 2) 0 (zad L ((L.length:Int) - 2)) [] with
   | none=>rfl
   | some rows=>
    have hrl:=idxP_len L _ _ _ _ _ hi
    dsimp only
    refine (rcells_loop L rows (n:Int) ⟨0,0⟩ [] (by omega) (by simp at hrl; omega) (by omega) (L.length - 2) 0 [] [] (by omega) (by omega) (by simp) (by simp)).trans ?_
    cases celP L rows (L.length - 2) 0 [] [] with
    | none=>rfl
    | some q=>
     dsimp only
     unfold zfu endO
     dsimp only
     rw [rcheck_eq,zac,hw1,hw2]
     by_cases cc:¬ (zk1 q.1).Code=0\/500<q.1.length
     ·rw [xac (by simp only [xbb,xaz,xbs,xbi]; omega),xac cc]; rfl
     ·have hz:(zk1 q.1).Code=0:=xcp.1 (fun x=>cc (.inl x))
      rw [xab (by simp only [xbb,xaz,xbs,xbi]; omega),xab cc,(rfil_small hz).1,zac,zaa ..,zaa ..]
      dsimp only [lt,zl1]
      by_cases cf:filF q.1=zad L ((L.length:Int) - 1)
      ·rw [xab (by simp [cf]),xac cf]
      ·rw [xac (by simp [cf]),xab cf]; rfl
theorem badO_f {b:B8}(h:¬ badO b):2<=(opn b.length b [] 0).1.length:=by
 apply Decidable.byContradiction
 intro q
 exact h (.inr (.inl (by omega)))
theorem open_any (b:B8):zpp b=some ((zke b).1,(zke b).2.2):=by
 unfold zpp
 rw [open_all,zac]
 unfold openS zke
 by_cases c:60000<b.length
 ·rw [xac c,xac c]
  dsimp only
  rw [xac (by simp)]
 ·rw [xab c,xab c]
  by_cases cb:badO b
  ·rw [xac cb,xac cb]
   dsimp only
   rw [xac (by simp)]
  ·have h2:=badO_f cb
   have hlen:=opn_len b.length b [] 0
   rw [xab cb,xab cb]
   unfold idxO
   generalize (opn b.length b [] 0).1=L at *
   have hL:L.length<=60000:=by have:=hlen.1; simp at this; omega
   cases hi:idxP L (L.length - 2) 0 (zad L ((L.length:Int) - 2)) [] with
   | none=>
    unfold opI
    dsimp only
    rw [xac (by simp)]
   | some rows=>
    have hrl:=idxP_len L _ _ _ _ _ hi
    have hrl:rows.length=L.length - 2:=by simpa using hrl
    have htl:(L.take (L.length - 2)).length=L.length - 2:=by rw [xal]; omega
    unfold opI
    dsimp only
    rw [xab (by simp),zaa rfl]
    have hcl:zfq (L.take (L.length - 2)) rows (zad L ((L.length:Int) - 1)) 0 ((L.take (L.length - 2)).length:Int)=some (cellsO (celP L rows (L.length - 2) 0 [] [])):=by
     rw [htl]
     have:=cells_loop (L.take (L.length - 2)) rows (zad L ((L.length:Int) - 1)) (L.length - 2) (by omega) (by omega) (by omega) (L.length - 2) 0 [] [] (by omega) (by omega) (by simp)
     rw [celP_take L rows (L.length - 2) (by omega) _ _ _ _ (by omega)] at this
     exact this
    rw [hcl,zac]
    cases hq:celP L rows (L.length - 2) 0 [] [] with
    | none=>
     unfold cellsO endO
     dsimp only
     rw [xac (by simp)]; rfl
    | some q=>
     unfold cellsO endO
     dsimp only
     by_cases cc:¬ (zk1 q.1).Code=0\/500<q.1.length
     ·rw [xac (by simp only [xbb,xaz,xbs,xbi]; omega),xac cc]; rfl
     ·have hz:(zk1 q.1).Code=0:=xcp.1 (fun x=>cc (.inl x))
      have hl:=(zl9 hz).len
      have hN:=zqm q.1
      rw [xab (by simp only [xbb,xaz,xbs,xbi]; omega),xab cc,(rfil_small hz).2,zac,equal_eq _ _ (by unfold filF; rw [zei]; omega),zac]
      by_cases cf:filF q.1=zad L ((L.length:Int) - 1)
      ·rw [xab (by simp [cf]),xac cf]
      ·rw [xac (by simp [cf]),xab cf]; rfl
def allC (l:List Note):Cs:=(l.reverse.map (fun x=>x.Cells)).flatten
theorem allC_cons (n:Note)(l:List Note):allC (n::l)=allC l++n.Cells:=by simp [allC]
theorem allC_mem {l:List Note}{c:Cell}:c∈allC l↔∃ n∈l,c∈n.Cells:=by
 simp only [allC,xc0,xb8,List.mem_reverse]
 exact ⟨fun ⟨x,⟨n,h1,h2⟩,h3⟩=>⟨n,h1,by rw [h2]; exact h3⟩,fun ⟨n,h1,h2⟩=>⟨n.Cells,⟨n,h1,rfl⟩,h2⟩⟩
theorem allC_len:∀ (l:List Note),(∀ n∈l,n.Cells.length<=20)->(allC l).length<=20*l.length
 | [],_=>by simp [allC]
 | n::l,h=>by
  have h1:=allC_len l fun m hm=>h m (xbl _ hm)
  have h2:=h n (xa8 ..)
  rw [allC_cons,xaa,xah]
  omega
theorem put_eq (l:Cs)(ns:List Note)(hl:l.length<=1000000)(hn:ns.length<=1000000)(hc:(allC ns).length<=100000000):zqw l ns=some (firsts (allC ns++l)):=by
 have hf:(ns.reverse.map (fun x=>x.Cells)++[l]).flatten=allC ns++l:=by simp [allC]
 unfold zqw
 rw [zaa ..,merge_eq _ (by rw [hf,xaa]; omega) (by simp; omega),hf]
theorem stab_all:∀ (l:List Note),(∀ n∈l,n.Cells.Pairwise ah)->Stab (l.map (fun x=>x.Cells)).flatten.reverse (allC l)
 | [],_=>fun _=>rfl
 | n::l,h=>by
  have h1:=stab_all l fun m hm=>h m (xbl _ hm)
  rw [xbr,xcg,List.reverse_append,allC_cons]
  exact h1.app (stab_rev (h n (xa8 ..))).symm
theorem puts_eq (l:Cs)(ns:List Note)(hs:l.Pairwise ah)(hl:l.length<=1000000)(hn:ns.length<=1000000)(hg:∀ n∈ns,NGood n):R_PutNotes l ns=some (firsts (allC ns++l)):=by
 have hcl:∀ n∈ns,n.Cells.length<=20:=fun n h=>(hg n h).len
 have hal:=allC_len ns hcl
 have e:firsts (allC ns++l)=firsts ((ns.map (fun x=>x.Cells)).flatten.reverse++l):=firsts_congr (Stab.app (stab_all ns fun n h=>(hg n h).cells.srt).symm (Stab.refl l))
 rw [e]
 have key:∀ (R D:List Note) (m x:Cs),ns=D++R->Firsts m x->x.length<=1000000+20*D.length->zsb ns (x,(D.length:Int))=some (firsts ((R.map (fun x=>x.Cells)).flatten.reverse++m)):=by
  intro R
  induction R with
  | nil=>
   intro D m x h hF hx
   refine zah ?_
   unfold zn2
   dsimp only
   rw [xab (d_f (by rw [h]; simp))]
   show some (Sum.inr x)=some (Sum.inr (firsts m))
   rw [zpm hF]
  | cons n R ih=>
   intro D m x h hF hx
   have hnl:n.Cells.length<=20:=hcl n (by rw [h]; simp)
   have hDl:D.length+(R.length+1)=ns.length:=by rw [h]; simp
   have hp:=rputs_eq x n.Cells m hF (by omega)
   have hget:zad ns (D.length:Int)=n:=by rw [h,zbi _ D.length (by simp)]; simp
   have h2:ns=(D++[n])++R:=by rw [h]; simp
   have hfl:(firsts (n.Cells.reverse++m)).length<=1000000+20*(D++[n]).length:=by
    obtain ⟨y,hy,hF2,hyl⟩:=rputs_loop n.Cells n.Cells [] m x rfl hF (by omega) (by omega)
    rw [<- zpm hF2,xaa]
    simp only [xah,xax]
    omega
   have:=ih (D++[n]) (n.Cells.reverse++m) _ h2 (zf2 _) hfl
   refine (zak ?_).trans (this.trans (by simp))
   unfold zn2
   dsimp only
   rw [ifT ..,zaa ..,hget,hp,zac]
   have:w64 ((D.length:Int)+1)=(((D++[n]).length:Nat):Int):=by rw [zai ..]; simp
   rw [this]
 exact key ns [] l l rfl (by have:=zf2 l; rw [zmv hs] at this; exact this) (by simp; omega)
def ixN (done:Int):List Note->Int->Int
 | [],_=>-1
 | n::l,i=>if done<n.Seq then i else ixN done l (i+1)
def abv (done:Int):List Note->List Note
 | []=>[]
 | n::l=>if done<n.Seq then n::l else abv done l
theorem ixN_abv (done:Int):∀ (l:List Note) (i:Int),(ixN done l i = -1/\abv done l=[])\/∃ j:Nat,j<l.length/\ixN done l i=i+j/\abv done l=l.drop j
 | [],_=>.inl ⟨rfl,rfl⟩
 | n::l,i=>by
  rw [ixN,abv]
  by_cases c:done<n.Seq
  ·rw [xac c,xac c]; exact .inr ⟨0,by simp,by simp,rfl⟩
  ·rw [xab c,xab c]
   rcases ixN_abv done l (i+1) with h | ⟨j,h1,h2,h3⟩
   ·exact .inl h
   ·exact .inr ⟨j+1,by simp; omega,by rw [h2]; omega,by rw [h3]; rfl⟩
theorem abv_sub (done:Int):∀ l:List Note,∀ n∈abv done l,n∈l
 | [],n,h=>h
 | m::l,n,h=>by
  rw [abv] at h
  split at h
  ·exact h
  ·exact xbl _ (abv_sub done l n h)
theorem abv_len (done:Int):∀ l:List Note,(abv done l).length<=l.length
 | []=>xae _
 | m::l=>by
  rw [abv]
  split
  ·exact xae _
  ·have:=abv_len done l; simp; omega
theorem indexN_eq (a:B8)(b:Int)(c:B9)(done d e:Int)(l:List Note)(f:List Cs)(hl:l.length<=1000000):zda a b c done d e l f=some (ixN done l 0):=by
 have key:∀ (m k:Nat),l.length - k=m->k<=l.length->zdr a b c done d e l f (k:Int)=some (ixN done (l.drop k) k):=by
  intro m
  induction m with
  | zero=>
   intro k hm hk
   have:k=l.length:=by omega
   subst this
   refine zah ?_
   unfold zbt
   rw [ifF ..,xbw]; rfl
  | succ m ih=>
   intro k hm hk
   rw [zct l k (by omega),ixN]
   have hB:zbt a b c done d e l f (k:Int)=if done<(zad l (k:Int)).Seq then some (.inr (k:Int)) else some (.inl ((k+1:Nat):Int)):=by
    unfold zbt zjk
    rw [ifT ..,zaa ..,zaa ..]
    dsimp only [lt]
    by_cases q:done<(zad l (k:Int)).Seq
    ·rw [xac (d_t q),xac q]
    ·rw [xab (d_f q),xab q]
     have:w64 ((k:Int)+1)=((k+1:Nat):Int):=by rw [zai ..]; omega
     rw [this]
   by_cases q:done<(zad l (k:Int)).Seq
   ·rw [xac q]
    exact zah (by rw [hB,xac q])
   ·rw [xab q]
    exact (zak (by rw [hB,xab q])).trans (ih (k+1) (by omega) (by omega))
 exact key l.length 0 (by omega) (by omega)
noncomputable def zr1 (done:Int)(l:List Note):Cs:=firsts (allC (abv done l))
noncomputable def allS (mem:Cs)(files:List Cs):Cs:=firsts (mem++files.flatten)
noncomputable def ziv (mem:Cs)(files:List Cs):Fault:=if 500<mem.length then ⟨9,-2⟩ else if 1000<(allS mem files).length then ⟨9,-1⟩ else ⟨0,0⟩
theorem all_eq (a:B8)(b:Int)(c:B9)(done d e:Int)(l:List Note)(mem:Cs)(files:List Cs)(hm:mem.length<=1000000000)(hf:files.length<=1000)(hfl:files.flatten.length<=1000000000) :
  zh8 a b c done d e l mem files=some (allS mem files,mem):=by
 unfold zh8 zj8
 rw [zaa (by simp; omega),zac]
 dsimp only
 rw [merge_eq _ (by simp only [xcj,xcg,List.flatten_nil,xa4,xaa]; omega) (by simp; omega),zac]
 simp [allS]
theorem fill_eq (a:B8)(b:Int)(c:B9)(done d e:Int)(l:List Note)(files:List Cs)(hl:l.length<=1000000)(hg:∀ n∈l,NGood n)(hf:files.length<=1000)(hfl:files.flatten.length<=1000000000) :
  zit a b c done d e l files=some (ziv (zr1 done l) files,a,b,c,done,d,l,e,zr1 done l):=by
 have hal:=allC_len (abv done l) fun n h=>(hg n (abv_sub done l n h)).len
 have hbl:=abv_len done l
 have hml:(zr1 done l).length<=1000000000:=by
  have:=zmo (allC (abv done l))
  unfold zr1; omega
 unfold zit
 rw [indexN_eq a b c done d e l files hl,zac]
 have hmem:(ob (if (decide (0<=ixN done l 0))=true then
   zao (0<=ixN done l 0/\ixN done l 0<=(l.length:Int)) <|
   ob (zqw ([]:Cs) (zc1 l (ixN done l 0))) fun x1=>
   some (x1,(⟨0,0⟩:Fault))
  else
   some (([]:Cs),(⟨0,0⟩:Fault))) fun (v:Cs×Fault)=>some v)=some (zr1 done l,⟨0,0⟩):=by
  rcases ixN_abv done l 0 with ⟨h1,h2⟩ | ⟨j,h1,h2,h3⟩
  ·rw [h1,xab (by decide)]
   unfold zr1
   rw [h2,zac]
   have:firsts (allC [])=[]:=zmv (l:=[]) .nil
   rw [this]
  ·rw [h2,ifT ..,zaa ..]
   have e1:zc1 l (0+(j:Int))=l.drop j:=by rw [Int.zero_add,zb8]
   rw [e1,put_eq [] _ (by simp) (by simp; omega) (by rw [<- h3]; omega),zac,zac,xa4]
   unfold zr1
   rw [h3]
 have hmem':(if (decide (0<=ixN done l 0))=true then
   zao (0<=ixN done l 0/\ixN done l 0<=(l.length:Int)) <|
   ob (zqw ([]:Cs) (zc1 l (ixN done l 0))) fun x1=>
   some (x1,(⟨0,0⟩:Fault))
  else
   some (([]:Cs),(⟨0,0⟩:Fault)))=some (zr1 done l,⟨0,0⟩):=by
  rw [<- hmem]
  generalize (if (decide (0<=ixN done l 0))=true then _ else _:Option (Cs×Fault))=z
  cases z <;> rfl
 rw [hmem',zac]
 dsimp only
 unfold ziv
 by_cases c1:500<(zr1 done l).length
 ·rw [ifT ..,xac c1]; rfl
 ·rw [ifF ..,xab c1,all_eq a b c done d e l _ files hml hf hfl,zac]
  dsimp only
  by_cases c2:1000<(allS (zr1 done l) files).length
  ·rw [ifT ..,xac c2]; rfl
  ·rw [ifF ..,xab c2]
noncomputable def zee (t:Tablet):List Note:=(logd t.Log.Bytes).1
noncomputable def zeo (t:Tablet):Int:=if 0<(zee t).length then (zad (zee t) (((zee t).length:Int) - 1)).Seq else t.Done
noncomputable def zhv (t:Tablet):List Cs:=t.Files.map fun b=>(zke b).1
noncomputable def zig (t:Tablet):Cs:=zr1 t.Done (zee t)
noncomputable def allT (t:Tablet):Cs:=allS (zig t) (zhv t)
def badT (t:Tablet):Prop:=(logd t.Log.Bytes).2≠t.Log.Bytes.length\/(0<(zee t).length/\(t.Done+1<(zad (zee t) 0).Seq\/(zad (zee t) (((zee t).length:Int) - 1)).Seq<t.Done))
noncomputable def ldF:B9->Int->Fault
 | [],_=>⟨0,0⟩
 | b::l,i=>if (zke b).2.2.Code=0 then ldF l (i+1) else ⟨(zke b).2.2.Code,i⟩
open Classical in
noncomputable def zic (t:Tablet):Fault:=
 if t.Done<0\/1000000000<t.Done\/t.Since<0\/1000000000<t.Since then ⟨3,0⟩
 else if 10<t.Files.length then ⟨2,-1⟩
 else if ¬ (dF t.Log).Code=0 then ⟨(dF t.Log).Code,-2⟩
 else if badT t then ⟨11,-2⟩
 else ldF t.Files 0
noncomputable def loadS (t:Tablet):Fault⊕(B8×Int×B9×Int×Int×List Note×Int×Cs×List Cs×Fault):=
 if ¬ (zic t).Code=0 then .inl (zic t) else .inr (t.Log.Bytes,t.Log.Kept,t.Files,t.Done,t.Since,zee t,zeo t,zig t,zhv t,ziv (zig t) (zhv t))
theorem fileO_good {b:B8}(h:(zke b).2.2.Code=0):Good (zke b).1/\(zke b).1.length<=500:=by
 unfold zke at h ⊢
 split at h
 ·cases h
 ·split at h
  ·cases h
  ·rename_i c1 c2
   rw [xab c1,xab c2]
   split at h
   ·cases h
   ·rename_i rows e
    generalize celP _ _ _ _ _ _=z at h ⊢
    cases z with
    | none=>cases h
    | some q=>
     simp only [endO] at h ⊢
     split at h
     ·cases h
     ·rename_i c3
      rw [xab c3]
      split at h
      ·rename_i c4
       rw [xac c4]
       have c5:(zk1 q.1).Code=0/\¬ 500<q.1.length:=⟨Classical.byContradiction fun w=>c3 (.inl w),fun w=>c3 (.inr w)⟩
       exact ⟨zl9 c5.1,xeh c5.2⟩
      ·cases h
theorem fileO_len (b:B8):(zke b).1.length<=500:=by
 by_cases h:(zke b).2.2.Code=0
 ·exact (fileO_good h).2
 ·unfold zke at h ⊢
  split
  ·simp
  ·split
   ·simp
   ·split
    ·simp
    ·rename_i c1 c2 _ rows e
     rw [xab c1,xab c2,e] at h
     dsimp only at h
     generalize celP _ _ _ _ _ _=z at h ⊢
     cases z with
     | none=>simp [endO]
     | some q=>
      simp only [endO] at h ⊢
      split
      ·simp
      ·rename_i c3
       rw [xab c3] at h
       split
       ·rename_i c4
        rw [xac c4] at h
        exact absurd rfl h
       ·simp
theorem fil_flat:∀ (l:B9),(l.map fun b=>(zke b).1).flatten.length<=500*l.length
 | []=>by simp
 | b::l=>by
  have h1:=fil_flat l
  have h2:=fileO_len b
  rw [xbr,xcg,xaa,xah]
  omega
theorem load_loop (x4:List Note×Int)(v:Tablet×Fault×B8×Int×B9×Int×Int×Int)(L:B9)(z:Fault)(hL:L.length<=10)(hn:x4.1.length<=1000000)(hg:∀ n∈x4.1,NGood n):∀ (m k:Nat),L.length - k=m->k<=L.length->ldF L 0=ldF (L.drop k) k->
  zmx x4 v (z,(L.take k).map (fun b=>(zke b).1),L,(L.length:Int),(k:Int)) =
   some (if ¬ (ldF L 0).Code=0 then .inl (ldF L 0) else .inr (v.2.2.1,v.2.2.2.1,v.2.2.2.2.1,v.2.2.2.2.2.1,v.2.2.2.2.2.2.1,x4.1,v.2.2.2.2.2.2.2,zr1 v.2.2.2.2.2.1 x4.1,L.map (fun b=>(zke b).1),ziv (zr1 v.2.2.2.2.2.1 x4.1) (L.map fun b=>(zke b).1))):=by
 intro m
 induction m with
 | zero=>
  intro k e hk h0
  have hkl:k=L.length:=by omega
  subst hkl
  rw [xbw] at h0
  have hz:ldF L 0=⟨0,0⟩:=h0
  have hfl:=fil_flat L
  refine zah ?_
  unfold zh7 zh5
  dsimp only
  rw [ifF ..,xbg,fill_eq _ _ _ _ _ _ _ _ hn hg (by simp; omega) (by omega),zac,hz,xab (by simp)]; rfl
 | succ m ih=>
  intro k e hk h0
  have hkl:k<L.length:=by omega
  have hw:w64 ((k:Int)+1)=((k+1:Nat):Int):=by rw [zai ..]; omega
  rw [zct L k hkl,ldF] at h0
  have hop:=open_any (zad L (k:Int))
  by_cases c:(zke (zad L (k:Int))).2.2.Code=0
  ·rw [xac c] at h0
   refine (zak ?_).trans (ih (k+1) (by omega) (by omega) h0)
   unfold zh7
   dsimp only
   rw [ifT ..,zaa ..,hop,zac]
   dsimp only
   rw [xab (n_f c),zaa (by simp; omega),hw,zdq L k hkl,xcx]; rfl
  ·rw [xab c] at h0
   refine zah ?_
   unfold zh7
   dsimp only
   rw [ifT ..,zaa ..,hop,zac]
   dsimp only
   rw [xac (n_t c),h0,xac c]; rfl
theorem ldF_good:∀ (l:B9) (i:Int),(ldF l i).Code=0->ldF l i=⟨0,0⟩/\∀ b∈l,Good (zke b).1
 | [],_,_=>⟨rfl,fun b h=>by cases h⟩
 | b::l,i,h=>by
  rw [ldF] at h ⊢
  by_cases c:(zke b).2.2.Code=0
  ·rw [xac c] at h ⊢
   obtain ⟨h1,h2⟩:=ldF_good l (i+1) h
   exact ⟨h1,fun x hx=>(xap.1 hx).elim (fun e=>by rw [e]; exact (fileO_good c).1) (h2 x)⟩
  ·rw [xab c] at h; exact absurd h c
theorem load_eq (t:Tablet):zf1 t=some (loadS t):=by
 unfold zf1 loadS zic
 by_cases c1:t.Done<0\/1000000000<t.Done\/t.Since<0\/1000000000<t.Since
 ·rw [xac (by simp; omega),xac c1,xac (by simp)]; rfl
 ·rw [xab (by simp; omega),xab c1]
  by_cases c2:10<t.Files.length
  ·rw [ifT ..,xac c2,xac (by simp)]; rfl
  ·rw [ifF ..,xab c2,dcheck_eq]
   dsimp only [lt]
   by_cases c3:(dF t.Log).Code=0
   ·have hd:=dF_good.1 c3
    have hlen:=hd.len
    obtain ⟨l1,l2,l3⟩:=logd_le t.Log.Bytes
    have hwn:w64 (((zee t).length:Int) - 1)=((zee t).length:Int) - 1:=zai (by omega) (by unfold zee; omega)
    have hwd:w64 (t.Done+1)=t.Done+1:=zai ..
    rw [xab (n_f c3),xab (xat c3),wnotes_eq t.Log hlen,zac]
    dsimp only
    show zao _ _=_
    have e1:(logd t.Log.Bytes).1=zee t:=rfl
    rw [e1] at l2 l3 ⊢
    rw [hwn,hwd]
    rw [zaa (fun h _=>⟨by omega,xa5 h⟩),zaa (fun h _=>⟨by omega,xa5 h⟩),zaa (fun _ h _=>by have:=xa5 h; omega),zaa (fun _ h _=>by have:=xa5 h; omega)]
    by_cases c4:badT t
    ·have hc:((!decide ((((logd t.Log.Bytes).2:Nat):Int)=(t.Log.Bytes.length:Int)))||((decide (0<((zee t).length:Int)))&&((decide (t.Done+1<(zad (zee t) 0).Seq))||(decide ((zad (zee t) (((zee t).length:Int) - 1)).Seq<t.Done)))))=true:=by
      unfold badT at c4
      simp only [xbb,xaw,xaz,xbs,xbi]
      rcases c4 with h | ⟨h1,h2⟩
      ·exact .inl (by omega)
      ·exact .inr ⟨by omega,h2⟩
     rw [xac hc,xac c4,xac (by simp)]; rfl
    ·have hc:¬ ((!decide ((((logd t.Log.Bytes).2:Nat):Int)=(t.Log.Bytes.length:Int)))||((decide (0<((zee t).length:Int)))&&((decide (t.Done+1<(zad (zee t) 0).Seq))||(decide ((zad (zee t) (((zee t).length:Int) - 1)).Seq<t.Done)))))=true:=by
      intro h
      simp only [xbb,xaw,xaz,xbs,xbi] at h
      refine c4 ?_
      unfold badT
      rcases h with h | ⟨h1,h2⟩
      ·exact .inl (by omega)
      ·exact .inr ⟨by omega,h2⟩
     rw [xab hc,xab c4]
     have hv:(if (decide (0<((zee t).length:Int)))=true then
       zao (0<=((zee t).length:Int) - 1/\((zee t).length:Int) - 1<((zee t).length:Int)) <|
       zao (0<=((zee t).length:Int) - 1/\((zee t).length:Int) - 1<((zee t).length:Int)) <|
       some (t,(⟨0,0⟩:Fault),t.Log.Bytes,t.Log.Kept,t.Files,t.Done,t.Since,(zad (zee t) (((zee t).length:Int) - 1)).Seq)
      else
       some (t,(⟨0,0⟩:Fault),t.Log.Bytes,t.Log.Kept,t.Files,t.Done,t.Since,t.Done))=some (t,(⟨0,0⟩:Fault),t.Log.Bytes,t.Log.Kept,t.Files,t.Done,t.Since,zeo t):=by
      unfold zeo
      by_cases q:0<(zee t).length
      ·rw [ifT ..,zaa ..,zaa ..,xac q]
      ·rw [ifF ..,xab q]
     rw [hv,zac]
     dsimp only
     exact load_loop (zee t,(((logd t.Log.Bytes).2:Nat):Int)) (t,⟨0,0⟩,t.Log.Bytes,t.Log.Kept,t.Files,t.Done,t.Since,zeo t) t.Files ⟨0,0⟩ (by omega) (by show (zee t).length<=1000000; omega) l3 t.Files.length 0 (by omega) (by omega) rfl
   ·rw [xac (n_t c3),xac c3,xac c3]; rfl
theorem own_eq (t:Tablet)(hd:t.Log.Bytes.length<=1000000)(hf:t.Files.length<=1000)(hb:∀ b∈t.Files,b.length<=1000000):zh9 t=some (t.Log.Bytes,t.Log.Kept,t.Files,t.Done,t.Since):=by
 unfold zh9 disk_Copy
 rw [clone_eq _ hd,zac,zac,zaa ..]
 have key:∀ (m k:Nat) (z:Tablet),t.Files.length - k=m->k<=t.Files.length->zsu (t.Log.Bytes,t.Log.Kept) (t.Files,t.Done,t.Since,z,t.Files.take k,t.Files,(t.Files.length:Int),(k:Int))=some (t.Log.Bytes,t.Log.Kept,t.Files,t.Done,t.Since):=by
  intro m
  induction m with
  | zero=>
   intro k z e hk
   have:k=t.Files.length:=by omega
   subst this
   refine zah ?_
   unfold zoc znt
   dsimp only
   rw [ifF ..,xbg]; rfl
  | succ m ih=>
   intro k z e hk
   have hkl:k<t.Files.length:=by omega
   have hw:w64 ((k:Int)+1)=((k+1:Nat):Int):=by rw [zai ..]; omega
   refine (zak ?_).trans (ih (k+1) z (by omega) (by omega))
   unfold zoc
   dsimp only
   rw [ifT ..,zaa ..,clone_eq _ (hb _ (zcb t.Files (k:Int) (by omega))),zac,zaa (by simp; omega),hw,zdq t.Files k hkl]
 exact key t.Files.length 0 _ (by omega) (by omega)
noncomputable def zk0 (t:Tablet):Fault:=if ¬ (zic t).Code=0 then zic t else ziv (zig t) (zhv t)
structure TG (t:Tablet):Prop where
 f:zk0 t=⟨0,0⟩
 head:zic t=⟨0,0⟩
 d0:0<=t.Done
 d1:t.Done<=1000000000
 s0:0<=t.Since
 s1:t.Since<=1000000000
 few:t.Files.length<=10
 log:DGood t.Log
 fit:¬ badT t
 fil:∀ b∈t.Files,Good (zke b).1/\b.length<=60000
 mem:(zig t).length<=500
 all:(allT t).length<=1000
theorem ldF_small:∀ (l:B9) (i:Int),(ldF l i).Code=0->∀ b∈l,b.length<=60000
 | [],_,_,b,h=>by cases h
 | b::l,i,h,x,hx=>by
  rw [ldF] at h
  by_cases c:(zke b).2.2.Code=0
  ·rw [xac c] at h
   rcases xap.1 hx with e | e
   ·rw [e]
    apply xeh
    intro q
    unfold zke at c
    rw [xac q] at c; cases c
   ·exact ldF_small l (i+1) h x e
  ·rw [xab c] at h; exact absurd h c
theorem zpd {t:Tablet}(h:(zk0 t).Code=0):TG t:=by
 have hh:(zic t).Code=0:=by
  unfold zk0 at h
  by_cases c:(zic t).Code=0
  ·exact c
  ·rw [xac c] at h; exact absurd h c
 have hf:(ziv (zig t) (zhv t)).Code=0:=by
  unfold zk0 at h
  rw [xab (xat hh)] at h; exact h
 have hm:¬ 500<(zig t).length:=by
  intro q
  unfold ziv at hf
  rw [xac q] at hf; cases hf
 have ha:¬ 1000<(allS (zig t) (zhv t)).length:=by
  intro q
  unfold ziv at hf
  rw [xab hm,xac q] at hf; cases hf
 have hfz:ziv (zig t) (zhv t)=⟨0,0⟩:=by unfold ziv; rw [xab hm,xab ha]
 unfold zic at hh
 by_cases c1:t.Done<0\/1000000000<t.Done\/t.Since<0\/1000000000<t.Since
 ·rw [xac c1] at hh; cases hh
 ·rw [xab c1] at hh
  by_cases c2:10<t.Files.length
  ·rw [xac c2] at hh; cases hh
  ·rw [xab c2] at hh
   by_cases c3:(dF t.Log).Code=0
   ·rw [xab (xat c3)] at hh
    by_cases c4:badT t
    ·rw [xac c4] at hh; cases hh
    ·rw [xab c4] at hh
     obtain ⟨hz,hg⟩:=ldF_good t.Files 0 hh
     have hs:=ldF_small t.Files 0 hh
     have hd:zic t=⟨0,0⟩:=by unfold zic; rw [xab c1,xab c2,xab (xat c3),xab c4,hz]
     exact ⟨by unfold zk0; rw [hd,xab (by simp),hfz],hd,by omega,by omega,by omega,by omega,by omega,dF_good.1 c3,c4,fun b hb=>⟨hg b hb,hs b hb⟩,by omega,xeh ha⟩
   ·rw [xac c3] at hh; exact absurd hh c3
theorem fill1_eq (a:B8)(m0:Cs)(b:Int)(c:B9)(done d e:Int)(l:List Note)(files:List Cs)(hl:l.length<=1000000)(hg:∀ n∈l,NGood n)(hf:files.length<=1000)(hfl:files.flatten.length<=1000000000) :
  zgm b c done d e a l m0 files=some (ziv (zr1 done l) files,b,c,done,d,l,e,zr1 done l):=by
 have hal:=allC_len (abv done l) fun n h=>(hg n (abv_sub done l n h)).len
 have hbl:=abv_len done l
 have hml:(zr1 done l).length<=1000000000:=by
  have:=zmo (allC (abv done l))
  unfold zr1; omega
 unfold zgm
 rw [show zcn b c done d e l a m0 files=some (ixN done l 0) from indexN_eq a b c done d e l files hl,zac]
 have hmem:(ob (if (decide (0<=ixN done l 0))=true then
   zao (0<=ixN done l 0/\ixN done l 0<=(l.length:Int)) <|
   ob (zqw ([]:Cs) (zc1 l (ixN done l 0))) fun x1=>
   some (x1,(⟨0,0⟩:Fault))
  else
   some (([]:Cs),(⟨0,0⟩:Fault))) fun (v:Cs×Fault)=>some v)=some (zr1 done l,⟨0,0⟩):=by
  rcases ixN_abv done l 0 with ⟨h1,h2⟩ | ⟨j,h1,h2,h3⟩
  ·rw [h1,xab (by decide)]
   unfold zr1
   rw [h2,zac]
   have:firsts (allC [])=[]:=zmv (l:=[]) .nil
   rw [this]
  ·rw [h2,ifT ..,zaa ..]
   have e1:zc1 l (0+(j:Int))=l.drop j:=by rw [Int.zero_add,zb8]
   rw [e1,put_eq [] _ (by simp) (by simp; omega) (by rw [<- h3]; omega),zac,zac,xa4]
   unfold zr1
   rw [h3]
 have hmem':(if (decide (0<=ixN done l 0))=true then
   zao (0<=ixN done l 0/\ixN done l 0<=(l.length:Int)) <|
   ob (zqw ([]:Cs) (zc1 l (ixN done l 0))) fun x1=>
   some (x1,(⟨0,0⟩:Fault))
  else
   some (([]:Cs),(⟨0,0⟩:Fault)))=some (zr1 done l,⟨0,0⟩):=by
  rw [<- hmem]
  generalize (if (decide (0<=ixN done l 0))=true then _ else _:Option (Cs×Fault))=z
  cases z <;> rfl
 rw [hmem',zac]
 dsimp only
 unfold ziv
 by_cases c1:500<(zr1 done l).length
 ·rw [ifT ..,xac c1]; rfl
 ·rw [ifF ..,xab c1,show zji b c done d e a l (zr1 done l) files=some (allS (zr1 done l) files,zr1 done l) from all_eq a b c done d e l _ files hml hf hfl,zac]
  dsimp only
  by_cases c2:1000<(allS (zr1 done l) files).length
  ·rw [ifT ..,xac c2]; rfl
  ·rw [ifF ..,xab c2]
theorem lastT_bd {t:Tablet}(h:TG t):0<=zeo t/\zeo t<=1000000000:=by
 obtain ⟨_,_,l3⟩:=logd_le t.Log.Bytes
 unfold zeo
 by_cases c:0<(zee t).length
 ·rw [xac c]
  have:=l3 _ (zcb (zee t) (((zee t).length:Int) - 1) (by omega))
  have h1:=this.lo
  have h2:=this.hi
  omega
 ·rw [xab c]
  have:=h.d0
  have:=h.d1
  omega
noncomputable def putN (t:Tablet)(l:Cs):Note:=⟨zeo t+1,l⟩
def erl (since:Int):Cs->Int->Fault
 | [],_=>⟨0,0⟩
 | c::l,i=>if c.Time<since then ⟨12,i⟩ else erl since l (i+1)
noncomputable def putF (t:Tablet)(l:Cs):Fault:=
 if ¬ (zq0 (putN t l)).Code=0 then zq0 (putN t l)
 else if ¬ (erl t.Since l 0).Code=0 then erl t.Since l 0
 else if 60000<t.Log.Bytes.length+(frame (zon (putN t l))).length then ⟨9,0⟩
 else ziv (zr1 t.Done (zee t++[putN t l])) (zhv t)
def T0:Tablet:=⟨⟨[],0⟩,[],0,0⟩
noncomputable def putS (t:Tablet)(l:Cs):Tablet×Int×Fault:=
 if ¬ (zk0 t).Code=0 then (T0,0,zk0 t)
 else if ¬ (putF t l).Code=0 then (T0,0,putF t l)
 else (⟨⟨t.Log.Bytes++frame (zon (putN t l)),t.Log.Kept⟩,t.Files,t.Done,t.Since⟩,zeo t+1,⟨0,0⟩)
theorem encN_len {n:Note}(h:NGood n):(zon n).length<=7000:=by
 have h1:=h.lo
 have h2:=h.hi
 have h3:=h.len
 have h5:=zie (n:=n.Seq.toNat) (by omega)
 have h6:=encC_len n.Cells h.cells.code
 unfold zon
 rw [xaa]; omega
theorem wframe_eq (n:Note)(h:NGood n):zm6 n=some (frame (zon n)):=by
 have hl:=encN_len h
 unfold zm6
 rw [wbytes_eq n h,zac,addFrameW_eq _ (by omega),zac]
theorem tput_loop (t:Tablet)(l:Cs)(h:TG t)(hn:NGood (putN t l)):∀ (m k:Nat),l.length - k=m->k<=l.length->erl t.Since l 0=erl t.Since (l.drop k) k->
  zot t.Log.Bytes t.Log.Kept t.Files t.Done t.Since (zeo t) l 0 (zee t) (zig t) (zhv t) (t,⟨0,0⟩,putN t l,(k:Int)) =
   some (if ¬ (erl t.Since l 0).Code=0 then (erl t.Since l 0,t.Log.Bytes,t.Log.Kept,t.Files,t.Done,t.Since,zee t,zeo t,zig t,t,0)
    else if 60000<t.Log.Bytes.length+(frame (zon (putN t l))).length then (⟨9,0⟩,t.Log.Bytes,t.Log.Kept,t.Files,t.Done,t.Since,zee t,zeo t,zig t,t,0)
    else (ziv (zr1 t.Done (zee t++[putN t l])) (zhv t),t.Log.Bytes++frame (zon (putN t l)),t.Log.Kept,t.Files,t.Done,t.Since,zee t++[putN t l],zeo t,zr1 t.Done (zee t++[putN t l]),t,zeo t+1)):=by
 obtain ⟨l1,l2,l3⟩:=logd_le t.Log.Bytes
 have hll:=h.log.len
 have hfr:=encN_len hn
 have hflat:=fil_flat t.Files
 have hfew:=h.few
 intro m
 induction m with
 | zero=>
  intro k e hk h0
  have hkl:k=l.length:=by omega
  subst hkl
  rw [xbw] at h0
  have hz:erl t.Since l 0=⟨0,0⟩:=h0
  refine zah ?_
  unfold ziy zlo
  dsimp only
  rw [ifF ..,wframe_eq _ hn,zac,append_eq h.log _ (by rw [zcs]; omega),zac]
  by_cases c:60000<t.Log.Bytes.length+(frame (zon (putN t l))).length
  ·rw [xac c]
   dsimp only
   rw [xac (by decide),hz,xab (by simp),xac c]; rfl
  ·rw [xab c]
   dsimp only
   have hl2:(zee t).length<=60000:=by unfold zee; omega
   rw [xab (by simp),zaa (by simp; omega),fill1_eq _ _ _ _ _ _ _ _ _ (by simp; omega) (fun n hm=>by
    rcases xar.1 hm with q | q
    ·exact l3 n q
    ·rw [xau.1 q]; exact hn) (by unfold zhv; simp; omega) (by unfold zhv; omega),zac,hz,xab (by simp),xab c]
   rfl
 | succ m ih=>
  intro k e hk h0
  have hkl:k<l.length:=by omega
  rw [zct l k hkl,erl] at h0
  have hB:ziy t.Log.Bytes t.Log.Kept t.Files t.Done t.Since (zeo t) l 0 (zee t) (zig t) (zhv t) (t,⟨0,0⟩,putN t l,(k:Int))=if (zad l (k:Int)).Time<t.Since then some (.inr (⟨12,k⟩,t.Log.Bytes,t.Log.Kept,t.Files,t.Done,t.Since,zee t,zeo t,zig t,t,0)) else some (.inl (t,⟨0,0⟩,putN t l,((k+1:Nat):Int))):=by
   unfold ziy
   dsimp only
   rw [ifT ..,zaa ..]
   by_cases c:(zad l (k:Int)).Time<t.Since
   ·rw [xac (d_t c),xac c]; rfl
   ·rw [xab (d_f c),xab c]
    have:w64 ((k:Int)+1)=((k+1:Nat):Int):=by rw [zai (by have:=hn.len; simp only [putN] at this; omega) (by have:=hn.len; simp only [putN] at this; omega)]; omega
    rw [this]
  by_cases c:(zad l (k:Int)).Time<t.Since
  ·rw [xac c] at h0
   refine zah ?_
   rw [hB,xac c,h0,xac (by simp)]
  ·rw [xab c] at h0
   exact (zak (by rw [hB,xab c])).trans (ih (k+1) (by omega) (by omega) h0)
theorem loadS_bad {t:Tablet}(h:¬ (zic t).Code=0):loadS t = .inl (zic t):=by unfold loadS; rw [xac h]
theorem loadS_ok {t:Tablet}(h:(zic t).Code=0):loadS t = .inr (t.Log.Bytes,t.Log.Kept,t.Files,t.Done,t.Since,zee t,zeo t,zig t,zhv t,ziv (zig t) (zhv t)):=by unfold loadS; rw [xab (xat h)]
theorem put1_eq (t:Tablet)(l:Cs)(h:TG t):∃ x,zm2 t.Log.Bytes t.Log.Kept t.Files t.Done t.Since (zeo t) l t 0 (zee t) (zig t) (zhv t)=some x/\x.1=putF t l/\
  ((putF t l).Code=0->x=(⟨0,0⟩,t.Log.Bytes++frame (zon (putN t l)),t.Log.Kept,t.Files,t.Done,t.Since,zee t++[putN t l],zeo t,zr1 t.Done (zee t++[putN t l]),t,zeo t+1)):=by
 obtain ⟨b1,b2⟩:=lastT_bd h
 have hw:w64 (zeo t+1)=zeo t+1:=zai ..
 unfold zm2
 rw [hw,show (⟨zeo t+1,l⟩:Note)=putN t l from rfl,wcheck_eq,zac]
 by_cases c:(zq0 (putN t l)).Code=0
 ·have hn:=zrd c
  rw [xab (n_f c)]
  have:=tput_loop t l h hn l.length 0 (by omega) (by omega) rfl
  refine ⟨_,this,?_,?_⟩
  ·unfold putF
   rw [xab (xat c)]
   by_cases c1:(erl t.Since l 0).Code=0
   ·rw [xab (xat c1),xab (xat c1)]
    by_cases c2:60000<t.Log.Bytes.length+(frame (zon (putN t l))).length
    ·rw [xac c2,xac c2]
    ·rw [xab c2,xab c2]
   ·rw [xac c1,xac c1]
  ·intro hz
   unfold putF at hz
   rw [xab (xat c)] at hz
   by_cases c1:(erl t.Since l 0).Code=0
   ·rw [xab (xat c1)] at hz ⊢
    by_cases c2:60000<t.Log.Bytes.length+(frame (zon (putN t l))).length
    ·rw [xac c2] at hz; cases hz
    ·rw [xab c2] at hz ⊢
     have:ziv (zr1 t.Done (zee t++[putN t l])) (zhv t)=⟨0,0⟩:=by
      unfold ziv at hz ⊢
      split at hz
      ·cases hz
      ·split at hz
       ·cases hz
       ·rename_i q1 q2; rw [xab q1,xab q2]
     rw [this]
   ·rw [xac c1] at hz; exact absurd hz c1
 ·rw [xac (n_t c)]
  refine ⟨_,rfl,?_,fun hz=>?_⟩
  ·unfold putF; rw [xac c]
  ·unfold putF at hz
   rw [xac c] at hz; exact absurd hz c
theorem tput_eq (t:Tablet)(l:Cs):zlf t l=some (putS t l):=by
 have hp:∀ f:Fault,f.Code=f.Code:=fun _=>rfl
 unfold zlf zs6 putS
 rw [load_eq,zac]
 by_cases h1:(zic t).Code=0
 ·rw [loadS_ok h1]
  dsimp only [sm]
  by_cases h2:(ziv (zig t) (zhv t)).Code=0
  ·have hz:(zk0 t).Code=0:=by unfold zk0; rw [xab (xat h1)]; exact h2
   have hT:=zpd hz
   obtain ⟨x,hx,hx1,hx2⟩:=put1_eq t l hT
   rw [xab (n_f h2),hx,zac,xab (xat hz)]
   by_cases h3:(putF t l).Code=0
   ·have e:=hx2 h3
    subst e
    rw [xab (n_f rfl),own_eq _ (by
     show (t.Log.Bytes++frame (zon (putN t l))).length<=1000000
     have hn:NGood (putN t l):=by
      unfold putF at h3
      by_cases c:(zq0 (putN t l)).Code=0
      ·exact zrd c
      ·rw [xac c] at h3; exact absurd h3 c
     have:=encN_len hn
     have:=hT.log.len
     rw [xaa,zcs]; omega) (by show t.Files.length<=1000; have:=hT.few; omega) (fun b hb=>by have:=(hT.fil b hb).2; omega),zac,zac]
    dsimp only
    rw [xab (n_f rfl),xab (xat h3)]
   ·rw [xac (n_t (by rw [hx1]; exact h3)),zac]
    dsimp only
    rw [xac (n_t (by rw [hx1]; exact h3)),xac h3,hx1]; rfl
  ·have hf:zk0 t=ziv (zig t) (zhv t):=by unfold zk0; rw [xab (xat h1)]
   rw [xac (n_t h2),zac]
   dsimp only
   rw [xac (n_t h2),hf,xac h2]; rfl
 ·have hf:zk0 t=zic t:=by unfold zk0; rw [xac h1]
  rw [loadS_bad h1]
  dsimp only [sm]
  rw [xac (n_t h1),zac]
  dsimp only
  rw [xac (n_t h1),hf,xac h1]; rfl
theorem readS_back {b:B8}(h:(zjt b).2.Code=0):zft (zjt b).1=b:=by
 unfold zjt at h ⊢
 by_cases c:60000<b.length
 ·rw [xac c] at h; cases h
 ·rw [xab c] at h ⊢
  cases e:zqn rdC b.length b [] with
  | inr n=>rw [e] at h; cases h
  | inl l=>
   rw [e] at h
   simp only [rcS] at h ⊢
   by_cases c2:(zk1 l).Code=0
   ·rw [xac c2]
    obtain ⟨m,e1,e2⟩:=wrAll_rdAll (w:=wrC) (fun b x r h=>(rdC_some h).2) b.length b [] l (by omega) (fun b x r h=>(zsh (rdC_some h).1).2) e
    rw [xbk] at e1
    rw [e1,e2]; rfl
   ·rw [xab c2] at h; exact absurd h c2
theorem noteS_back {b:B8}(h:(zhh b).2.Code=0):zon (zhh b).1=b:=by
 unfold zhh at h ⊢
 by_cases c:60000<b.length
 ·rw [xac c] at h; cases h
 ·rw [xab c] at h ⊢
  cases e:rdN b with
  | none=>rw [e] at h; cases h
  | some q=>
   obtain ⟨n,r⟩:=q
   rw [e] at h
   dsimp only at h ⊢
   obtain ⟨e1,e2⟩:=zf6 e
   by_cases c2:(zjt r).2.Code=0
   ·rw [xac c2] at h ⊢
    have hb:=readS_back c2
    unfold noteR at h ⊢
    by_cases c3:(zq0 ⟨n,(zjt r).1⟩).Code=0
    ·rw [xac c3]
     unfold zon
     dsimp only
     rw [hb,xbe,e1]
    ·rw [xab c3] at h; exact absurd h c3
   ·rw [xab c2] at h; exact absurd h c2
def frm:List Note->B8
 | []=>[]
 | n::l=>frame (zon n)++frm l
theorem frm_app:∀ (a b:List Note),frm (a++b)=frm a++frm b
 | [],b=>rfl
 | n::a,b=>by rw [xbq,frm,frm,frm_app a b,xaf]
theorem nts_frm:∀ (l:B9) (acc:List Note) (g:Nat),(frm (nts acc g l).1).length+g=(frm acc).length+(nts acc g l).2
 | [],acc,g=>by rw [nts]
 | s::l,acc,g=>by
  rw [nts]
  by_cases c:(zhh s).2.Code=0/\nxt acc (zhh s).1
  ·rw [xac c]
   have ih:=nts_frm l (acc++[(zhh s).1]) (g+(s.length+6))
   have hb:=noteS_back c.1
   rw [frm_app,frm,frm,xa4,xaa,hb,zcs] at ih
   omega
  ·rw [xab c]
theorem frm_logd (b:B8):(frm (logd b).1).length=(logd b).2:=by
 have:=nts_frm (bodies b) [] 0
 unfold logd
 simp only [frm,xax] at this
 omega
theorem frm_filter (p:Note->Bool):∀ l:List Note,(frm (l.filter p)).length<=(frm l).length
 | []=>xae _
 | n::l=>by
  have:=frm_filter p l
  rw [List.filter_cons]
  split
  ·rw [frm,frm,xaa,xaa]; omega
  ·rw [frm,xaa]; omega
def sizF (size:Int):Fault:=if size<50\/4000<size then ⟨3,-1⟩ else ⟨0,0⟩
theorem sized_eq (size:Int):zfo size=sizF size:=by
 unfold zfo sizF
 by_cases c:size<50\/4000<size
 ·rw [xac (or_t c),xac c]; rfl
 ·rw [xab (or_f c),xab c]
noncomputable def flushF (t:Tablet)(size:Int):Fault:=
 if ¬ (sizF size).Code=0 then sizF size else if zeo t=t.Done then ⟨6,0⟩ else if t.Files.length=10 then ⟨2,-2⟩ else zl3 (zig t) size
noncomputable def flushS (t:Tablet)(size:Int):Tablet×Fault:=
 if ¬ (zk0 t).Code=0 then (T0,zk0 t)
 else if ¬ (flushF t size).Code=0 then (T0,flushF t size)
 else (⟨t.Log,ze2 (zig t) size::t.Files,zeo t,t.Since⟩,⟨0,0⟩)
theorem zqb {l:Cs}{size:Int}(h:(zl3 l size).Code=0):zl3 l size=⟨0,0⟩/\(ze2 l size).length<=60000/\Good l/\l.length<=500:=by
 unfold zl3 at h ⊢
 by_cases c1:(zk1 l).Code=0
 ·rw [xab (xat c1)] at h ⊢
  by_cases c2:500<l.length
  ·rw [xac c2] at h; cases h
  ·rw [xab c2] at h ⊢
   by_cases c3:size<50\/4000<size
   ·rw [xac c3] at h; cases h
   ·rw [xab c3] at h ⊢
    by_cases c4:60000<(ze2 l size).length
    ·rw [xac c4] at h; cases h
    ·rw [xab c4]; exact ⟨rfl,by omega,zl9 c1,by omega⟩
 ·rw [xac c1] at h; exact absurd h c1
theorem flush1_eq (t:Tablet)(size:Int)(h:TG t):∃ x,zhd t.Log.Bytes t.Log.Kept t.Files t.Done t.Since (zeo t) size t (zee t) (zig t) (zhv t)=some x/\x.1=flushF t size/\
  ((flushF t size).Code=0->x=(⟨0,0⟩,t.Log.Bytes,t.Log.Kept,ze2 (zig t) size::t.Files,zeo t,t.Since,zeo t,zig t)):=by
 have hfew:=h.few
 unfold zhd flushF
 rw [sized_eq]
 dsimp only [lt]
 by_cases c:(sizF size).Code=0
 ·rw [xab (n_f c),xab (xat c)]
  by_cases c1:zeo t=t.Done
  ·rw [xac (d_t c1),xac c1]
   exact ⟨_,rfl,rfl,fun h=>by cases h⟩
  ·rw [xab (d_f c1),xab c1]
   by_cases c2:t.Files.length=10
   ·rw [ifT ..,xac c2]
    exact ⟨_,rfl,rfl,fun h=>by cases h⟩
   ·rw [ifF ..,xab c2,make_eq,zac,zaa (by simp; omega)]
    refine ⟨_,rfl,?_,fun hz=>?_⟩
    ·unfold makeS
     by_cases c3:(zl3 (zig t) size).Code=0
     ·rw [xac c3,(zqb c3).1]
     ·rw [xab c3]
    ·unfold makeS
     rw [xac hz]; rfl
 ·rw [xac (n_t c),xac c]
  exact ⟨_,rfl,rfl,fun h=>absurd h c⟩
theorem flush_eq (t:Tablet)(size:Int):zi9 t size=some (flushS t size):=by
 unfold zi9 zmw flushS
 rw [load_eq,zac]
 by_cases h1:(zic t).Code=0
 ·rw [loadS_ok h1]
  dsimp only [sm]
  by_cases h2:(ziv (zig t) (zhv t)).Code=0
  ·have hz:(zk0 t).Code=0:=by unfold zk0; rw [xab (xat h1)]; exact h2
   have hT:=zpd hz
   obtain ⟨x,hx,hx1,hx2⟩:=flush1_eq t size hT
   rw [xab (n_f h2),hx,zac,xab (xat hz)]
   by_cases h3:(flushF t size).Code=0
   ·have e:=hx2 h3
    subst e
    have hmk:(zl3 (zig t) size).Code=0:=by
     unfold flushF at h3
     split at h3
     ·exact absurd h3 (by assumption)
     ·split at h3
      ·cases h3
      ·split at h3
       ·cases h3
       ·exact h3
    rw [xab (n_f rfl),own_eq _ (by show t.Log.Bytes.length<=1000000; have:=hT.log.len; omega) (by show (ze2 (zig t) size::t.Files).length<=1000; have:=hT.few; simp; omega) (fun b hb=>by
     rcases xap.1 hb with q | q
     ·rw [q]; have:=(zqb hmk).2.1; omega
     ·have:=(hT.fil b q).2; omega),zac,zac]
    dsimp only
    rw [xab (xat h3)]
   ·rw [xac (n_t (by rw [hx1]; exact h3)),zac,xac h3,hx1]; rfl
  ·have hf:zk0 t=ziv (zig t) (zhv t):=by unfold zk0; rw [xab (xat h1)]
   rw [xac (n_t h2),zac,hf,xac h2]; rfl
 ·have hf:zk0 t=zic t:=by unfold zk0; rw [xac h1]
  rw [loadS_bad h1]
  dsimp only [sm]
  rw [xac (n_t h1),zac,hf,xac h1]; rfl
noncomputable def cutB (t:Tablet):B8:=frm ((zee t).filter fun n=>decide (t.Done<n.Seq))
noncomputable def cutS (t:Tablet):Tablet×Fault:=
 if ¬ (zk0 t).Code=0 then (T0,zk0 t) else (⟨⟨cutB t,((cutB t).length:Int)⟩,t.Files,t.Done,t.Since⟩,⟨0,0⟩)
theorem wframe2_eq (n:Note)(h:NGood n)(row:B8)(hr:row.length<=1000000000):zm5 n row=some (row++frame (zon n)):=by
 have hl:=encN_len h
 unfold zm5
 rw [wbytes_eq n h,zac,addFrame_eq _ _ (by omega) hr,zac]
theorem frm_take_len (t:Tablet)(h:TG t)(k:Nat)(p:Note->Bool):(frm (((zee t).take k).filter p)).length<=60000:=by
 have h1:=frm_filter p ((zee t).take k)
 have h2:(frm ((zee t).take k)).length<=(frm (zee t)).length:=by
  have:frm (zee t)=frm ((zee t).take k)++frm ((zee t).drop k):=by rw [<- frm_app,xa1]
  rw [this,xaa]; omega
 have h3:=frm_logd t.Log.Bytes
 obtain ⟨l1,_,_⟩:=logd_le t.Log.Bytes
 have:=h.log.len
 unfold zee at h2 h1 ⊢
 omega
theorem cut1_eq (t:Tablet)(h:TG t):zqf t.Log.Bytes t.Log.Kept t.Files t.Done t.Since (zeo t) t (zee t) (zig t) (zhv t)=some (⟨0,0⟩,cutB t,((cutB t).length:Int),t.Files,t.Done,t.Since,zeo t,t):=by
 obtain ⟨l1,l2,l3⟩:=logd_le t.Log.Bytes
 have hlen:=h.log.len
 have hnl:(zee t).length<=60000:=by unfold zee; omega
 have key:∀ (m k:Nat),(zee t).length - k=m->k<=(zee t).length->zoq t.Files t.Done t.Since (zeo t) (zee t) (t,⟨0,0⟩,frm (((zee t).take k).filter fun n=>decide (t.Done<n.Seq)),(k:Int))=some (⟨0,0⟩,cutB t,((cutB t).length:Int),t.Files,t.Done,t.Since,zeo t,t):=by
  intro m
  induction m with
  | zero=>
   intro k e hk
   have:k=(zee t).length:=by omega
   subst this
   refine zah ?_
   unfold zk2 zlj
   dsimp only
   rw [ifF ..,xbg]; rfl
  | succ m ih=>
   intro k e hk
   have hkl:k<(zee t).length:=by omega
   have hw:w64 ((k:Int)+1)=((k+1:Nat):Int):=by rw [zai ..]; omega
   have hgn:=l3 _ (zcb (zee t) (k:Int) (by omega))
   have hfl:=frm_take_len t h k (fun n=>decide (t.Done<n.Seq))
   refine (zak ?_).trans (ih (k+1) (by omega) (by omega))
   unfold zk2
   dsimp only
   rw [ifT ..,zaa ..,zaa ..,hw,zdq (zee t) k hkl,xcu]
   by_cases c:t.Done<(zad (zee t) (k:Int)).Seq
   ·rw [xac (d_t c),show (⟨(zad (zee t) (k:Int)).Seq,(zad (zee t) (k:Int)).Cells⟩:Note)=zad (zee t) (k:Int) from rfl,wframe2_eq _ hgn _ (by omega),zac,zac,frm_app]
    have:[zad (zee t) (k:Int)].filter (fun n=>decide (t.Done<n.Seq))=[zad (zee t) (k:Int)]:=by simp [c]
    rw [this]
    simp [frm]
   ·rw [xab (d_f c),zac,frm_app]
    have:[zad (zee t) (k:Int)].filter (fun n=>decide (t.Done<n.Seq))=[]:=by simp [c]
    rw [this]
    simp [frm]
 exact key (zee t).length 0 (by omega) (by omega)
theorem cut_eq' (t:Tablet):zli t=some (cutS t):=by
 unfold zli zmy cutS
 rw [load_eq,zac]
 by_cases h1:(zic t).Code=0
 ·rw [loadS_ok h1]
  dsimp only [sm]
  by_cases h2:(ziv (zig t) (zhv t)).Code=0
  ·have hz:(zk0 t).Code=0:=by unfold zk0; rw [xab (xat h1)]; exact h2
   have hT:=zpd hz
   rw [xab (n_f h2),cut1_eq t hT,zac,xab (xat hz),xab (n_f rfl),own_eq _ (by
    show (cutB t).length<=1000000
    have:=frm_take_len t hT (zee t).length (fun n=>decide (t.Done<n.Seq))
    rw [xbg] at this
    unfold cutB; omega) (by show t.Files.length<=1000; have:=hT.few; omega) (fun b hb=>by have:=(hT.fil b hb).2; omega),zac,zac]
  ·have hf:zk0 t=ziv (zig t) (zhv t):=by unfold zk0; rw [xab (xat h1)]
   rw [xac (n_t h2),zac,hf,xac h2]; rfl
 ·have hf:zk0 t=zic t:=by unfold zk0; rw [xac h1]
  rw [loadS_bad h1]
  dsimp only [sm]
  rw [xac (n_t h1),zac,hf,xac h1]; rfl
structure Gw (l:Cs):Prop where
 len:l.length<=100000
 srt:l.Pairwise ah
theorem Gw.at {l:Cs}(h:Gw l){i j:Nat}(hij:i<j)(hj:j<l.length):ah (zad l (i:Int)) (zad l (j:Int)):=by
 rw [zbi l i (by omega),zbi l j hj]
 exact (List.pairwise_iff_getElem.1 h.srt) i j (by omega) hj hij
def pl (a b:Cell):Prop:=a.Row=b.Row/\a.Col=b.Col
theorem pl_between {x y z:Cell}(h1:ah x y)(h2:ah y z)(h:pl x z):pl x y:=by
 unfold ah pl at *
 obtain ⟨hr,hc⟩:=h
 rcases h1 with h1 | ⟨e1,h1⟩
 ·exfalso
  rcases h2 with h2 | ⟨e2,h2⟩
  ·have:=bl_trans h1 h2; rw [hr,zkv] at this; cases this
  ·rw [hr,e2,zkv] at h1; cases h1
 ·refine ⟨e1,?_⟩
  rcases h1 with h1 | ⟨f1,h1⟩
  ·exfalso
   rcases h2 with h2 | ⟨e2,h2⟩
   ·rw [<- e1,hr,zkv] at h2; cases h2
   ·rcases h2 with h2 | ⟨f2,h2⟩
    ·have:=bl_trans h1 h2; rw [hc,zkv] at this; cases this
    ·rw [hc,f2,zkv] at h1; cases h1
  ·exact f1
theorem Gw.inj {l:Cs}(hg:Gw l){i j:Nat}(hi:i<l.length)(hj:j<l.length)(h:zad l (i:Int)=zad l (j:Int)):i=j:=by
 by_cases h1:i<j
 ·have:=hg.at h1 hj; rw [h] at this; exact absurd this (ah_irr _)
 ·by_cases h2:j<i
  ·have:=hg.at h2 hi; rw [h] at this; exact absurd this (ah_irr _)
  ·omega
theorem filter_succ {α:Type}[Inhabited α](p:α->Bool)(l:List α)(k:Nat)(hk:k<l.length):(l.take (k+1)).filter p=(l.take k).filter p++(if p (zad l (k:Int))=true then [zad l (k:Int)] else []):=by
 rw [zdq l k hk,xcu]
 congr 1
 by_cases h:p (zad l (k:Int))=true <;> simp [h]
theorem filT_len {t:Tablet}(h:TG t):(zhv t).length<=1000/\(zhv t).flatten.length<=1000000000:=by
 have h1:=fil_flat t.Files
 have h2:=h.few
 unfold zhv
 exact ⟨by simp; omega,by omega⟩
theorem vastT_run (t:Tablet)(hl:t.Files.length<=140737488351232):∃ b,zh4 t=some b/\(b=false->t.Files.length<=100):=by
 have key:∀ (m k:Nat) (v:Int),t.Files.length - k=m->k<=t.Files.length->∃ b,zg6 (t,v,(k:Int))=some b/\(b=false->t.Files.length<=100):=by
  intro m
  induction m with
  | zero=>
   intro k v e hk
   refine ⟨(decide (20000<v))||(decide (100<(t.Files.length:Int))),zah ?_,fun h=>?_⟩
   ·unfold zfr zhb
    dsimp only
    rw [ifF ..]; rfl
   ·simp only [xb4,xbi] at h
    omega
  | succ m ih=>
   intro k v e hk
   obtain ⟨b,h1,h2⟩:=ih (k+1) (w64 (v+((zad t.Files (k:Int)).length:Int))) (by omega) (by omega)
   refine ⟨b,(zak ?_).trans h1,h2⟩
   unfold zfr
   dsimp only
   have:w64 ((k:Int)+1)=((k+1:Nat):Int):=by rw [zai ..]; omega
   rw [ifT ..,zaa ..,this]
 exact key t.Files.length 0 _ (by omega) (by omega)
theorem lset_midT {α:Type}(a:List α)(x y:α)(b:List α):zem (a++x::b) (a.length:Int) y=a++y::b:=by
 unfold zem
 rw [xbe,List.set_append_right _ _ (xae _),Nat.sub_self,List.set_cons_zero]
theorem tdel_loop (fr to:B8)(l:Cs)(hl:l.length<=100000):∀ (m j:Nat) (X mid:Cs),j+m=l.length->X=(l.take j).filter (fun x=>!zaq x fr to)++mid++l.drop j->mid.length=j - ((l.take j).filter (fun x=>!zaq x fr to)).length->mid≠[]->
  zbf fr to (X,(((l.take j).filter (fun x=>!zaq x fr to)).length:Int),(j:Int))=some (l.filter (fun x=>!zaq x fr to)):=by
 intro m
 induction m with
 | zero=>
  intro j X mid hj hX hm hne
  have hjl:j=l.length:=by omega
  subst hjl
  rw [xbg] at hX hm ⊢
  rw [xbw,xa4] at hX
  have hXl:X.length=l.length:=by
   rw [hX,xaa,hm]
   have:=xcv (fun x=>!zaq x fr to) l
   omega
  obtain ⟨K,hK⟩:∃ K,K=l.filter (fun x=>!zaq x fr to):=⟨_,rfl⟩
  rw [<- hK] at hX hm ⊢
  have hKl:K.length<=l.length:=by rw [hK]; exact xcv _ _
  refine zah ?_
  unfold za3
  dsimp only
  rw [ifF ..]
  unfold zb4
  dsimp only [lt]
  have hcl:(zo3 X (K.length:Int).toNat (X.length - (K.length:Int).toNat) ((⟨([]:B8),([]:B8),0,false,([]:B8)⟩:Cell):Cell)).length=X.length:=by
   unfold zo3; simp; omega
  have htk:(zo3 X (K.length:Int).toNat (X.length - (K.length:Int).toNat) ((⟨([]:B8),([]:B8),0,false,([]:B8)⟩:Cell):Cell)).take (K.length:Int).toNat=K:=by
   unfold zo3
   rw [xbe,xaf,List.take_left' (by rw [xal]; omega),hX,List.take_left' rfl]
  rw [zaa ..,zaa (by rw [hcl]; omega),zaa (by rw [hcl]; omega),htk]
  rfl
 | succ m ih=>
  intro j X mid hj hX hm hne
  have hjl:j<l.length:=by omega
  have hw:w64 ((j:Int)+1)=((j+1:Nat):Int):=by rw [zai ..]; omega
  have hfl:((l.take j).filter (fun x=>!zaq x fr to)).length<=j:=xce (xcv _ _) (by simp; omega)
  have htk:=zdq l j hjl
  obtain ⟨K,hK⟩:∃ K,K=(l.take j).filter (fun x=>!zaq x fr to):=⟨_,rfl⟩
  rw [<- hK] at hX hm hfl ⊢
  have hXl:X.length=l.length:=by rw [hX,xaa,xaa,hm,xa7]; omega
  have hXj:zad X (j:Int)=zad l (j:Int):=by
   rw [hX,zre _ _ _ (by rw [xaa,hm]; omega)]
   have:=zro l (j:Int) ((j:Int) - ((K++mid).length:Int)) (by rw [xaa,hm]; omega)
   rw [zb8] at this
   rw [this]
   congr 1
   rw [xaa,hm]; omega
  have hw2:w64 ((K.length:Int)+1)=((K.length+1:Nat):Int):=by rw [zai ..]; omega
  have hb:∀ Y i,za3 fr to (X,(K.length:Int),(j:Int))=some (.inl (Y,i,((j+1:Nat):Int)))->zbf fr to (Y,i,((j+1:Nat):Int))=some (l.filter (fun x=>!zaq x fr to))->zbf fr to (X,(K.length:Int),(j:Int))=some (l.filter (fun x=>!zaq x fr to)):=
   fun Y i h1 h2=>(zak h1).trans h2
  have hB:za3 fr to (X,(K.length:Int),(j:Int))=some (.inl (if zaq (zad l (j:Int)) fr to=true then (X,(K.length:Int),((j+1:Nat):Int)) else (zem X (K.length:Int) (zad l (j:Int)),((K.length+1:Nat):Int),((j+1:Nat):Int)))):=by
   unfold za3
   dsimp only
   rw [ifT ..,zaa ..,zaa ..,zby,hXj]
   dsimp only [lt]
   rw [hw,hw2,zaa ..,zaa ..]
   cases hq:zaq (zad l (j:Int)) fr to with
   | true=>rw [xab (by decide),zac,xac rfl]
   | false=>rw [xac (by decide),zac,xab (by decide)]
  have hd:l.drop j=zad l (j:Int)::l.drop (j+1):=zct l j hjl
  cases hq:zaq (zad l (j:Int)) fr to with
  | true=>
   rw [hq,xac rfl] at hB
   have e:(l.take (j+1)).filter (fun x=>!zaq x fr to)=K:=by rw [htk,xcu,<- hK]; simp [hq]
   refine hb _ _ hB ?_
   have:=ih (j+1) X (mid++[zad l (j:Int)]) (by omega) (by rw [e,hX,hd]; simp) (by rw [e,xaa,hm]; simp; omega) (by simp)
   rw [e] at this; exact this
  | false=>
   rw [hq,xab (by decide)] at hB
   have e:(l.take (j+1)).filter (fun x=>!zaq x fr to)=K++[zad l (j:Int)]:=by rw [htk,xcu,<- hK]; simp [hq]
   refine hb _ _ hB ?_
   obtain ⟨m0,mid',rfl⟩:∃ m0 mid',mid=m0::mid':=by
    cases mid with
    | nil=>exact absurd rfl hne
    | cons a b=>exact ⟨a,b,rfl⟩
   have hset:zem X (K.length:Int) (zad l (j:Int))=K++zad l (j:Int)::(mid'++l.drop j):=by
    rw [hX,xaf,xbq]
    exact lset_midT _ _ _ _
   have:=ih (j+1) (zem X (K.length:Int) (zad l (j:Int))) (mid'++[zad l (j:Int)]) (by omega) (by rw [e,hset,hd]; simp) (by
    rw [e,xaa,xaa]
    simp at hm ⊢; omega) (by simp)
   rw [e,xaa,xan] at this
   exact this
theorem tdelf_eq (fr to:B8)(l:Cs)(hl:l.length<=100000):zbk fr to l=some (l.filter (fun x=>!zaq x fr to)):=by
 unfold zbk zcp
 have:=loop_first (step:=fun y=>zax fr to l y) l.length (fun j=>(j:Int)) (fun j=>zaq (zad l (j:Int)) fr to=true) (fun j=>(j:Int)) (r:=-1)
  (fun j hj hb=>by
   have hw:w64 ((j:Int)+1)=((j+1:Nat):Int):=by rw [zai ..]; omega
   show zax fr to l (j:Int)=_
   unfold zax
   rw [ifT ..,zaa ..,zaa ..,zby]
   dsimp only [lt]
   rw [xab hb,hw])
  (fun j hj hb=>by
   show zax fr to l (j:Int)=_
   unfold zax
   rw [ifT ..,zaa ..,zaa ..,zby]
   dsimp only [lt]
   rw [xac hb])
  (by
   show zax fr to l (l.length:Int)=_
   unfold zax
   rw [ifF ..]; rfl)
 rcases this with ⟨j,h1,h2,h3,h4⟩ | ⟨h1,h4⟩
 ·have h4':zca fr to l 0=some (j:Int):=h4
  have hw:w64 ((j:Int)+1)=((j+1:Nat):Int):=by rw [zai ..]; omega
  rw [h4',zac,ifF ..,hw]
  have e0:(l.take j).filter (fun x=>!zaq x fr to)=l.take j:=by
   rw [xey]
   intro x hx
   obtain ⟨i,hi,e⟩:=(mem_take_lget (by omega)).1 hx
   have:=h3 i hi
   rw [e] at this
   simpa using this
  have e:(l.take (j+1)).filter (fun x=>!zaq x fr to)=l.take j:=by
   rw [zdq l j h1,xcu,e0]; simp [h2]
  have hj:(l.take j).length=j:=by rw [xal]; omega
  have:=tdel_loop fr to l hl (l.length - (j+1)) (j+1) l [zad l (j:Int)] (by omega) (by
   rw [e,<- zdq l j h1,xa1]) (by rw [e,hj]; simp) (by simp)
  rw [e,hj] at this
  exact this
 ·have h4':zca fr to l 0=some (-1):=h4
  rw [h4',zac,xac (d_t rfl)]
  congr 1
  symm
  rw [xey]
  exact all_lget.2 fun j hj=>by have:=h1 j hj; simpa using this
noncomputable def zq4 (t:Tablet)(fr to:B8):Cs:=(allT t).filter (fun x=>!zaq x fr to)
open Classical in
noncomputable def partF (t:Tablet)(fr to:B8)(size:Int):Fault:=
 if ¬ (sizF size).Code=0 then sizF size else if (zq4 t fr to).length=0 then ⟨0,0⟩ else zl3 (zq4 t fr to) size
noncomputable def partT (t:Tablet)(fr to:B8)(size:Int):Tablet:=⟨⟨[],0⟩,if (zq4 t fr to).length=0 then [] else [ze2 (zq4 t fr to) size],zeo t,t.Since⟩
noncomputable def zq7 (t:Tablet)(fr to:B8)(size:Int):Tablet×Fault:=
 if ¬ (zk0 t).Code=0 then (T0,zk0 t)
 else if ¬ (partF t fr to size).Code=0 then (T0,partF t fr to size)
 else (partT t fr to size,⟨0,0⟩)
theorem part1_eq (t:Tablet)(fr to:B8)(size:Int)(h:TG t):∃ x,zh2 t.Log.Bytes t.Log.Kept t.Files t.Done t.Since (zeo t) size fr to t (zee t) (zig t) (zhv t)=some x/\x.1=partF t fr to size/\
  ((partF t fr to size).Code=0->x=(⟨0,0⟩,[],0,(partT t fr to size).Files,zeo t,t.Since,zeo t,zig t)):=by
 obtain ⟨f1,f2⟩:=filT_len h
 have hal:=h.all
 unfold zh2 partF
 rw [sized_eq]
 dsimp only [lt]
 by_cases c:(sizF size).Code=0
 ·rw [xab (n_f c),xab (xat c),all_eq _ _ _ _ _ _ _ _ _ (by have:=h.mem; omega) f1 f2,zac]
  dsimp only
  rw [show allS (zig t) (zhv t)=allT t from rfl,tdelf_eq fr to (allT t) (by omega),zac,show (allT t).filter (fun x=>!zaq x fr to)=zq4 t fr to from rfl]
  by_cases c1:(zq4 t fr to).length=0
  ·rw [ifT ..,xac c1]
   exact ⟨_,rfl,rfl,fun _=>by unfold partT; rw [xac c1]⟩
  ·rw [ifF ..,xab c1,make_eq,zac]
   refine ⟨_,rfl,?_,fun hz=>?_⟩
   ·unfold makeS
    by_cases c3:(zl3 (zq4 t fr to) size).Code=0
    ·rw [xac c3,(zqb c3).1]
    ·rw [xab c3]
   ·unfold makeS partT
    rw [xac hz,xab c1]
 ·rw [xac (n_t c),xac c]
  exact ⟨_,rfl,rfl,fun h=>absurd h c⟩
theorem part_eq (t:Tablet)(fr to:B8)(size:Int):tablet_Part t fr to size=some ((zq7 t fr to size).1.Log.Bytes,(zq7 t fr to size).1.Log.Kept,(zq7 t fr to size).1.Files,(zq7 t fr to size).1.Done,(zq7 t fr to size).1.Since,(zq7 t fr to size).2):=by
 unfold tablet_Part zia zq7
 rw [load_eq,zac]
 by_cases h1:(zic t).Code=0
 ·rw [loadS_ok h1]
  dsimp only [sm]
  by_cases h2:(ziv (zig t) (zhv t)).Code=0
  ·have hz:(zk0 t).Code=0:=by unfold zk0; rw [xab (xat h1)]; exact h2
   have hT:=zpd hz
   obtain ⟨x,hx,hx1,hx2⟩:=part1_eq t fr to size hT
   rw [xab (n_f h2),hx,zac,xab (xat hz)]
   by_cases h3:(partF t fr to size).Code=0
   ·have e:=hx2 h3
    subst e
    have hfl:(partT t fr to size).Files.length<=1000/\∀ b∈(partT t fr to size).Files,b.length<=1000000:=by
     unfold partT
     by_cases c1:(zq4 t fr to).length=0
     ·rw [xac c1]; exact ⟨by simp,fun b hb=>by cases hb⟩
     ·rw [xab c1]
      have hmk:(zl3 (zq4 t fr to) size).Code=0:=by
       unfold partF at h3
       split at h3
       ·exact absurd h3 (by assumption)
       ·first
        | exact h3
        | (rw [xab c1] at h3; exact h3)
      exact ⟨by simp,fun b hb=>by rw [xau.1 hb]; have:=(zqb hmk).2.1; omega⟩
    have ho:=own_eq (⟨⟨[],0⟩,(partT t fr to size).Files,zeo t,t.Since⟩:Tablet) (by simp) hfl.1 hfl.2
    rw [xab (n_f rfl)]
    dsimp only
    rw [ho,zac,zac]
    dsimp only
    rw [xab (xat h3)]; rfl
   ·rw [xac (n_t (by rw [hx1]; exact h3)),zac,xac h3,hx1]; rfl
  ·have hf:zk0 t=ziv (zig t) (zhv t):=by unfold zk0; rw [xab (xat h1)]
   rw [xac (n_t h2),zac,hf,xac h2]; rfl
 ·have hf:zk0 t=zic t:=by unfold zk0; rw [xac h1]
  rw [loadS_bad h1]
  dsimp only [sm]
  rw [xac (n_t h1),zac,hf,xac h1]; rfl
theorem encN_len' {n:Note}(h:NGood n):(zon n).length<=7000:=by
 have h1:=h.lo
 have h2:=h.hi
 have h3:=h.len
 have h5:=zie (n:=n.Seq.toNat) (by omega)
 have h6:=encC_len n.Cells h.cells.code
 unfold zon
 rw [xaa]; omega
theorem readS_enc {l:Cs}(hg:Good l)(hl:l.length<=20):zjt (zft l)=(l,⟨0,0⟩):=by
 have h6:=encC_len l hg.code
 have:=rdAll_wrAll (f:=rdC) (w:=wrC) (fun x=>za1 x=0) (fun x r h=>rdC_wrC h r) (fun x h=>(zsh h).2) l (zft l).length [] hg.code (xae _)
 have e:zqn rdC (zft l).length (zft l) [] = .inl l:=by simpa [zft] using this
 unfold zjt
 rw [xab (by omega),e]
 unfold rcS
 dsimp only
 rw [hg.f]
 rfl
theorem noteS_enc {n:Note}(h:NGood n):zhh (zon n)=(n,⟨0,0⟩):=by
 have hl:=encN_len' h
 have h1:=h.lo
 have h2:=h.hi
 have e:((n.Seq.toNat:Nat):Int)=n.Seq:=by omega
 unfold zhh
 rw [xab (by omega)]
 unfold zon
 rw [rdN_num (by omega)]
 dsimp only
 rw [readS_enc h.cells h.len,e,xac rfl,note_eta]
 unfold noteR
 rw [h.f,xac rfl]
def seqs (a:Int)(ns:List Note):Prop:=∀ k:Nat,k<ns.length->(zad ns (k:Int)).Seq=a+k
def encL (ns:List Note):B8:=zjp (ns.map zon)
theorem encL_cons (n:Note)(l:List Note):encL (n::l)=frame (zon n)++encL l:=by unfold encL; rw [xbr,zgj]
theorem encL_one (n:Note):encL [n]=frame (zon n):=by rw [encL_cons]; simp [encL,zjp,zi5]
theorem seqs_take {a:Int}{ns:List Note}(h:seqs a ns)(w:Nat):seqs a (ns.take w):=by
 intro k hk
 rw [xal] at hk
 have e:zad (ns.take w) (k:Int)=zad ns (k:Int):=by
  have:=zml ns (w:Int) (k:Int) (by omega)
  rwa [zde] at this
 rw [e]; exact h k (by omega)
theorem nts_run (a:Int):∀ (ms acc:List Note) (g:Nat),(∀ n∈acc++ms,NGood n)->seqs a (acc++ms)->nts acc g (ms.map zon)=(acc++ms,g+(encL ms).length)
 | [],acc,g,_,_=>by simp [nts,encL,zjp,zi5]
 | m::ms,acc,g,hg,hs=>by
  have hm:=hg m (by simp)
  have hx:nxt acc m:=by
   by_cases c:acc.length=0
   ·exact .inl c
   ·right
    have h1:=hs acc.length (by simp)
    have h2:=hs (acc.length - 1) (by simp; omega)
    rw [zre _ _ _ (by omega),Int.sub_self] at h1
    rw [lget_app_l _ _ _ (by omega)] at h2
    have e:((acc.length - 1:Nat):Int)=(acc.length:Int) - 1:=by omega
    rw [e] at h2
    have h1:m.Seq=a+acc.length:=h1
    unfold lastN
    rw [h2,h1]; omega
  rw [xbr,nts,noteS_enc hm,xac ⟨rfl,hx⟩]
  dsimp only
  rw [nts_run a ms (acc++[m]) _ (by simpa using hg) (by simpa using hs),encL_cons,xaa,zcs]
  simp; omega
theorem wh_ge:∀ (l:B9) (c s:Nat),s<=l.length->(zjp (l.take s)).length<=c->s<=wh l c
 | _,_,0,_,_=>xa2 _
 | [],_,s+1,h,_=>by simp at h
 | x::l,c,s+1,h,hc=>by
  rw [xci,zgj,xaa,zcs] at hc
  rw [wh,xac (by omega)]
  have:=wh_ge l (c - (x.length+6)) s (by simpa using h) (by omega)
  omega
theorem encF_take_le (l:B9)(w:Nat):(zjp (l.take w)).length<=(zjp l).length:=by
 have e:zjp l=zjp (l.take w)++zjp (l.drop w):=by
  unfold zjp zi5
  rw [<- xex,xa1]
 rw [e,xaa]; omega
theorem logd_cut {a:Int}{ns:List Note}(hg:∀ n∈ns,NGood n)(hs:seqs a ns)(c:Nat) :
  logd ((encL ns).take c)=(ns.take (wh (ns.map zon) c),(encL (ns.take (wh (ns.map zon) c))).length):=by
 have hl:∀ s∈ns.map zon,s.length<=65535:=by
  intro s h
  obtain ⟨n,hn,rfl⟩:=xb8.1 h
  have:=encN_len' (hg n hn)
  omega
 have e:=opn_cut (ns.map zon) c ((encL ns).take c).length [] 0 hl (xae _)
 unfold logd bodies
 have e2:(opn ((encL ns).take c).length ((encL ns).take c) [] 0).1=(ns.take (wh (ns.map zon) c)).map zon:=by
  have:opn ((encL ns).take c).length ((encL ns).take c) [] 0=_:=e
  rw [this,xbk,xcz]
 rw [e2,nts_run a _ [] 0 (fun n hn=>hg n (xbp (by simpa using hn))) (by rw [xbk]; exact seqs_take hs _)]
 simp
theorem logd_enc {a:Int}{ns:List Note}(hg:∀ n∈ns,NGood n)(hs:seqs a ns):logd (encL ns)=(ns,(encL ns).length):=by
 have h:=logd_cut hg hs (encL ns).length
 have hw:wh (ns.map zon) (encL ns).length=ns.length:=by
  have h1:=wh_le (ns.map zon) (encL ns).length
  have h2:=wh_ge (ns.map zon) (encL ns).length ns.length (by simp) (by unfold encL; exact encF_take_le _ _)
  rw [xao] at h1; omega
 rw [xbg,hw,xbg] at h
 exact h
theorem fileB_small {l:Cs}(hg:∀ c∈l,za1 c=0)(hl:l.length<=1000)(size:Int):(ze2 l size).length<=367*l.length+13:=by
 obtain ⟨h1,h2,h3,h4,h5,h6,h7⟩:=blk_bd hg hl size l.length (xae _)
 have hN:=zqm l
 have hfl:(filF l).length<=l.length+1:=by unfold filF; rw [zei]; omega
 unfold ze2 zcg
 rw [zn9,zgj,zr7,xaa,xaa,zcs,zcs]
 omega
def c1:Cell:=⟨[114],[99],7,false,[97]⟩
theorem one_cells:law_oneNote.Cells=[c1]:=rfl
theorem one_good:NGood law_oneNote:=zrd (by rw [note1F])
theorem c1_good:Good [c1]:=one_good.cells
theorem firsts_c1:firsts [c1]=[c1]:=zmv c1_good.srt
theorem firsts_nil':firsts ([]:Cs)=[]:=zmv (l:=[]) .nil
theorem mem_none (d:Int):zr1 d []=[]:=by
 unfold zr1
 rw [show abv d []=[] from rfl,show allC []=[] from rfl,firsts_nil']
theorem mem_one:zr1 0 [law_oneNote]=[c1]:=by
 unfold zr1
 have:abv 0 [law_oneNote]=[law_oneNote]:=by rw [abv,xac (by decide)]
 rw [this]
 have:allC [law_oneNote]=[c1]:=by simp [allC,one_cells]
 rw [this,firsts_c1]
theorem mem_one1:zr1 1 [law_oneNote]=[]:=by
 unfold zr1
 have:abv 1 [law_oneNote]=[]:=by rw [abv,xab (by decide)]; rfl
 rw [this,show allC []=[] from rfl,firsts_nil']
theorem logd_none:logd []=([],0):=by
 have:=logd_enc (a:=0) (ns:=[]) (fun n h=>by cases h) (fun k h=>by simp at h)
 simpa [encL,zjp,zi5] using this
theorem logd_one:logd (frame (zon law_oneNote))=([law_oneNote],(frame (zon law_oneNote)).length):=by
 have:=logd_enc (a:=1) (ns:=[law_oneNote]) (fun n h=>by rw [xau.1 h]; exact one_good) (fun k h=>by
  have:k=0:=by simp at h; omega
  subst this; rfl)
 rwa [encL_one] at this
theorem enc_one_len:(frame (zon law_oneNote)).length<=7006:=by
 have:=encN_len one_good
 rw [zcs]; omega
noncomputable def t1:Tablet:=⟨⟨frame (zon law_oneNote),0⟩,[],0,0⟩
noncomputable def t2:Tablet:=⟨⟨frame (zon law_oneNote),0⟩,[ze2 [c1] 50],1,0⟩
theorem fill_small {a:Cs}{b:List Cs}(h1:a.length<=500)(h2:(allS a b).length<=1000):ziv a b=⟨0,0⟩:=by
 unfold ziv
 rw [xab (by omega),xab (by omega)]
theorem allS_small (a:Cs)(b:List Cs)(h:a.length+b.flatten.length<=1000):(allS a b).length<=1000:=by
 have:=zmo (a++b.flatten)
 rw [xaa] at this
 unfold allS; omega
theorem T0_log:zee T0=[]:=by unfold zee; rw [show T0.Log.Bytes=[] from rfl,logd_none]
theorem T0_ok:zk0 T0=⟨0,0⟩:=by
 have hh:zic T0=⟨0,0⟩:=by
  unfold zic
  have hb:¬ badT T0:=by
   unfold badT
   rw [T0_log,show T0.Log.Bytes=[] from rfl,logd_none]
   simp
  rw [xab (by simp [T0]),xab (by simp [T0]),xab (by simp [T0,dF]),xab hb]; rfl
 unfold zk0
 rw [hh,xab (by simp)]
 refine fill_small ?_ (allS_small _ _ ?_)
 ·unfold zig; rw [T0_log,mem_none]; simp
 ·unfold zig zhv; rw [T0_log,mem_none]; simp [T0]
theorem put_one:putS T0 law_oneNote.Cells=(t1,1,⟨0,0⟩):=by
 have hl:zeo T0=0:=by unfold zeo; rw [T0_log,xab (by simp)]; rfl
 have hn:putN T0 law_oneNote.Cells=law_oneNote:=by unfold putN; rw [hl]; rfl
 have he:erl T0.Since law_oneNote.Cells 0=⟨0,0⟩:=by
  rw [one_cells,erl,xab (by decide)]; rfl
 have hf:putF T0 law_oneNote.Cells=⟨0,0⟩:=by
  unfold putF
  have hlen:=enc_one_len
  rw [hn,note1F,xab (by simp),he,xab (by simp),xab (by show ¬ 60000<0+_; omega),T0_log]
  show ziv (zr1 0 [law_oneNote]) _=_
  rw [mem_one]
  exact fill_small (by simp) (allS_small _ _ (by simp [zhv,T0]))
 unfold putS
 rw [T0_ok,xab (by simp),hf,xab (by simp),hn,hl]; rfl
theorem t1_log:zee t1=[law_oneNote]:=by unfold zee; rw [show t1.Log.Bytes=frame (zon law_oneNote) from rfl,logd_one]
theorem t1_ok:zk0 t1=⟨0,0⟩:=by
 have hlen:=enc_one_len
 have hh:zic t1=⟨0,0⟩:=by
  unfold zic
  have hb:¬ badT t1:=by
   unfold badT
   rw [t1_log,show t1.Log.Bytes=frame (zon law_oneNote) from rfl,logd_one]
   rintro (h | ⟨_,h⟩)
   ·exact h rfl
   ·revert h; decide
  have hd:dF t1.Log=⟨0,0⟩:=dF_zero ⟨by show (frame (zon law_oneNote)).length<=60000; omega,xd2 0,by show (0:Int)<=((frame (zon law_oneNote)).length:Int); omega⟩
  rw [xab (by simp [t1]),xab (by simp [t1]),xab (by rw [hd]; simp),xab hb]; rfl
 unfold zk0
 rw [hh,xab (by simp)]
 refine fill_small ?_ (allS_small _ _ ?_)
 ·unfold zig; rw [t1_log,show t1.Done=0 from rfl,mem_one]; simp
 ·unfold zig zhv; rw [t1_log,show t1.Done=0 from rfl,mem_one]; simp [t1]
theorem c1_file:(ze2 [c1] 50).length<=60000:=by
 have:=fileB_small c1_good.code (by simp) 50
 simp only [xan] at this
 omega
theorem flush_one:flushS t1 50=(t2,⟨0,0⟩):=by
 have hm:zig t1=[c1]:=by unfold zig; rw [t1_log,show t1.Done=0 from rfl,mem_one]
 have hl:zeo t1=1:=by unfold zeo; rw [t1_log,xac (by simp)]; rfl
 have hk:zl3 [c1] 50=⟨0,0⟩:=by
  unfold zl3
  have:=c1_file
  rw [xab (xat (by rw [c1_good.f])),xab (by simp),xab (by decide),xab (by omega)]
 have hf:flushF t1 50=⟨0,0⟩:=by
  unfold flushF
  rw [xab (xat (by decide)),hl,xab (by decide),xab (by decide),hm,hk]
 unfold flushS
 rw [t1_ok,xab (by simp),hf,xab (by simp),hl,hm]; rfl
theorem t2_log:zee t2=[law_oneNote]:=by unfold zee; rw [show t2.Log.Bytes=frame (zon law_oneNote) from rfl,logd_one]
theorem file_one:(zke (ze2 [c1] 50)).1=[c1]/\(zke (ze2 [c1] 50)).2.2=⟨0,0⟩:=by
 have h1:=open_any (ze2 [c1] 50)
 have h2:=open_made c1_good 50 c1_file (by simp)
 rw [h1] at h2
 simp only [Option.some.injEq,Prod.mk.injEq] at h2
 exact h2
theorem t2_ok:zk0 t2=⟨0,0⟩:=by
 have hlen:=enc_one_len
 have hh:zic t2=⟨0,0⟩:=by
  unfold zic
  have hb:¬ badT t2:=by
   unfold badT
   rw [t2_log,show t2.Log.Bytes=frame (zon law_oneNote) from rfl,logd_one]
   rintro (h | ⟨_,h⟩)
   ·exact h rfl
   ·revert h; show ¬ ((1:Int)+1<law_oneNote.Seq\/law_oneNote.Seq<1); decide
  have hd:dF t2.Log=⟨0,0⟩:=dF_zero ⟨by show (frame (zon law_oneNote)).length<=60000; omega,xd2 0,by show (0:Int)<=((frame (zon law_oneNote)).length:Int); omega⟩
  rw [xab (by simp [t2]),xab (by simp [t2]),xab (by rw [hd]; simp),xab hb]
  show ldF [ze2 [c1] 50] 0=_
  rw [ldF,xac (by rw [file_one.2])]; rfl
 unfold zk0
 rw [hh,xab (by simp)]
 refine fill_small ?_ (allS_small _ _ ?_)
 ·unfold zig; rw [t2_log,show t2.Done=1 from rfl,mem_one1]; simp
 ·unfold zig zhv; rw [t2_log,show t2.Done=1 from rfl,mem_one1]; simp [t2,file_one.1]
theorem cut_one:cutS t2=(⟨⟨[],0⟩,[ze2 [c1] 50],1,0⟩,⟨0,0⟩):=by
 have hb:cutB t2=[]:=by
  unfold cutB
  rw [t2_log,show t2.Done=1 from rfl]
  have:[law_oneNote].filter (fun n=>decide (1<n.Seq))=[]:=by decide
  rw [this]; rfl
 unfold cutS
 rw [t2_ok,xab (by simp),hb]; rfl
theorem tabBegun:zix=some true:=by
 unfold zix
 dsimp only [lt]
 rw [show (⟨(⟨([]:B8),0⟩:Disk),([]:B9),0,0⟩:Tablet)=T0 from rfl,tput_eq,zac,put_one]
 dsimp only
 rw [flush_eq,zac,flush_one]
 dsimp only
 rw [cut_eq',zac,cut_one]
 dsimp only
 rw [zaa (fun _=>by simp),xac (by simp),one_cells,rfile_eq c1_good.code (by simp) 50,zac]
 simp [zl1,zad]
def up (a b:Note):Prop:=a.Seq<b.Seq
theorem lastN_app (l:List Note)(m:Note):lastN (l++[m])=m:=by
 unfold lastN
 have:(((l++[m]).length:Nat):Int) - 1=(l.length:Int):=by simp
 rw [this,zbi _ l.length (by simp)]; simp
theorem nts_up:∀ (l:B9) (acc:List Note) (g:Nat),acc.Pairwise up->(∀ n∈acc,n.Seq<=(lastN acc).Seq)->(nts acc g l).1.Pairwise up/\∀ n∈(nts acc g l).1,n.Seq<=(lastN (nts acc g l).1).Seq
 | [],acc,g,h1,h2=>⟨h1,h2⟩
 | s::l,acc,g,h1,h2=>by
  rw [nts]
  split
  ·rename_i c
   have hlt:∀ n∈acc,n.Seq<(zhh s).1.Seq:=fun n hn=>by
    rcases c.2 with q | q
    ·rw [xag q] at hn; cases hn
    ·have:=h2 n hn; omega
   refine nts_up l _ _ ?_ ?_
   ·rw [xa6]
    exact ⟨h1,xdp ..,fun a ha b hb=>by rw [xau] at hb; subst hb; exact hlt a ha⟩
   ·intro n hn
    rw [lastN_app]
    rcases xar.1 hn with q | q
    ·exact Int.le_of_lt (hlt n q)
    ·rw [xau] at q; subst q; exact xd2 _
  ·exact ⟨h1,h2⟩
theorem logd_up (b:B8):(logd b).1.Pairwise up:=(nts_up (bodies b) [] 0 .nil (by simp)).1
theorem abv_filter (done:Int):∀ l:List Note,l.Pairwise up->abv done l=l.filter fun n=>decide (done<n.Seq)
 | [],_=>rfl
 | n::l,h=>by
  obtain ⟨h1,h2⟩:=xbh.1 h
  rw [abv]
  by_cases c:done<n.Seq
  ·rw [xac c,List.filter_cons_of_pos (by simpa using c)]
   congr 1
   exact (xey.2 fun m hm=>by have:n.Seq<m.Seq:=h1 m hm; simp; omega).symm
  ·rw [xab c,List.filter_cons_of_neg (by simpa using c)]
   exact abv_filter done l h2
theorem above_eq (l:List Note)(done:Int)(hl:l.length<=1000000):R_Above l done=some (l.filter fun n=>decide (done<n.Seq)):=by
 have key:∀ (m k:Nat),l.length - k=m->k<=l.length->R_Above_L1 l done ((l.take k).filter (fun n=>decide (done<n.Seq)),(k:Int))=some (l.filter fun n=>decide (done<n.Seq)):=by
  intro m
  induction m with
  | zero=>
   intro k e hk
   have:k=l.length:=by omega
   subst this
   refine zah ?_
   unfold R_Above_B1 R_Above_J1
   dsimp only
   rw [ifF ..,xbg]; rfl
  | succ m ih=>
   intro k e hk
   have hkl:k<l.length:=by omega
   have hw:w64 ((k:Int)+1)=((k+1:Nat):Int):=by rw [zai ..]; omega
   have hfl:=xcv (fun n:Note=>decide (done<n.Seq)) (l.take k)
   have htl:(l.take k).length<=k:=by simp; omega
   refine (zak ?_).trans (ih (k+1) (by omega) (by omega))
   unfold R_Above_B1
   dsimp only
   rw [ifT ..,zaa ..,hw,filter_succ _ l k hkl]
   by_cases c:done<(zad l (k:Int)).Seq
   ·rw [xac (d_t c),zaa ..,zaa (by rw [xaa,xan]; omega),zac,xac (by simpa using c)]
   ·rw [xab (d_f c),zac,xab (by simpa using c),xa4]
 exact key l.length 0 (by omega) (by omega)
theorem above_abv (t:Tablet)(hl:(zee t).length<=1000000):R_Above (zee t) t.Done=some (abv t.Done (zee t)):=by
 rw [above_eq _ _ hl,abv_filter t.Done (zee t) (logd_up t.Log.Bytes)]
theorem togethr_loop (l:List Cs)(hs:∀ g∈l,g.Pairwise ah)(hl:l.length<=1000)(hf:l.flatten.length<=100000000):∀ (n:Nat),n<=l.length->ztg l (firsts (l.drop n).flatten,(n:Int))=some (firsts l.flatten)
 | 0,_=>by
  refine zah ?_
  unfold zn8
  dsimp only
  rw [xab (d_f (by simp))]; rfl
 | n+1,hn=>by
  have hw:w64 (((n+1:Nat):Int) - 1)=(n:Int):=by rw [zai ..]; omega
  have hm:=zcb l (n:Int) (by omega)
  have hgl:(zad l (n:Int)).length<=l.flatten.length:=(List.sublist_flatten_of_mem hm).length_le
  have hfl:=zmo (l.drop (n+1)).flatten
  have hdl:(l.drop (n+1)).flatten.length<=l.flatten.length:=by
   have e:l.flatten=(l.take (n+1)).flatten++(l.drop (n+1)).flatten:=by rw [<- xcj,xa1]
   rw [e,xaa]; omega
  have hp:=rputs_eq (firsts (l.drop (n+1)).flatten) (zad l (n:Int)) (l.drop (n+1)).flatten (zf2 _) (by omega)
  have he:firsts ((zad l (n:Int)).reverse++(l.drop (n+1)).flatten)=firsts (l.drop n).flatten:=by
   rw [zct l n (by omega),xcg]
   exact (firsts_congr (Stab.app (stab_rev (hs _ hm)) (Stab.refl _))).symm
  refine (zak ?_).trans (togethr_loop l hs hl hf n (by omega))
  unfold zn8
  dsimp only
  rw [ifT ..,hw,zaa ..,hp,zac,he]
theorem togethr_eq {l:List Cs}(hs:∀ g∈l,g.Pairwise ah)(hl:l.length<=1000)(hf:l.flatten.length<=100000000):zoe l=some (firsts l.flatten):=by
 have:=togethr_loop l hs hl hf l.length (xae _)
 rw [xbw] at this
 unfold zoe
 rw [<- this]
 congr 2
 rw [show ([]:List Cs).flatten=[] from rfl,zmv .nil]
noncomputable def insS (t:Tablet):Inside×Fault:=
 if ¬ (zic t).Code=0 then (⟨[],0,[],[],[]⟩,zic t) else (⟨zee t,zeo t,zig t,zhv t,allT t⟩,ziv (zig t) (zhv t))
theorem insS_f (t:Tablet):(insS t).2=zk0 t:=by
 unfold insS zk0
 split <;> rfl
theorem heavy_eq (n:List Note)(k:Int)(mem:Cs)(f:List Cs):R_Heavy ⟨n,k,mem,f,allS mem f⟩=ziv mem f:=by
 unfold R_Heavy ziv R_F
 dsimp only [lt]
 by_cases c1:500<mem.length
 ·rw [ifT ..,xac c1]
 ·rw [ifF ..,xab c1]
  by_cases c2:1000<(allS mem f).length
  ·rw [ifT ..,xac c2]
  ·rw [ifF ..,xab c2]
theorem ins_loop (t:Tablet)(k0:Nat)(z:Inside)(zf:Fault)(hL:t.Files.length<=10)(hn:(zee t).length<=1000000)(hg:∀ n∈zee t,NGood n):∀ (m k:Nat),t.Files.length - k=m->k<=t.Files.length->ldF t.Files 0=ldF (t.Files.drop k) k->(∀ b∈t.Files.take k,(zke b).2.2.Code=0)->
  zns (zee t,(k0:Int)) (t,z,zf,zeo t) (t,z,zf,(t.Files.take k).map (fun b=>(zke b).1),(k:Int)) =
   some (if ¬ (ldF t.Files 0).Code=0 then (⟨[],0,[],[],[]⟩,ldF t.Files 0) else (⟨zee t,zeo t,zig t,zhv t,allT t⟩,ziv (zig t) (zhv t))):=by
 intro m
 induction m with
 | zero=>
  intro k e hk h0 hgd
  have hkl:k=t.Files.length:=by omega
  subst hkl
  rw [xbw] at h0
  have hz:ldF t.Files 0=⟨0,0⟩:=h0
  have hfl:=fil_flat t.Files
  rw [xbg] at hgd
  have hm0:=allC_len (abv t.Done (zee t)) fun n h=>(hg n (abv_sub t.Done _ n h)).len
  have ha:=abv_len t.Done (zee t)
  have hml:(zig t).length<=100000000 - 5000:=by
   unfold zig zr1
   have:=zmo (allC (abv t.Done (zee t)))
   omega
  have hts:([zig t]++zhv t).flatten=zig t++(zhv t).flatten:=by simp
  have htg:=togethr_eq (l:=[zig t]++zhv t) (fun g hgm=>by
   rcases xar.1 hgm with q | q
   ·rw [xau] at q; subst q; exact (zf2 _).1
   ·obtain ⟨b,hb,rfl⟩:=xb8.1 q
    exact (fileO_good (hgd b hb)).1.srt) (by unfold zhv; simp; omega) (by rw [hts,xaa]; unfold zhv; omega)
  rw [hts] at htg
  refine zah ?_
  unfold zh0 zj7
  dsimp only
  rw [ifF ..,xbg,above_abv t hn,zac,puts_eq [] _ .nil (by simp) (by omega) (fun n h=>hg n (abv_sub t.Done _ n h)),zac,xa4]
  have e1:firsts (allC (abv t.Done (zee t)))=zig t:=rfl
  have e2:t.Files.map (fun b=>(zke b).1)=zhv t:=rfl
  rw [e1,e2,zaa (by unfold zhv; simp; omega),htg,zac]
  dsimp only [lt]
  have e3:firsts (zig t++(zhv t).flatten)=allS (zig t) (zhv t):=rfl
  rw [e3,heavy_eq,hz,xab (by simp)]; rfl
 | succ m ih=>
  intro k e hk h0 hgd
  have hkl:k<t.Files.length:=by omega
  have hw:w64 ((k:Int)+1)=((k+1:Nat):Int):=by rw [zai ..]; omega
  rw [zct t.Files k hkl,ldF] at h0
  have hop:=ropen_eq (zad t.Files (k:Int))
  by_cases c:(zke (zad t.Files (k:Int))).2.2.Code=0
  ·rw [xac c] at h0
   refine (zak ?_).trans (ih (k+1) (by omega) (by omega) h0 (fun b hb=>by
    rw [zdq t.Files k hkl] at hb
    rcases xar.1 hb with q | q
    ·exact hgd b q
    ·rw [xau] at q; subst q; exact c))
   unfold zh0
   dsimp only
   rw [ifT ..,zaa ..,hop,zac,xab (n_f c),zaa (by simp; omega),hw,zdq t.Files k hkl,xcx]; rfl
  ·rw [xab c] at h0
   refine zah ?_
   unfold zh0
   dsimp only
   rw [ifT ..,zaa ..,hop,zac,xac (n_t c),h0,xac c]; rfl
theorem rlogd0_eq (b:B8)(h:b.length<=60000):R_Logged b=some ((logd b).1,(((logd b).2:Nat):Int)):=rlogd_eq b h
theorem inside_eq (t:Tablet):zly t=some (insS t):=by
 unfold zly insS zic R_F
 by_cases c1:t.Done<0\/1000000000<t.Done\/t.Since<0\/1000000000<t.Since
 ·rw [xac (by simp; omega),xac c1,xac (by simp)]; rfl
 ·rw [xab (by simp; omega),xab c1]
  by_cases c2:10<t.Files.length
  ·rw [ifT ..,xac c2,xac (by simp)]; rfl
  ·rw [ifF ..,xab c2,rdisk_eq]
   dsimp only [lt]
   by_cases c3:(dF t.Log).Code=0
   ·have hd:=dF_good.1 c3
    have hlen:=hd.len
    obtain ⟨l1,l2,l3⟩:=logd_le t.Log.Bytes
    rw [xab (n_f c3),xab (xat c3),rlogd0_eq t.Log.Bytes hlen,zac]
    dsimp only
    have e1:(logd t.Log.Bytes).1=zee t:=rfl
    rw [e1] at l2 l3 ⊢
    have hwn:w64 (((zee t).length:Int) - 1)=((zee t).length:Int) - 1:=zai ..
    rw [hwn]
    have go:¬ badT t->zhw (zee t,(((logd t.Log.Bytes).2:Nat):Int)) (t,⟨[],0,[],[],[]⟩,⟨0,0⟩,zeo t)=some (if ¬ (ldF t.Files 0).Code=0 then (⟨[],0,[],[],[]⟩,ldF t.Files 0) else (⟨zee t,zeo t,zig t,zhv t,allT t⟩,ziv (zig t) (zhv t))):=fun _=>
     ins_loop t _ _ _ (by omega) (by omega) l3 t.Files.length 0 (by omega) (by omega) rfl (by simp)
    by_cases c4:(logd t.Log.Bytes).2=t.Log.Bytes.length
    ·rw [xab (n_f (by omega))]
     by_cases c5:0<(zee t).length
     ·have g0:=l3 _ (zcb (zee t) 0 (by omega))
      have hws:w64 ((zad (zee t) 0).Seq - 1)=(zad (zee t) 0).Seq - 1:=zai (by have:=g0.lo; omega) (by have:=g0.hi; omega)
      rw [ifT ..,zaa ..,zaa ..,zaa ..,zaa ..,hws]
      by_cases c6:t.Done+1<(zad (zee t) 0).Seq\/(zad (zee t) (((zee t).length:Int) - 1)).Seq<t.Done
      ·have hb:badT t:=.inr ⟨c5,c6⟩
       rw [xac (by simp only [xbb,xaz]; omega),xac hb,xac (by simp)]
      ·have hb:¬ badT t:=by unfold badT; rintro (q | ⟨_,q⟩) <;> contradiction
       rw [xab (by simp only [xbb,xaz]; omega),xab hb]
       have:=go hb
       unfold zeo at this ⊢
       rw [xac c5] at this ⊢
       exact this
     ·have hb:¬ badT t:=by unfold badT; rintro (q | ⟨q,_⟩) <;> contradiction
      rw [ifF ..,xab hb]
      have:=go hb
      unfold zeo at this ⊢
      rw [xab c5] at this ⊢
      exact this
    ·have hb:badT t:=.inl c4
     rw [xac (n_t (by omega)),xac hb,xac (by simp)]
   ·rw [xac (n_t c3),xac c3,xac c3]
theorem sameBodies_loop (a b:B9)(hl:a.length=b.length)(hb:a.length<=1000000):∀ (m k:Nat),a.length - k=m->k<=a.length->zpn a b (k:Int)=some (decide (a.drop k=b.drop k))
 | 0,k,e,hk=>by
  have:k=a.length:=by omega
  refine zah ?_
  simp only [zi1]
  rw [ifF ..]
  have e1:a.drop k=[]:=xcf (by omega)
  have e2:b.drop k=[]:=xcf (by omega)
  simp [zev,zlg,e1,e2]
 | m+1,k,e,hk=>by
  have hw:w64 ((k:Int)+1)=((k+1:Nat):Int):=by rw [zai ..]; omega
  have ih:=sameBodies_loop a b hl hb m (k+1) (by omega) (by omega)
  rw [zct a k (by omega),zct b k (by omega)]
  by_cases c:zad a (k:Int)=zad b (k:Int)
  ·refine (zak (y:=((k+1:Nat):Int)) ?_).trans (ih.trans (by simp [c]))
   dsimp only [zi1,zl1,lt]
   rw [ifT ..,zaa ..,zaa ..,xab (by simp [c]),hw]
  ·refine zah ?_
   dsimp only [zi1,zl1,lt]
   rw [ifT ..,zaa ..,zaa ..,xac (by simp [c])]
   simp [c]
theorem sameBodies_eq (a b:B9)(hb:a.length<=1000000):zng a b=some (decide (a=b)):=by
 unfold zng
 by_cases c:a.length=b.length
 ·rw [xab (by simp [c])]
  have:=sameBodies_loop a b c hb a.length 0 (by omega) (by omega)
  simpa using this
 ·rw [xac (by simp; omega)]
  have:a≠b:=fun h=>c (by rw [h])
  simp [this]
theorem sameT_eq (a b:Tablet)(hb:a.Files.length<=1000000):zek a b=some (decide (a=b)):=by
 unfold zek
 rw [sameDisk_iff]
 dsimp only [lt]
 obtain ⟨l,f,d,s⟩:=a
 obtain ⟨l',f',d',s'⟩:=b
 dsimp only at hb ⊢
 by_cases c:l=l'
 ·rw [xbm c,xac rfl,sameBodies_eq _ _ hb,zac]
  subst c
  by_cases c2:f=f' <;> by_cases c3:d=d' <;> by_cases c4:s=s' <;> simp [c2,c3,c4]
 ·rw [xa0 c,xab (by simp),zac]
  simp [c]
def sumL (l:B9):Nat:=(l.map List.length).sum
theorem sumL_cons (s:B8)(l:B9):sumL (s::l)=s.length+sumL l:=by simp [sumL]
theorem sumL_mem:∀ (l:B9) (b:B8),b∈l->b.length<=sumL l
 | s::l,b,h=>by
  rw [sumL_cons]
  rcases xap.1 h with e | e
  ·rw [e]; omega
  ·have:=sumL_mem l b e; omega
theorem sumL_le:∀ (l:B9),(∀ b∈l,b.length<=140737488351232)->sumL l<=140737488351232*l.length
 | [],_=>by simp [sumL]
 | s::l,h=>by
  have h1:=sumL_le l fun b hb=>h b (xbl _ hb)
  have h2:=h s (xa8 ..)
  rw [sumL_cons,xah]; omega
theorem vast_val (t:Tablet)(hf:t.Files.length<=100)(hb:∀ b∈t.Files,b.length<=140737488351232):∀ (m k v:Nat),t.Files.length - k=m->k<=t.Files.length->v+sumL (t.Files.drop k)<=100000000000000000->
  zg6 (t,(v:Int),(k:Int))=some (decide (20000<v+sumL (t.Files.drop k)))
 | 0,k,v,e,hk,hv=>by
  have:k=t.Files.length:=by omega
  subst this
  refine zah ?_
  unfold zfr zhb
  dsimp only
  rw [ifF ..,xbw]
  have:sumL []=0:=rfl
  rw [this,xa0 (show ¬ (100<(t.Files.length:Int)) by omega),xdj,xdc.2 (show 20000<(v:Int)↔20000<v+0 by omega)]; rfl
 | m+1,k,v,e,hk,hv=>by
  have hkl:k<t.Files.length:=by omega
  rw [zct t.Files k hkl,sumL_cons] at hv ⊢
  have h1:w64 ((k:Int)+1)=((k+1:Nat):Int):=by rw [zai ..]; omega
  have h2:w64 ((v:Int)+((zad t.Files (k:Int)).length:Int))=((v+(zad t.Files (k:Int)).length:Nat):Int):=by rw [zai ..]; omega
  refine (zak ?_).trans ((vast_val t hf hb m (k+1) (v+(zad t.Files (k:Int)).length) (by omega) (by omega) (by omega)).trans (by rw [xdi]))
  unfold zfr
  dsimp only
  rw [ifT ..,zaa ..,h1,h2]
structure Few (t:Tablet):Prop where
 log:t.Log.Bytes.length<=20000
 files:t.Files.length<=100
 each:∀ b∈t.Files,b.length<=20000
theorem vast_eq (t:Tablet)(h0:t.Log.Bytes.length<=140737488351232)(hl:t.Files.length<=140737488351232)(hb:∀ b∈t.Files,b.length<=140737488351232):∃ b,zh4 t=some b/\(b=false->Few t):=by
 obtain ⟨b,h1,h2⟩:=vastT_run t hl
 refine ⟨b,h1,fun hbf=>?_⟩
 have hf:=h2 hbf
 have hs:=sumL_le t.Files hb
 have:=vast_val t hf hb t.Files.length 0 t.Log.Bytes.length (by omega) (by omega) (by rw [xb3]; omega)
 have h3:zh4 t=zg6 (t,(t.Log.Bytes.length:Int),((0:Nat):Int)):=rfl
 rw [h3,this,hbf,xb3] at h1
 have h4:¬ 20000<t.Log.Bytes.length+sumL t.Files:=by simpa using h1
 exact ⟨by omega,hf,fun x hx=>by have:=sumL_mem _ _ hx; omega⟩
theorem ownB_eq (l:B9)(hl:l.length<=1000)(hb:∀ b∈l,b.length<=1000000):zj6 l=some l:=by
 have key:∀ (m k:Nat),l.length - k=m->k<=l.length->zkp l (l.take k,(k:Int))=some l:=by
  intro m
  induction m with
  | zero=>
   intro k e hk
   have:k=l.length:=by omega
   subst this
   refine zah ?_
   unfold zhl zhs
   dsimp only
   rw [ifF ..,xbg]; rfl
  | succ m ih=>
   intro k e hk
   have hkl:k<l.length:=by omega
   have hw:w64 ((k:Int)+1)=((k+1:Nat):Int):=by rw [zai ..]; omega
   have hx:=hb _ (zcb l (k:Int) (by omega))
   refine (zak ?_).trans (ih (k+1) (by omega) (by omega))
   unfold zhl zf5
   dsimp only
   rw [ifT ..,zaa ..,zaa ..,zac,zaa (by simp; omega),hw,zdq l k hkl]
 exact key l.length 0 (by omega) (by omega)
theorem ownT_eq {t:Tablet}(h:Few t):zll t=some t:=by
 unfold zll zsw zf5
 have:=h.log
 rw [zaa ..,zac,zac,ownB_eq _ (by have:=h.files; omega) (fun b hb=>by have:=h.each b hb; omega),zac]
theorem fsame (f:Fault):¬ (!(decide (f.Code=f.Code)&&(decide (f.At=f.At)&&true)))=true:=by simp
theorem same0:zek T0 T0=some true:=by rw [sameT_eq _ _ (by simp [T0])]; simp
theorem rfile0_eq {l:Cs}(hg:∀ c∈l,za1 c=0)(hl:l.length<=1000)(size:Int):R_FileOf l size=some (ze2 l size):=rfile_eq hg hl size
theorem made_eq {l:Cs}(hg:Good l){size:Int}(hs:¬ (size<50\/4000<size)):zmk l size=some (zl3 l size):=by
 unfold zmk zl3
 rw [hg.f,xab (show ¬ ¬ (⟨0,0⟩:Fault).Code=0 by simp)]
 by_cases c1:500<l.length
 ·rw [ifT ..,xac c1]; rfl
 ·rw [ifF ..,xab c1,xab hs,rfile0_eq hg.code hg.len size,zac]
  by_cases c2:60000<(ze2 l size).length
  ·rw [ifT ..,xac c2]; rfl
  ·rw [ifF ..,xab c2]
theorem rsize_eq (size:Int):zlk size=sizF size:=sized_eq size
structure GoodL (l:List Cs):Prop where
 few:l.length<=20
 good:∀ g∈l,Good g
theorem lists_ok {l:List Cs}(h:GoodL l):zos l=some ⟨0,0⟩:=by
 have hf:=h.few
 unfold zos zqx
 rw [ifF ..]
 refine zjf (step:=fun y=>zgs l y) l.length (fun k=>((⟨0,0⟩:Fault),(k:Int))) (fun k hk=>?_) ?_
 ·have hg:=h.good _ (zcb l (k:Int) (by omega))
  show zgs l ((⟨0,0⟩:Fault),(k:Int))=_
  unfold zgs
  dsimp only
  rw [ifT ..,zaa ..,check_eq,zac,xab (n_f (by rw [hg.f])),zai ..]; rfl
 ·show zgs l ((⟨0,0⟩:Fault),(l.length:Int))=_
  unfold zgs
  dsimp only
  rw [ifF ..]; rfl
theorem flat_len1000:∀ (l:List Cs),(∀ g∈l,g.length<=1000)->l.flatten.length<=1000*l.length
 | [],_=>by simp
 | g::l,h=>by
  have:=flat_len1000 l fun x hx=>h x (xbl _ hx)
  have:=h g (xa8 ..)
  simp only [xcg,xaa,xah]; omega
theorem GoodL.flat {l:List Cs}(h:GoodL l):l.flatten.length<=20000:=by
 have:=flat_len1000 l fun g hg=>(h.good g hg).len
 have:=h.few
 omega
theorem GoodL.joined {l:List Cs}(h:GoodL l):zkr l=some (firsts l.flatten):=joined_eq (fun g hg=>(h.good g hg).srt) (by have:=h.few; omega) (by have:=h.flat; omega)
theorem GoodL.part {l:List Cs}(h:GoodL l){x:Cs}(hx:x.Sublist (firsts l.flatten))(hn:(firsts l.flatten).length<=1000):Good x:=by
 refine good_of (by have:=hx.length_le; omega) (fun c hc=>?_) ((zf2 l.flatten).1.sublist hx)
 obtain ⟨g,hg,hcg⟩:=xc0.1 (firsts_mem (hx.subset hc))
 exact (h.good g hg).code c hcg
theorem join_is {l:List Cs}(h:GoodL l)(hn:(firsts l.flatten).length<=1000):zrq l=some (firsts l.flatten,⟨0,0⟩):=by
 unfold zrq
 rw [lists_ok h,zac,xab (by simp),h.joined,zac,ifF ..]
def keepC (since:Int)(whole:Bool)(p:Option Cell)(c:Cell):Bool:=
 decide (since<c.Time) || !((match p with | some q=>decide (q.Row=c.Row)&&decide (q.Col=c.Col)&&decide (q.Time<=since) | none=>false)||(c.Gone&&whole))
def cmpL (since:Int)(whole:Bool):Option Cell->Cs->Cs
 | _,[]=>[]
 | p,c::l=>if keepC since whole p c=true then c::cmpL since whole (some c) l else cmpL since whole (some c) l
theorem cmpL_sub (since:Int)(whole:Bool):∀ (l:Cs) (p:Option Cell),(cmpL since whole p l).Sublist l
 | [],_=>.slnil
 | c::l,p=>by
  rw [cmpL]
  split
  ·exact (cmpL_sub since whole l _).cons_cons c
  ·exact (cmpL_sub since whole l _).cons c
theorem compact_loop (since:Int)(whole:Bool)(l:Cs)(hl:l.length<=100000)(f1 f2 f3:Fault):∀ (m k:Nat) (out:Cs),l.length - k=m->k<=l.length->out.length<=k->
  znl since whole (l,f3) (f1,f2,out,(k:Int))=some (out++cmpL since whole (prv l k) (l.drop k),f2):=by
 intro m
 induction m with
 | zero=>
  intro k out e hk ho
  have:k=l.length:=by omega
  subst this
  refine zah ?_
  unfold zh1
  dsimp only
  rw [ifF ..,xbw,cmpL,xa4]; rfl
 | succ m ih=>
  intro k out e hk ho
  have hw:w64 ((k:Int) - 1)=(k:Int) - 1:=zai ..
  rw [zct l k (by omega),cmpL]
  have hkeep:keepC since whole (prv l k) (zad l (k:Int))=(decide (since<(zad l (k:Int)).Time) || !(((((decide (0<(k:Int)))&&(decide (((zad l ((k:Int) - 1)).Row)=((zad l (k:Int)).Row))))&&(decide (((zad l ((k:Int) - 1)).Col)=((zad l (k:Int)).Col))))&&(decide (((zad l ((k:Int) - 1)).Time)<=since)))||((zad l (k:Int)).Gone&&whole))):=by
   unfold keepC prv
   by_cases h0:k=0
   ·subst h0; simp
   ·rw [xab h0,d_t (show 0<(k:Int) by omega)]
    simp only [xee]
  have hB:zh1 since whole (l,f3) (f1,f2,out,(k:Int))=some (.inl (f1,f2,(if keepC since whole (prv l k) (zad l (k:Int))=true then out++[zad l (k:Int)] else out),((k+1:Nat):Int))):=by
   have hJ:zgf (f1,f2,out,(k:Int)) (f1,f2,zad l (k:Int))=some (f1,f2,out++[zad l (k:Int)]):=by
    unfold zgf
    dsimp only
    rw [zaa (by simp; omega)]
   unfold zh1
   dsimp only
   rw [ifT ..,hw,zaa ..,zaa ..,zaa (fun h=>by have:=xa5 h; omega),zaa (fun h=>by have:=xa5 h; omega),zaa (fun h=>by simp at h; omega),zaa (fun h=>by simp at h; omega)]
   simp only [zby,lt]
   rw [hJ]
   generalize hb1:decide (since<(zad l (k:Int)).Time)=b1 at hkeep ⊢
   generalize hb2:(((decide (0<(k:Int)))&&(decide (((zad l ((k:Int) - 1)).Row)=((zad l (k:Int)).Row))))&&(decide (((zad l ((k:Int) - 1)).Col)=((zad l (k:Int)).Col))))=b2 at hkeep ⊢
   have hin:b2=true->0<=(k:Int) - 1/\(k:Int) - 1<(l.length:Int):=fun h=>by rw [<- hb2] at h; simp at h; omega
   rw [zaa hin,zaa hin]
   generalize decide (((zad l ((k:Int) - 1)).Time)<=since)=b3 at hkeep ⊢
   generalize ((zad l (k:Int)).Gone&&whole)=b4 at hkeep ⊢
   rw [hkeep,zai ..]
   cases b1 <;> cases b2 <;> cases b3 <;> cases b4 <;> rfl
  by_cases c:keepC since whole (prv l k) (zad l (k:Int))=true
  ·rw [xac c] at hB ⊢
   have:=ih (k+1) (out++[zad l (k:Int)]) (by omega) (by omega) (by simp; omega)
   rw [prv_succ] at this
   exact (zak hB).trans (this.trans (by simp))
  ·rw [xab c] at hB ⊢
   have:=ih (k+1) out (by omega) (by omega) (by omega)
   rw [prv_succ] at this
   exact (zak hB).trans this
theorem compact_is {l:List Cs}(h:GoodL l)(hn:(firsts l.flatten).length<=1000){since:Int}(hs:¬ (since<0\/1000000000<since))(whole:Bool):zle l since whole=some (cmpL since whole none (firsts l.flatten),⟨0,0⟩):=by
 unfold zle
 rw [join_is h hn,zac,xab (by simp),xab (or_f hs)]
 have:=compact_loop since whole (firsts l.flatten) (by omega) ⟨0,0⟩ ⟨0,0⟩ ⟨0,0⟩ _ 0 [] rfl (xa2 _) (by simp)
 exact this
def samepl (x y:Cell):Bool:=decide (x.Row=y.Row)&&decide (x.Col=y.Col)
def oldB (since:Int)(l:Cs)(x:Cell):Bool:=l.any fun y=>samepl y x&&decide (y.Time<=since)
theorem old_loop (box:Cs)(since:Int)(whole:Bool)(hl:box.length<=100000)(v1:Cs×Int)(i:Nat)(hv:v1.2=(i:Int))(hi:i<box.length)(x:Cell):∀ (m k:Nat),i - k=m->k<=i->
  zjj box since whole v1 (x,oldB since (box.take k) x,(k:Int))=zdp since whole v1 (x,oldB since (box.take i) x):=by
 intro m
 induction m with
 | zero=>
  intro k e hk
  have:k=i:=by omega
  subst this
  have hB:zg1 box since whole v1 (x,oldB since (box.take k) x,(k:Int))=zev (zdp since whole v1 (x,oldB since (box.take k) x)):=by
   unfold zg1
   dsimp only
   rw [hv,ifF ..]
  unfold zjj
  rw [znx,hB]
  cases zdp since whole v1 (x,oldB since (box.take k) x) <;> rfl
 | succ m ih=>
  intro k e hk
  refine (zak ?_).trans (ih (k+1) (by omega) (by omega))
  unfold zg1
  dsimp only
  rw [hv,ifT ..,zaa (fun _=>by omega),zaa (fun _ _=>by omega),zaa (fun _ _=>by omega)]
  dsimp only [lt]
  have:oldB since (box.take (k+1)) x=(oldB since (box.take k) x||(((decide ((zad box (k:Int)).Row=x.Row))&&(decide ((zad box (k:Int)).Col=x.Col)))&&(decide ((zad box (k:Int)).Time<=since)))):=by
   unfold oldB samepl
   rw [zdq box k (by omega),List.any_append]; simp
  rw [this,zai ..]; rfl
def docL (since:Int)(whole:Bool)(box:Cs):Nat->Cs->Cs
 | _,[]=>[]
 | i,x::l=>if (decide (x.Time<=since)&&(oldB since (box.take i) x||(x.Gone&&whole)))=true then docL since whole box (i+1) l else x::docL since whole box (i+1) l
theorem doc_loop (box:Cs)(since:Int)(whole:Bool)(hl:box.length<=100000):∀ (m i:Nat) (out:Cs),box.length - i=m->i<=box.length->out.length<=i->
  zmm box since whole (out,(i:Int))=some (out++docL since whole box i (box.drop i)):=by
 intro m
 induction m with
 | zero=>
  intro i out e hi ho
  have:i=box.length:=by omega
  subst this
  refine zah ?_
  unfold zha
  dsimp only
  rw [ifF ..,xbw,docL,xa4]; rfl
 | succ m ih=>
  intro i out e hi ho
  rw [zct box i (by omega),docL]
  have hB:zha box since whole (out,(i:Int))=zdp since whole (out,(i:Int)) (zad box (i:Int),oldB since (box.take i) (zad box (i:Int))):=by
   unfold zha
   dsimp only
   rw [ifT ..,zaa ..]
   simp only [zby]
   have:=old_loop box since whole hl (out,(i:Int)) i rfl (by omega) (zad box (i:Int)) i 0 (by omega) (by omega)
   exact this
  by_cases c:(decide ((zad box (i:Int)).Time<=since)&&(oldB since (box.take i) (zad box (i:Int))||((zad box (i:Int)).Gone&&whole)))=true
  ·rw [xac c]
   refine (zak ?_).trans (ih (i+1) out (by omega) (by omega) (by omega))
   rw [hB]
   unfold zdp
   dsimp only
   rw [xac c]
   unfold zfs
   dsimp only
   rw [zai ..]; rfl
  ·rw [xab c]
   refine (zak ?_).trans ((ih (i+1) (out++[zad box (i:Int)]) (by omega) (by omega) (by simp; omega)).trans (by simp))
   rw [hB]
   unfold zdp
   dsimp only
   rw [xab c,zaa (by simp; omega)]
   unfold zfs
   dsimp only
   rw [zai ..]; rfl
theorem doc_cmp (since:Int)(whole:Bool)(box:Cs)(hs:box.Pairwise ah):∀ (l d:Cs),box=d++l->docL since whole box d.length l=cmpL since whole (if d=[] then none else some (zad d ((d.length:Int) - 1))) l
 | [],d,_=>by rw [docL,cmpL]
 | x::l,d,h=>by
  have ih:=doc_cmp since whole box hs l (d++[x]) (by rw [h]; simp)
  have e1:(d++[x]).length=d.length+1:=by simp
  have e2:(if d++[x]=[] then none else some (zad (d++[x]) (((d++[x]).length:Int) - 1)))=some x:=by
   rw [xab (by simp)]
   have:(((d++[x]).length:Nat):Int) - 1=(d.length:Int):=by simp
   rw [this,zqe d x []]
  rw [e2,e1] at ih
  have hk:(decide (x.Time<=since)&&(oldB since (box.take d.length) x||(x.Gone&&whole))) = !keepC since whole (if d=[] then none else some (zad d ((d.length:Int) - 1))) x:=by
   have htk:box.take d.length=d:=by rw [h,xc2]
   rw [htk]
   have hold:x.Time<=since->(oldB since d x=match (if d=[] then none else some (zad d ((d.length:Int) - 1))) with | some q=>decide (q.Row=x.Row)&&decide (q.Col=x.Col)&&decide (q.Time<=since) | none=>false):=by
    intro hx
    rcases xc6 d with e | ⟨d',y,e⟩
    ·subst e; rfl
    ·rw [xc7] at e
     subst e
     have hy:zad (d'++[y]) (((d'++[y]).length:Int) - 1)=y:=by
      have:(((d'++[y]).length:Nat):Int) - 1=(d'.length:Int):=by simp
      rw [this,zqe d' y []]
     rw [xab (by simp),hy]
     dsimp only
     unfold oldB
     rw [List.any_append,xbu]
     simp only [List.any_cons,List.any_nil,xdj,xbb,xej]
     constructor
     ·rintro (⟨z,hz,hzz⟩ | q)
      ·
       unfold samepl at hzz
       simp only [xaw,xaz] at hzz
       rw [h] at hs
       have s1:=xa6.1 hs
       have hzy:ah z y:=(xa6.1 s1.1).2.2 z hz y (xau.2 rfl)
       have hyx:ah y x:=s1.2.2 y (by simp) x (xa8 ..)
       have hp:pl z y:=pl_between hzy hyx hzz.1
       have ht:y.Time<=z.Time:=by
        unfold ah at hzy
        rw [hp.1,hp.2] at hzy
        simp only [zkv] at hzy
        simp at hzy; omega
       simp only [xaw,xaz]
       exact ⟨⟨hp.1.symm.trans hzz.1.1,hp.2.symm.trans hzz.1.2⟩,by omega⟩
      ·unfold samepl at q; exact q
     ·intro q
      exact .inr (by unfold samepl; exact q)
   unfold keepC
   by_cases hx:x.Time<=since
   ·rw [hold hx,xbm hx,xa0 (by omega:¬ since<x.Time)]
    simp only [xee,xd1,Bool.not_not]
    all_goals generalize (if d=[] then none else some (zad d ((d.length:Int) - 1)))=p
    all_goals cases p <;> rfl
   ·rw [xa0 hx,xbm (by omega:since<x.Time)]; rfl
  rw [docL,cmpL,hk,ih]
  cases keepC since whole (if d=[] then none else some (zad d ((d.length:Int) - 1))) x <;> rfl
theorem doc_eq (box:Cs)(since:Int)(whole:Bool)(hs:Gw box):zjx box since whole=some (cmpL since whole none box):=by
 have h1:=doc_loop box since whole hs.len box.length 0 [] (by omega) (by omega) (by simp)
 have h2:=doc_cmp since whole box hs.srt box [] rfl
 have h1':zjx box since whole=some ([]++docL since whole box 0 (box.drop 0)):=h1
 rw [h1',xbk,xb3]
 exact congrArg some h2
def earB (l:Cs)(since:Int):Bool:=l.any fun c=>decide (c.Time<since)
theorem early_eq (l:Cs)(since:Int)(hl:l.length<=100000):zbp l since=some (earB l since):=by
 unfold zbp zcm zdh
 have hst:∀ k:Nat,k<l.length->zaw l since (k:Int)=if (zad l (k:Int)).Time<since then some (.inr (k:Int)) else some (.inl ((k+1:Nat):Int)):=fun k hk=>by
  have hw:w64 ((k:Int)+1)=((k+1:Nat):Int):=by rw [zai ..]; omega
  unfold zaw zii
  rw [ifT ..,zaa ..,hw]
  dsimp only [lt]
  by_cases q:(zad l (k:Int)).Time<since
  ·rw [xac (d_t q),xac q]
  ·rw [xab (d_f q),xab q]
 have he:zaw l since (l.length:Int)=some (.inr (-1)):=by
  unfold zaw
  rw [ifF ..]; rfl
 rcases loop_first (step:=fun y=>zaw l since y) l.length (fun k=>(k:Int)) (fun k=>(zad l (k:Int)).Time<since) (fun k=>(k:Int)) (r:=-1) (fun k hk hn=>by rw [hst k hk,xab hn]) (fun k hk hn=>by rw [hst k hk,xac hn]) he with ⟨j,a,c,_,h5⟩ | ⟨a,h5⟩
 ·have h5:zbg (fun y=>zaw l since y) 0=some (j:Int):=h5
  have:earB l since=true:=xej.2 ⟨_,zcb l (j:Int) (by omega),d_t c⟩
  rw [h5,this]
  exact congrArg some (d_t ..)
 ·have h5:zbg (fun y=>zaw l since y) 0=some (-1):=h5
  have:earB l since=false:=List.any_eq_false.2 fun z hz=>by
   obtain ⟨k,hk,rfl⟩:=mem_lget.1 hz
   simpa using a k hk
  rw [h5,this]; rfl
def whlB (t:Tablet)(m:Cs)(at0 since:Int):Bool:=decide (at0=0) && !(earB m since)
noncomputable def packL (t:Tablet)(at0 since:Int):Cs:=cmpL since (whlB t (zig t) at0 since) none (firsts ((zhv t).drop at0.toNat).flatten)
open Classical in
noncomputable def packF (t:Tablet)(at0 since size:Int):Fault:=
 if at0<0\/(t.Files.length:Int)<=at0 then ⟨3,-2⟩ else if since<0\/1000000000<since then ⟨3,-3⟩ else if ¬ (sizF size).Code=0 then sizF size else zl3 (packL t at0 since) size
noncomputable def packT (t:Tablet)(at0 since size:Int):Tablet:=⟨t.Log,t.Files.take at0.toNat++[ze2 (packL t at0 since) size],t.Done,max t.Since since⟩
noncomputable def packS (t:Tablet)(at0 since size:Int):Tablet×Fault:=
 if ¬ (zk0 t).Code=0 then (T0,zk0 t)
 else if ¬ (packF t at0 since size).Code=0 then (T0,packF t at0 since size)
 else (packT t at0 since size,⟨0,0⟩)
theorem drop_good {t:Tablet}(h:TG t)(n:Nat):GoodL ((zhv t).drop n)/\(firsts ((zhv t).drop n).flatten).length<=1000:=by
 have hf:=h.few
 refine ⟨⟨by unfold zhv; rw [xa7,xao]; omega,fun g hg=>?_⟩,?_⟩
 ·obtain ⟨b,hb,rfl⟩:=xb8.1 (xcn hg)
  exact (h.fil b hb).1
 ·refine xce (firsts_sub_len fun c hc=>?_) h.all
  obtain ⟨g,hg,hc⟩:=xc0.1 hc
  exact xar.2 (.inr (xc0.2 ⟨g,xcn hg,hc⟩))
theorem pack_good {t:Tablet}(h:TG t)(at0 since:Int):Good (packL t at0 since):=by
 obtain ⟨h1,h2⟩:=drop_good h at0.toNat
 exact h1.part (cmpL_sub _ _ _ _) h2
theorem clone_eq1 (l:B9)(hl:l.length<=1000):zd5 l=some l:=by
 unfold zd5
 refine wp_is.1 (wp_ubO.2 ⟨fun h=>?_,wp_is.2 ?_⟩)
 ·have:l=[]:=xef.1 (xa5 h)
  subst this
  rw [zaa (by simp)]; rfl
 ·rw [xbk,zaa ..]
theorem pack1_eq (t:Tablet)(at0 since size:Int)(h:TG t):∃ x,zfz t.Log.Bytes t.Log.Kept t.Files t.Done t.Since (zeo t) at0 t since size (zee t) (zig t) (zhv t)=some x/\x.1=packF t at0 since size/\
  ((packF t at0 since size).Code=0->x=(⟨0,0⟩,t.Log.Bytes,t.Log.Kept,(packT t at0 since size).Files,t.Done,max t.Since since,zeo t,zig t,zhv t)):=by
 have hf:=h.few
 have hm:=h.mem
 unfold zfz packF
 rw [sized_eq]
 dsimp only [lt]
 by_cases c1:at0<0\/(t.Files.length:Int)<=at0
 ·rw [xac (or_t c1),xac c1]
  exact ⟨_,rfl,rfl,fun h=>by cases h⟩
 rw [xab (or_f c1),xab c1]
 by_cases c2:since<0\/1000000000<since
 ·rw [xac (or_t c2),xac c2]
  exact ⟨_,rfl,rfl,fun h=>by cases h⟩
 rw [xab (or_f c2),xab c2]
 by_cases c:(sizF size).Code=0
 ·have hfl:(zhv t).length=t.Files.length:=by unfold zhv; rw [xao]
  obtain ⟨h1,h2⟩:=drop_good h at0.toNat
  have hld:zc1 (zhv t) at0=(zhv t).drop at0.toNat:=rfl
  rw [xab (n_f c),xab (xat c),early_eq _ _ (by omega),zac,zaa ..,hld,compact_is h1 h2 c2,zac,xab (by simp)]
  have hp:cmpL since (decide (at0=0) && !(earB (zig t) since)) none (firsts ((zhv t).drop at0.toNat).flatten)=packL t at0 since:=rfl
  dsimp only
  have hlt:zd8 t.Files at0=t.Files.take at0.toNat:=rfl
  rw [hp,make_eq,zac,zaa ..,hlt,clone_eq1 _ (by rw [xal]; omega),zac,zaa (by rw [xaa,xal,xan]; omega)]
  refine ⟨_,rfl,?_,fun hz=>?_⟩
  ·unfold makeS
   by_cases c3:(zl3 (packL t at0 since) size).Code=0
   ·rw [xac c3,(zqb c3).1]
   ·rw [xab c3]
  ·unfold makeS packT
   rw [xac hz]
 ·rw [xac (n_t c),xac c]
  exact ⟨_,rfl,rfl,fun h=>absurd h c⟩
theorem pack_make {t:Tablet}{at0 since size:Int}(hz:(packF t at0 since size).Code=0):¬ (at0<0\/(t.Files.length:Int)<=at0)/\¬ (since<0\/1000000000<since)/\(sizF size).Code=0/\(zl3 (packL t at0 since) size).Code=0:=by
 unfold packF at hz
 by_cases c1:at0<0\/(t.Files.length:Int)<=at0
 ·rw [xac c1] at hz; cases hz
 rw [xab c1] at hz
 by_cases c2:since<0\/1000000000<since
 ·rw [xac c2] at hz; cases hz
 rw [xab c2] at hz
 by_cases c3:(sizF size).Code=0
 ·rw [xab (xat c3)] at hz; exact ⟨c1,c2,c3,hz⟩
 ·rw [xac c3] at hz; exact absurd hz c3
theorem pack_eq (t:Tablet)(at0 since size:Int):zhf t at0 since size=some (packS t at0 since size):=by
 unfold zhf zm0 packS
 rw [load_eq,zac]
 by_cases h1:(zic t).Code=0
 ·rw [loadS_ok h1]
  dsimp only [sm]
  by_cases h2:(ziv (zig t) (zhv t)).Code=0
  ·have hz:(zk0 t).Code=0:=by unfold zk0; rw [xab (xat h1)]; exact h2
   have hT:=zpd hz
   obtain ⟨x,hx,hx1,hx2⟩:=pack1_eq t at0 since size hT
   rw [xab (n_f h2),hx,zac,xab (xat hz)]
   by_cases h3:(packF t at0 since size).Code=0
   ·have e:=hx2 h3
    subst e
    obtain ⟨g1,g2,g3,g4⟩:=pack_make h3
    have ho:=own_eq (packT t at0 since size) (by show t.Log.Bytes.length<=1000000; have:=hT.log.len; omega) (by unfold packT; have:=hT.few; simp; omega) (fun b hb=>by
     rcases xar.1 hb with q | q
     ·have:=(hT.fil b (xbp q)).2; omega
     ·rw [xau.1 q]; have:=(zqb g4).2.1; omega)
    have ho2:zh9 ⟨⟨t.Log.Bytes,t.Log.Kept⟩,(packT t at0 since size).Files,t.Done,max t.Since since⟩=some (t.Log.Bytes,t.Log.Kept,(packT t at0 since size).Files,t.Done,max t.Since since):=ho
    rw [xab (n_f rfl)]
    dsimp only
    rw [ho2,zac,zac]
    dsimp only
    rw [xab (xat h3)]; rfl
   ·rw [xac (n_t (by rw [hx1]; exact h3)),zac,xac h3,hx1]; rfl
  ·have hf:zk0 t=ziv (zig t) (zhv t):=by unfold zk0; rw [xab (xat h1)]
   rw [xac (n_t h2),zac,hf,xac h2]; rfl
 ·have hf:zk0 t=zic t:=by unfold zk0; rw [xac h1]
  rw [loadS_bad h1]
  dsimp only [sm]
  rw [xac (n_t h1),zac,hf,xac h1]; rfl
theorem partv_eq (t:Tablet)(fr to:B8)(size:Int):zjy t fr to size=some (zq7 t fr to size):=by
 have h:=part_eq t fr to size
 unfold tablet_Part at h
 unfold zjy
 cases hx:zia t size fr to t with
 | none=>rw [hx] at h; cases h
 | some x=>
  rw [hx,zac] at h
  simp only [Option.some.injEq,Prod.mk.injEq] at h
  obtain ⟨e1,e2,e3,e4,e5,e6⟩:=h
  rw [zac,e1,e2,e3,e4,e5,e6]
theorem between_eq (l:Cs)(fr to:B8)(hl:l.length<=100000):zp4 l fr to=some (l.filter fun x=>!zaq x fr to):=by
 have key:∀ n,n<=l.length->((l.take n).filter fun x=>!zaq x fr to).length<=n:=fun n hn=>xce (xcv _ _) (by rw [xal]; omega)
 have hr:=zjf (step:=fun y=>zf0 l fr to y) l.length (fun k=>((l.take k).filter (fun x=>!zaq x fr to),(k:Int))) (fun k hk=>by
  have hw:w64 ((k:Int)+1)=((k+1:Nat):Int):=by rw [zai ..]; omega
  have hk1:=key k (by omega)
  show zf0 l fr to ((l.take k).filter (fun x=>!zaq x fr to),(k:Int))=_
  have hp:(!zaq (zad l (k:Int)) fr to)=((!Op.bytesLess ((zad l (k:Int)).Row) fr)&&((decide (to=([]:B8)))||(Op.bytesLess ((zad l (k:Int)).Row) to))):=by
   unfold zaq
   dsimp only [lt]
   cases Op.bytesLess (zad l (k:Int)).Row fr <;> cases Op.bytesLess (zad l (k:Int)).Row to <;> cases decide (to=([]:B8)) <;> rfl
  unfold zf0
  dsimp only
  rw [ifT ..,zaa ..,zaa (fun _ _=>by omega),<- hp,zdq l k hk,xcu]
  simp only [zby]
  cases hq:(!zaq (zad l (k:Int)) fr to) with
  | true=>
   rw [xac rfl,zaa ..,zaa (by rw [xaa,xan]; omega)]
   dsimp only [lt]
   rw [zac,hw]
   simp [hq]
  | false=>
   rw [xab (by simp),zac,hw]
   simp [hq]) (r:=l.filter fun x=>!zaq x fr to) (by
  show zf0 l fr to ((l.take l.length).filter (fun x=>!zaq x fr to),(l.length:Int))=_
  unfold zf0
  dsimp only
  rw [ifF ..,xbg]; rfl)
 exact hr
theorem head_few {t:Tablet}(h:(zic t).Code=0):t.Files.length<=10:=by
 apply xeh
 intro q
 unfold zic at h
 by_cases c1:t.Done<0\/1000000000<t.Done\/t.Since<0\/1000000000<t.Since
 ·rw [xac c1] at h; cases h
 ·rw [xab c1,xac q] at h; cases h
theorem few_all {t:Tablet}(h:Few t)(hh:(zic t).Code=0):(allT t).length<=100000:=by
 have hk:=head_few hh
 have hs:=zsr t.Log.Bytes
 have hl:=sizeF_len (bodies t.Log.Bytes)
 obtain ⟨_,h2,_⟩:=nts_le (bodies t.Log.Bytes) [] 0
 have hg:=(logd_le t.Log.Bytes).2.2
 have hlog:=h.log
 have hn:(zee t).length<=3500:=by
  show (nts [] 0 (bodies t.Log.Bytes)).1.length<=3500
  rw [xax] at h2; omega
 have ha:=abv_len t.Done (zee t)
 have hm0:=allC_len (abv t.Done (zee t)) fun n h=>(hg n (abv_sub t.Done _ n h)).len
 have hf:=fil_flat t.Files
 have h3:=zmo (allC (abv t.Done (zee t)))
 have h4:=zmo (zig t++(zhv t).flatten)
 have h5:=h.files
 have h6:(zig t).length<=(allC (abv t.Done (zee t))).length:=h3
 rw [xaa] at h4
 have h7:(zhv t).flatten.length<=500*t.Files.length:=hf
 show (firsts (zig t++(zhv t).flatten)).length<=100000
 omega
theorem as5_bad {w:Fault}(h:¬ w.Code=0)(b:Tablet)(n:Int)(l:Cs)(s r:Int):zfy T0 w w b n l s r=some true:=by
 unfold zfy
 rw [xab (fsame w),xac (n_t h)]
 show ob (zek T0 T0) _=_
 rw [same0]; rfl
theorem as6_bad {w:Fault}(h:¬ w.Code=0)(i:Inside)(b:Tablet)(l:Cs)(s:Int):zfv T0 w w i b l s=some (true,i,b):=by
 unfold zfv
 rw [xab (fsame w),xac (n_t h)]
 show ob (zek T0 T0) _=_
 rw [same0]; rfl
theorem ownB0_eq (l:B9)(hl:l.length<=1000)(hb:∀ b∈l,b.length<=1000000):zn1 l=some l:=ownB_eq l hl hb
theorem part_good {t:Tablet}(h:TG t)(fr to:B8):Good (zq4 t fr to):=by
 have hl:=xcv (fun x=>!zaq x fr to) (allT t)
 have ha:=h.all
 refine good_of (show ((allT t).filter _).length<=1000 by omega) (fun c hc=>?_) ((zf2 _).1.sublist List.filter_sublist)
 rcases xar.1 (firsts_mem (xck.1 hc).1) with q | q
 ·obtain ⟨n,h1,h2⟩:=allC_mem.1 (firsts_mem q)
  exact ((logd_le t.Log.Bytes).2.2 n (abv_sub t.Done _ n h1)).cells.code c h2
 ·obtain ⟨l,h1,h2⟩:=xc0.1 q
  obtain ⟨b,hb,rfl⟩:=xb8.1 h1
  exact (h.fil b hb).1.code c h2
theorem file_none (size:Int):(ze2 [] size).length<=60000:=by
 have h1:(zd1 [] size 0).1=[]:=rfl
 have h2:(filF []).length=1:=by unfold filF filN zdv; rw [zei]; rfl
 unfold ze2 zcg
 rw [xax,h1,xd7,xbk]
 unfold zjp zi5 zs5
 have:=zcs ([]:B8)
 have:=zcs (filF [])
 simp only [List.flatMap_nil,xed,xaa,xa4] at *
 simp at *
 omega
theorem make_none {size:Int}(hs:(sizF size).Code=0):zl3 [] size=⟨0,0⟩:=by
 have c:¬ (size<50\/4000<size):=fun q=>by unfold sizF at hs; rw [xac q] at hs; cases hs
 have h1:zk1 []=⟨0,0⟩:=(good_of (l:=[]) (by simp) (by simp) .nil).f
 have:=file_none size
 unfold zl3
 rw [h1,xab (by simp),xab (by simp),xab c,xab (by omega)]
theorem makes_J1 {t:Tablet}(hF:Few t)(at0 since size:Int)(fr to:B8){f:Fault}{L:Cs}(H:zfy (packS t at0 since size).1 (packS t at0 since size).2 f t at0 L size since=some true) :
  zej at0 since size fr to (t,(packS t at0 since size).1,(packS t at0 since size).2,(zq7 t fr to size).1,(zq7 t fr to size).2,(insS t).1,zk0 t,f,L)=some true:=by
 have hA:(insS t).1.All.length<=100000:=by
  unfold insS
  by_cases c:(zic t).Code=0
  ·rw [xab (xat c)]; exact few_all hF c
  ·rw [xac c]; simp
 unfold zej
 dsimp only
 rw [H,zac,xab (by simp)]
 by_cases c0:(zk0 t).Code=0
 ·have hT:=zpd c0
  have hi:(insS t).1=⟨zee t,zeo t,zig t,zhv t,allT t⟩:=by unfold insS; rw [hT.head,xab (by simp)]
  rw [hi] at hA ⊢
  rw [xac (d_t c0),rsize_eq]
  dsimp only [lt]
  rw [zac]
  dsimp only
  have hpl:(allT t).filter (fun x=>!zaq x fr to)=zq4 t fr to:=rfl
  rw [between_eq _ _ _ hA,zac,hpl]
  have hg:=part_good hT fr to
  by_cases c1:(sizF size).Code=0
  ·have hs:¬ (size<50\/4000<size):=fun q=>by unfold sizF at c1; rw [xac q] at c1; cases c1
   rw [xac (d_t c1),made_eq hg hs,zac,zac]
   dsimp only
   by_cases c2:(zl3 (zq4 t fr to) size).Code=0
   ·have hm:=(zqb c2).1
    have hpf:partF t fr to size=⟨0,0⟩:=by
     unfold partF
     rw [xab (xat c1),hm]
     split <;> rfl
    have hp:zq7 t fr to size=(partT t fr to size,⟨0,0⟩):=by unfold zq7; rw [xab (xat c0),hpf,xab (by simp)]
    have h6:zfv (partT t fr to size) ⟨0,0⟩ ⟨0,0⟩ ⟨zee t,zeo t,zig t,zhv t,allT t⟩ t (zq4 t fr to) size=some (true,⟨zee t,zeo t,zig t,zhv t,allT t⟩,t):=by
     unfold zfv zjo
     rw [xab (fsame _),xab (by simp)]
     by_cases c3:(zq4 t fr to).length=0
     ·rw [ifF ..,zac,zac]
      dsimp only
      have:partT t fr to size=⟨⟨[],0⟩,[],zeo t,t.Since⟩:=by unfold partT; rw [xac c3]
      rw [this,sameT_eq _ _ (by simp),zac]
      simp
     ·rw [ifT ..,show zkg (zq4 t fr to) size=some (ze2 (zq4 t fr to) size) from rfile_eq hg.code hg.len size,zac,zac,zac]
      dsimp only
      have:partT t fr to size=⟨⟨[],0⟩,[ze2 (zq4 t fr to) size],zeo t,t.Since⟩:=by unfold partT; rw [xab c3]
      rw [this,sameT_eq _ _ (by simp),zac]
      simp
    rw [hp,hm,h6]; rfl
   ·have hne:¬ (zq4 t fr to).length=0:=fun q=>by
     rw [xag q,make_none c1] at c2
     exact c2 rfl
    have hpf:partF t fr to size=zl3 (zq4 t fr to) size:=by unfold partF; rw [xab (xat c1),xab hne]
    have hp:zq7 t fr to size=(T0,zl3 (zq4 t fr to) size):=by unfold zq7; rw [xab (xat c0),hpf,xac c2]
    rw [hp,as6_bad c2]; rfl
  ·have hpf:partF t fr to size=sizF size:=by unfold partF; rw [xac c1]
   have hp:zq7 t fr to size=(T0,sizF size):=by unfold zq7; rw [xab (xat c0),hpf,xac c1]
   rw [xab (d_f c1),zac]
   dsimp only
   rw [hp,as6_bad c1]; rfl
 ·have hp:zq7 t fr to size=(T0,zk0 t):=by unfold zq7; rw [xac c0]
  rw [xab (d_f c0),zac]
  dsimp only
  rw [between_eq _ _ _ hA,zac,xab (d_f c0),zac]
  dsimp only
  rw [hp,as6_bad c0]; rfl
theorem makes_whole (at0 since size:Int)(fr to:B8)(a b:Tablet)(f:Fault)(d:Tablet)(g:Fault)(i:Inside)(w v:Fault)(hm:i.Mem.length<=100000):zgg at0 since size fr to (a,b,f,d,g,i,w,v,decide (at0=0),0)=zd3 at0 since size fr to (a,b,f,d,g,i,w,v,decide (at0=0) && !(earB i.Mem since)):=by
 have main:∀ m k:Nat,i.Mem.length - k=m->k<=i.Mem.length->zgg at0 since size fr to (a,b,f,d,g,i,w,v,decide (at0=0) && !(earB (i.Mem.take k) since),(k:Int))=zd3 at0 since size fr to (a,b,f,d,g,i,w,v,decide (at0=0) && !(earB i.Mem since)):=by
  intro m
  induction m with
  | zero=>
   intro k e hk
   have:k=i.Mem.length:=by omega
   subst this
   have hB:zgk at0 since size fr to (a,b,f,d,g,i,w,v,decide (at0=0) && !(earB (i.Mem.take i.Mem.length) since),(i.Mem.length:Int))=zev (zd3 at0 since size fr to (a,b,f,d,g,i,w,v,decide (at0=0) && !(earB i.Mem since))):=by
    unfold zgk
    dsimp only
    rw [ifF ..,xbg]
   unfold zgg
   rw [znx,hB]
   cases zd3 at0 since size fr to (a,b,f,d,g,i,w,v,decide (at0=0) && !(earB i.Mem since)) <;> rfl
  | succ m ih=>
   intro k e hk
   refine (zak ?_).trans (ih (k+1) (by omega) (by omega))
   have hw:w64 ((k:Int)+1)=((k+1:Nat):Int):=by rw [zai ..]; omega
   have he:(decide (at0=0) && !(earB (i.Mem.take k) since)&&(decide (since<=(zad i.Mem (k:Int)).Time)))=(decide (at0=0) && !(earB (i.Mem.take (k+1)) since)):=by
    unfold earB
    rw [zdq i.Mem k (by omega),List.any_append]
    have:decide (since<=(zad i.Mem (k:Int)).Time) = !decide ((zad i.Mem (k:Int)).Time<since):=by
     by_cases q:(zad i.Mem (k:Int)).Time<since
     ·rw [xbm q,xa0 (by omega)]; rfl
     ·rw [xa0 q,xbm (by omega)]; rfl
    rw [this]
    simp only [List.any_cons,List.any_nil,xdj,Bool.not_or,Bool.and_assoc]
   unfold zgk
   dsimp only
   rw [ifT ..,zaa (fun _=>by omega)]
   dsimp only [lt]
   rw [he,hw]
 have:=main _ 0 rfl (xa2 _)
 rw [<- this]
 congr 1
 simp [earB]
theorem TabletMakes_eq (t:Tablet)(at0 since size:Int)(fr to:B8)(h0:t.Log.Bytes.length<=140737488351232)(hl:t.Files.length<=140737488351232)(hb:∀ b∈t.Files,b.length<=140737488351232):zlv t at0 since size fr to=some true:=by
 obtain ⟨b,hv,hfew⟩:=vast_eq t h0 hl hb
 unfold zlv
 rw [tabBegun,zac,xab (by decide),hv,zac]
 cases b with
 | true=>rw [xac rfl]
 | false=>
  have hF:=hfew rfl
  rw [xab (by decide),ownT_eq hF,zac,pack_eq,zac,partv_eq,zac,inside_eq,zac,sameT_eq t t (by have:=hF.files; omega),zac,xab (by simp),insS_f]
  by_cases c0:(zk0 t).Code=0
  ·have hT:=zpd c0
   have hi:(insS t).1=⟨zee t,zeo t,zig t,zhv t,allT t⟩:=by unfold insS; rw [hT.head,xab (by simp)]
   have bad:∀ f:Fault,¬ f.Code=0->packF t at0 since size=f->zej at0 since size fr to (t,(packS t at0 since size).1,(packS t at0 since size).2,(zq7 t fr to size).1,(zq7 t fr to size).2,(insS t).1,zk0 t,f,[])=some true:=fun f hf he=>by
    refine makes_J1 hF at0 since size fr to ?_
    have hp:packS t at0 since size=(T0,f):=by unfold packS; rw [xab (xat c0),he,xac hf]
    rw [hp]
    exact as5_bad hf _ _ _ _ _
   by_cases c1:at0<0\/(t.Files.length:Int)<=at0
   ·rw [xac (by rw [d_t c0,or_t c1]; rfl)]
    dsimp only [lt,R_F]
    rw [zac]
    dsimp only
    rw [xab (by simp),zac]
    dsimp only
    rw [xab (by simp),zac]
    dsimp only
    rw [xab (by simp)]
    exact bad _ (by simp) (by unfold packF; rw [xac c1])
   rw [xab (by rw [d_t c0,or_b c1]; simp),zac]
   dsimp only
   by_cases c2:since<0\/1000000000<since
   ·rw [xac (by rw [d_t c0,or_t c2]; rfl)]
    dsimp only [lt,R_F]
    rw [zac]
    dsimp only
    rw [xab (by simp),zac]
    dsimp only
    rw [xab (by simp)]
    exact bad _ (by simp) (by unfold packF; rw [xab c1,xac c2])
   rw [xab (by rw [d_t c0,or_b c2]; simp),zac]
   dsimp only
   rw [xac (d_t c0),rsize_eq]
   dsimp only [lt]
   rw [zac]
   dsimp only
   by_cases c3:(sizF size).Code=0
   ·have hs:¬ (size<50\/4000<size):=fun q=>by unfold sizF at c3; rw [xac q] at c3; cases c3
    have hmem:=hT.mem
    rw [xac (d_t c3),makes_whole _ _ _ _ _ _ _ _ _ _ _ _ _ (by rw [hi]; show (zig t).length<=100000; omega)]
    unfold zd3
    dsimp only
    rw [hi]
    dsimp only
    have hfl:(zhv t).length=t.Files.length:=by unfold zhv; rw [xao]
    obtain ⟨h1,h2⟩:=drop_good hT at0.toNat
    have hld:zc1 (zhv t) at0=(zhv t).drop at0.toNat:=rfl
    have hgp:=pack_good hT at0 since
    have hpl:cmpL since (decide (at0=0) && !(earB (zig t) since)) none (firsts ((zhv t).drop at0.toNat).flatten)=packL t at0 since:=rfl
    have hgw:Gw (firsts ((zhv t).drop at0.toNat).flatten):=⟨by omega,(zf2 _).1⟩
    rw [zaa ..,hld,togethr_eq (fun g hg=>(h1.good g hg).srt) (by have:=h1.few; omega) (by have:=h1.flat; omega),zac,doc_eq _ _ _ hgw,zac,hpl,made_eq hgp hs,zac]
    have:=makes_J1 hF at0 since size fr to (f:=zl3 (packL t at0 since) size) (L:=packL t at0 since) (by
     have hpf:packF t at0 since size=zl3 (packL t at0 since) size:=by unfold packF; rw [xab c1,xab c2,xab (xat c3)]
     by_cases c4:(zl3 (packL t at0 since) size).Code=0
     ·have hm:=(zqb c4).1
      have hp:packS t at0 since size=(packT t at0 since size,⟨0,0⟩):=by unfold packS; rw [xab (xat c0),hpf,xab (xat c4)]
      rw [hp,hm]
      unfold zfy zgz
      have hlt:zd8 t.Files at0=t.Files.take at0.toNat:=rfl
      have hfew2:=hT.few
      rw [xab (fsame _),xab (by simp),zaa ..,hlt,ownB0_eq _ (by rw [xal]; omega) (fun b hb=>by have:=(hT.fil b (xbp hb)).2; omega),zac,rfile0_eq hgp.code hgp.len size,zac,zaa (by rw [xaa,xal,xan]; omega),zac,sameT_eq _ _ (by unfold packT; rw [xaa,xal,xan]; omega),zac]
      simp [packT]
     ·have hp:packS t at0 since size=(T0,zl3 (packL t at0 since) size):=by unfold packS; rw [xab (xat c0),hpf,xac c4]
      rw [hp]
      exact as5_bad c4 _ _ _ _ _)
    rw [hi] at this
    exact this
   ·rw [xab (d_f c3)]
    exact bad _ c3 (by unfold packF; rw [xab c1,xab c2,xac c3])
  ·rw [xab (by rw [show decide ((zk0 t).Code=0)=false from xa0 c0]; simp),zac]
   dsimp only
   rw [xab (by rw [show decide ((zk0 t).Code=0)=false from xa0 c0]; simp),zac]
   dsimp only
   rw [xab (d_f c0),zac]
   dsimp only
   rw [xab (d_f c0)]
   refine makes_J1 hF at0 since size fr to ?_
   have hp:packS t at0 since size=(T0,zk0 t):=by unfold packS; rw [xac c0]
   rw [hp]
   exact as5_bad c0 _ _ _ _ _
end G
end Go.Proofs.YticbfakiihfgmaaGreat
