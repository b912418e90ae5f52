/- The plain law. -/
import Derived.Test.YticbfakiihfgmaaGreatPAll0
namespace Go.Proofs.YticbfakiihfgmaaGreat
open Go Go.Dm
set_option linter.unusedVariables false
set_option linter.unusedSimpArgs false
set_option linter.unusedSectionVars false
namespace G
def sizF (size:Int):Fault:=if size<50∨4000<size then ⟨3,-1⟩ else ⟨0,0⟩
theorem sized_eq (size:Int):tablet_sized size=sizF size:=by
 unfold tablet_sized sizF
 by_cases c:size<50∨4000<size
 ·rw [if_pos (or_t c),if_pos c]; rfl
 ·rw [if_neg (or_f c),if_neg c]
noncomputable def flushF (t:Tablet) (size:Int):Fault:=
 if ¬ (sizF size).Code=0 then sizF size else if lastT t=t.Done then ⟨6,0⟩ else if t.Files.length=10 then ⟨2,-2⟩ else makeF (memT t) size
noncomputable def flushS (t:Tablet) (size:Int):Tablet×Fault:=
 if ¬ (tabF t).Code=0 then (T0,tabF t)
 else if ¬ (flushF t size).Code=0 then (T0,flushF t size)
 else (⟨t.Log,fileB (memT t) size::t.Files,lastT t,t.Since⟩,⟨0,0⟩)
theorem makeF_ok {l:List Cell} {size:Int} (h:(makeF l size).Code=0):makeF l size=⟨0,0⟩∧(fileB l size).length≤60000∧Good l∧l.length≤500:=by
 unfold makeF at h ⊢
 by_cases c1:(cellF l).Code=0
 ·rw [if_neg (not_not_intro c1)] at h ⊢
  by_cases c2:500<l.length
  ·rw [if_pos c2] at h; cases h
  ·rw [if_neg c2] at h ⊢
   by_cases c3:size<50∨4000<size
   ·rw [if_pos c3] at h; cases h
   ·rw [if_neg c3] at h ⊢
    by_cases c4:60000<(fileB l size).length
    ·rw [if_pos c4] at h; cases h
    ·rw [if_neg c4]; exact ⟨rfl,by omega,cellF_good c1,by omega⟩
 ·rw [if_pos c1] at h; exact absurd h c1
theorem flush1_eq (t:Tablet) (size:Int) (h:TG t):∃ x,tablet_Flush_1_v1 t.Log.Bytes t.Log.Kept t.Files t.Done t.Since (lastT t) size t (notT t) (memT t) (filT t)=some x∧x.1=flushF t size∧
  ((flushF t size).Code=0→x=(⟨0,0⟩,t.Log.Bytes,t.Log.Kept,fileB (memT t) size::t.Files,lastT t,t.Since,lastT t,memT t)):=by
 have hfew:=h.few
 unfold tablet_Flush_1_v1 flushF
 rw [sized_eq]
 dsimp only [lt]
 by_cases c:(sizF size).Code=0
 ·rw [if_neg (n_f c),if_neg (not_not_intro c)]
  by_cases c1:lastT t=t.Done
  ·rw [if_pos (d_t c1),if_pos c1]
   exact ⟨_,rfl,rfl,fun h=>by cases h⟩
  ·rw [if_neg (d_f c1),if_neg c1]
   by_cases c2:t.Files.length=10
   ·rw [if_pos (d_t (by omega)),if_pos c2]
    exact ⟨_,rfl,rfl,fun h=>by cases h⟩
   ·rw [if_neg (d_f (by omega)),if_neg c2,make_eq,ob_some,asrt_pos (by simp; omega)]
    refine ⟨_,rfl,?_,fun hz=>?_⟩
    ·unfold makeS
     by_cases c3:(makeF (memT t) size).Code=0
     ·rw [if_pos c3,(makeF_ok c3).1]
     ·rw [if_neg c3]
    ·unfold makeS
     rw [if_pos hz]; rfl
 ·rw [if_pos (n_t c),if_pos c]
  exact ⟨_,rfl,rfl,fun h=>absurd h c⟩
theorem flush_eq (t:Tablet) (size:Int):tablet_Flush_v1 t size=some (flushS t size):=by
 unfold tablet_Flush_v1 tablet_with_v1 flushS
 rw [load_eq,ob_some]
 by_cases h1:(headT t).Code=0
 ·rw [loadS_ok h1]
  dsimp only [sm]
  by_cases h2:(fillF (memT t) (filT t)).Code=0
  ·have hz:(tabF t).Code=0:=by unfold tabF; rw [if_neg (not_not_intro h1)]; exact h2
   have hT:=tabF_good hz
   obtain ⟨x,hx,hx1,hx2⟩:=flush1_eq t size hT
   rw [if_neg (n_f h2),hx,ob_some,if_neg (not_not_intro hz)]
   by_cases h3:(flushF t size).Code=0
   ·have e:=hx2 h3
    subst e
    have hmk:(makeF (memT t) size).Code=0:=by
     unfold flushF at h3
     split at h3
     ·exact absurd h3 (by assumption)
     ·split at h3
      ·cases h3
      ·split at h3
       ·cases h3
       ·exact h3
    rw [if_neg (n_f rfl),own_eq _ (by show t.Log.Bytes.length≤1000000; have:=hT.log.len; omega) (by show (fileB (memT t) size::t.Files).length≤1000; have:=hT.few; simp; omega) (fun b hb=>by
     rcases List.mem_cons.1 hb with q | q
     ·rw [q]; have:=(makeF_ok hmk).2.1; omega
     ·have:=(hT.fil b q).2; omega),ob_some,ob_some]
    dsimp only
    rw [if_neg (not_not_intro h3)]
   ·rw [if_pos (n_t (by rw [hx1]; exact h3)),ob_some,if_pos h3,hx1]; rfl
  ·have hf:tabF t=fillF (memT t) (filT t):=by unfold tabF; rw [if_neg (not_not_intro h1)]
   rw [if_pos (n_t h2),ob_some,hf,if_pos h2]; rfl
 ·have hf:tabF t=headT t:=by unfold tabF; rw [if_pos h1]
  rw [loadS_bad h1]
  dsimp only [sm]
  rw [if_pos (n_t h1),ob_some,hf,if_pos h1]; rfl
noncomputable def cutB (t:Tablet):List UInt8:=frm ((notT t).filter fun n=>decide (t.Done<n.Seq))
noncomputable def cutS (t:Tablet):Tablet×Fault:=
 if ¬ (tabF t).Code=0 then (T0,tabF t) else (⟨⟨cutB t,((cutB t).length:Int)⟩,t.Files,t.Done,t.Since⟩,⟨0,0⟩)
theorem wframe2_eq (n:Note) (h:NGood n) (row:List UInt8) (hr:row.length≤1000000000):wal_Frame_v2 n row=some (row++frame (encN n)):=by
 have hl:=encN_len h
 unfold wal_Frame_v2
 rw [wbytes_eq n h,ob_some,addFrame_eq _ _ (by omega) hr,ob_some]
theorem frm_take_len (t:Tablet) (h:TG t) (k:Nat) (p:Note→Bool):(frm (((notT t).take k).filter p)).length≤60000:=by
 have h1:=frm_filter p ((notT t).take k)
 have h2:(frm ((notT t).take k)).length≤(frm (notT t)).length:=by
  have:frm (notT t)=frm ((notT t).take k)++frm ((notT t).drop k):=by rw [← frm_app,List.take_append_drop]
  rw [this,List.length_append]; omega
 have h3:=frm_logd t.Log.Bytes
 obtain ⟨l1,_,_⟩:=logd_le t.Log.Bytes
 have:=h.log.len
 unfold notT at h2 h1 ⊢
 omega
theorem cut1_eq (t:Tablet) (h:TG t):tablet_Cut_1 t.Log.Bytes t.Log.Kept t.Files t.Done t.Since (lastT t) t (notT t) (memT t) (filT t)=some (⟨0,0⟩,cutB t,((cutB t).length:Int),t.Files,t.Done,t.Since,lastT t,t):=by
 obtain ⟨l1,l2,l3⟩:=logd_le t.Log.Bytes
 have hlen:=h.log.len
 have hnl:(notT t).length≤60000:=by unfold notT; omega
 have key:∀ (m k:Nat),(notT t).length - k=m→k≤(notT t).length→tablet_Cut_1_L1 t.Files t.Done t.Since (lastT t) (notT t) (t,⟨0,0⟩,frm (((notT t).take k).filter fun n=>decide (t.Done<n.Seq)),(k:Int))=some (⟨0,0⟩,cutB t,((cutB t).length:Int),t.Files,t.Done,t.Since,lastT t,t):=by
  intro m
  induction m with
  | zero=>
   intro k e hk
   have:k=(notT t).length:=by omega
   subst this
   refine loopO_inr ?_
   unfold tablet_Cut_1_B1 tablet_Cut_1_J1
   dsimp only
   rw [if_neg (d_f (by omega)),List.take_length]; rfl
  | succ m ih=>
   intro k e hk
   have hkl:k<(notT t).length:=by omega
   have hw:w64 ((k:Int)+1)=((k+1:Nat):Int):=by rw [w64_id (by omega) (by omega)]; omega
   have hgn:=l3 _ (lget_mem (notT t) (k:Int) (by omega))
   have hfl:=frm_take_len t h k (fun n=>decide (t.Done<n.Seq))
   refine (loopO_inl ?_).trans (ih (k+1) (by omega) (by omega))
   unfold tablet_Cut_1_B1
   dsimp only
   rw [if_pos (d_t (by omega)),asrt_pos (by omega),asrt_pos (by omega),hw,lget_take (notT t) k hkl,List.filter_append]
   by_cases c:t.Done<(lget (notT t) (k:Int)).Seq
   ·rw [if_pos (d_t c),show (⟨(lget (notT t) (k:Int)).Seq,(lget (notT t) (k:Int)).Cells⟩:Note)=lget (notT t) (k:Int) from rfl,wframe2_eq _ hgn _ (by omega),ob_some,ob_some,frm_app]
    have:[lget (notT t) (k:Int)].filter (fun n=>decide (t.Done<n.Seq))=[lget (notT t) (k:Int)]:=by simp [c]
    rw [this]
    simp [frm]
   ·rw [if_neg (d_f c),ob_some,frm_app]
    have:[lget (notT t) (k:Int)].filter (fun n=>decide (t.Done<n.Seq))=[]:=by simp [c]
    rw [this]
    simp [frm]
 exact key (notT t).length 0 (by omega) (by omega)
theorem cut_eq' (t:Tablet):tablet_Cut_v1 t=some (cutS t):=by
 unfold tablet_Cut_v1 tablet_with_v2 cutS
 rw [load_eq,ob_some]
 by_cases h1:(headT t).Code=0
 ·rw [loadS_ok h1]
  dsimp only [sm]
  by_cases h2:(fillF (memT t) (filT t)).Code=0
  ·have hz:(tabF t).Code=0:=by unfold tabF; rw [if_neg (not_not_intro h1)]; exact h2
   have hT:=tabF_good hz
   rw [if_neg (n_f h2),cut1_eq t hT,ob_some,if_neg (not_not_intro hz),if_neg (n_f rfl),own_eq _ (by
    show (cutB t).length≤1000000
    have:=frm_take_len t hT (notT t).length (fun n=>decide (t.Done<n.Seq))
    rw [List.take_length] at this
    unfold cutB; omega) (by show t.Files.length≤1000; have:=hT.few; omega) (fun b hb=>by have:=(hT.fil b hb).2; omega),ob_some,ob_some]
  ·have hf:tabF t=fillF (memT t) (filT t):=by unfold tabF; rw [if_neg (not_not_intro h1)]
   rw [if_pos (n_t h2),ob_some,hf,if_pos h2]; rfl
 ·have hf:tabF t=headT t:=by unfold tabF; rw [if_pos h1]
  rw [loadS_bad h1]
  dsimp only [sm]
  rw [if_pos (n_t h1),ob_some,hf,if_pos h1]; rfl
structure Gw (l:List Cell):Prop where
 len:l.length≤100000
 srt:l.Pairwise ah
theorem Gw.at {l:List Cell} (h:Gw l) {i j:Nat} (hij:i<j) (hj:j<l.length):ah (lget l (i:Int)) (lget l (j:Int)):=by
 rw [lget_nat l i (by omega),lget_nat l j hj]
 exact (List.pairwise_iff_getElem.1 h.srt) i j (by omega) hj hij
def at' (row col:List UInt8) (t:Int) (c:Cell):Bool:=decide (c.Row=row)&&decide (c.Col=col)&&decide (c.Time≤t)
theorem at_iff {row col:List UInt8} {t:Int} {c:Cell}:at' row col t c=true↔c.Row=row∧c.Col=col∧c.Time≤t:=by
 unfold at'; simp [and_assoc]
def fnd (l:List Cell) (row col:List UInt8) (t:Int):Option Cell:=l.find? (at' row col t)
theorem fnd_some {l:List Cell} {row col:List UInt8} {t:Int} {i:Nat} (hi:i<l.length) (h:at' row col t (lget l (i:Int))=true) (hn:∀ j<i,at' row col t (lget l (j:Int))=false):fnd l row col t=some (lget l (i:Int)):=by
 unfold fnd
 rw [List.find?_eq_some_iff_getElem]
 refine ⟨h,i,hi,(lget_nat l i hi).symm,fun j hj=>?_⟩
 have:=hn j hj
 rw [lget_nat l j (by omega)] at this
 simp [this]
def pl (a b:Cell):Prop:=a.Row=b.Row∧a.Col=b.Col
theorem pl_between {x y z:Cell} (h1:ah x y) (h2:ah y z) (h:pl x z):pl x y:=by
 unfold ah pl at *
 obtain ⟨hr,hc⟩:=h
 rcases h1 with h1 | ⟨e1,h1⟩
 ·exfalso
  rcases h2 with h2 | ⟨e2,h2⟩
  ·have:=bl_trans h1 h2; rw [hr,bl_irr] at this; cases this
  ·rw [hr,e2,bl_irr] at h1; cases h1
 ·refine ⟨e1,?_⟩
  rcases h1 with h1 | ⟨f1,h1⟩
  ·exfalso
   rcases h2 with h2 | ⟨e2,h2⟩
   ·rw [← e1,hr,bl_irr] at h2; cases h2
   ·rcases h2 with h2 | ⟨f2,h2⟩
    ·have:=bl_trans h1 h2; rw [hc,bl_irr] at this; cases this
    ·rw [hc,f2,bl_irr] at h1; cases h1
  ·exact f1
def inA (a:Ask) (c:Cell):Bool:=!((Op.bytesLess c.Row a.From)||((!decide (a.To=([]:List UInt8)))&&(!Op.bytesLess c.Row a.To)))
theorem inA_row {a:Ask} {c d:Cell} (h:c.Row=d.Row):inA a c=inA a d:=by unfold inA; rw [h]
open Classical in
noncomputable def vis (l:List Cell) (a:Ask) (c:Cell):Bool:=inA a c&&decide (fnd l c.Row c.Col a.Time=some c) && !c.Gone
theorem vis_iff {l:List Cell} {a:Ask} {c:Cell}:vis l a c=true↔inA a c=true∧fnd l c.Row c.Col a.Time=some c∧c.Gone=false:=by
 unfold vis; simp [and_assoc]
theorem fnd_at {l:List Cell} {row col:List UInt8} {t:Int} {c:Cell} (h:fnd l row col t=some c):c∈l∧c.Row=row∧c.Col=col∧c.Time≤t:=
 ⟨List.mem_of_find?_eq_some h,at_iff.1 (by unfold fnd at h; exact List.find?_some h)⟩
theorem take_filter_full {α:Type} (p:α→Bool) (l:List α) (k:Nat) (m:Nat) (h:((l.take k).filter p).length=m):(l.filter p).take m=(l.take k).filter p:=by
 have:l.filter p=(l.take k).filter p++(l.drop k).filter p:=by rw [← List.filter_append,List.take_append_drop]
 rw [this,← h]; simp
theorem Gw.inj {l:List Cell} (hg:Gw l) {i j:Nat} (hi:i<l.length) (hj:j<l.length) (h:lget l (i:Int)=lget l (j:Int)):i=j:=by
 by_cases h1:i<j
 ·have:=hg.at h1 hj; rw [h] at this; exact absurd this (ah_irr _)
 ·by_cases h2:j<i
  ·have:=hg.at h2 hi; rw [h] at this; exact absurd this (ah_irr _)
  ·omega
def candA (a:Ask) (c:Cell):Prop:=inA a c=true∧c.Time≤a.Time
def fst' (l:List Cell) (a:Ask) (k:Nat):Prop:=∀ i<k,candA a (lget l (i:Int))→¬ pl (lget l (i:Int)) (lget l (k:Int))
theorem vis_no {l:List Cell} {a:Ask} {c:Cell} (h:¬ candA a c):vis l a c=false:=by
 cases hv:vis l a c with
 | false=>rfl
 | true=>
  obtain ⟨h1,h2,_⟩:=vis_iff.1 hv
  exact absurd ⟨h1,(fnd_at h2).2.2.2⟩ h
theorem vis_fst {l:List Cell} (hg:Gw l) {a:Ask} {k:Nat} (hk:k<l.length) (hc:candA a (lget l (k:Int))) (hf:fst' l a k):vis l a (lget l (k:Int)) = !(lget l (k:Int)).Gone:=by
 have:fnd l (lget l (k:Int)).Row (lget l (k:Int)).Col a.Time=some (lget l (k:Int)):=by
  refine fnd_some hk (at_iff.2 ⟨rfl,rfl,hc.2⟩) fun j hj=>?_
  cases ha:at' (lget l (k:Int)).Row (lget l (k:Int)).Col a.Time (lget l (j:Int)) with
  | false=>rfl
  | true=>
   obtain ⟨h1,h2,h3⟩:=at_iff.1 ha
   exact absurd ⟨h1,h2⟩ (hf j hj ⟨by rw [inA_row h1]; exact hc.1,h3⟩)
 unfold vis
 rw [hc.1,decide_eq_true this]; simp
theorem vis_later {l:List Cell} (hg:Gw l) {a:Ask} {k:Nat} (hk:k<l.length) {i:Nat} (hi:i<k) (hc:candA a (lget l (i:Int))) (hp:pl (lget l (i:Int)) (lget l (k:Int))):vis l a (lget l (k:Int))=false:=by
 cases hv:vis l a (lget l (k:Int)) with
 | false=>rfl
 | true=>
  exfalso
  obtain ⟨h1,h2,_⟩:=vis_iff.1 hv
  unfold fnd at h2
  rw [List.find?_eq_some_iff_getElem] at h2
  obtain ⟨_,j,hj,hje,hjn⟩:=h2
  have e:lget l (j:Int)=lget l (k:Int):=by rw [lget_nat l j hj]; exact hje
  have hjk:=hg.inj hj hk e
  subst hjk
  have:=hjn i hi
  rw [← lget_nat l i (by omega)] at this
  have h3:at' (lget l (j:Int)).Row (lget l (j:Int)).Col a.Time (lget l (i:Int))=true:=at_iff.2 ⟨hp.1,hp.2,hc.2⟩
  rw [h3] at this; cases this
theorem filter_succ {α:Type} [Inhabited α] (p:α→Bool) (l:List α) (k:Nat) (hk:k<l.length):(l.take (k+1)).filter p=(l.take k).filter p++(if p (lget l (k:Int))=true then [lget l (k:Int)] else []):=by
 rw [lget_take l k hk,List.filter_append]
 congr 1
 by_cases h:p (lget l (k:Int))=true <;> simp [h]
def rec' (l:List Cell) (a:Ask) (k:Nat) (row col:List UInt8) (done:Bool):Prop:=
 (done=true→∃ i<k,candA a (lget l (i:Int))∧(lget l (i:Int)).Row=row∧(lget l (i:Int)).Col=col)∧
 (∀ i<k,candA a (lget l (i:Int))→(done=true∧(lget l (i:Int)).Row=row∧(lget l (i:Int)).Col=col)∨∀ j,k≤j→j<l.length→¬ pl (lget l (i:Int)) (lget l (j:Int)))
theorem seenL (l:List Cell) (hg:Gw l) (a:Ask) (hm:0≤a.Many):∀ (m k:Nat) (row col:List UInt8) (done:Bool),l.length - k=m→k≤l.length→(((l.take k).filter (vis l a)).length:Int)≤a.Many→rec' l a k row col done→
  cell_Seen_L1 l (a,(l.take k).filter (vis l a),row,col,done,(k:Int))=some ((l.filter (vis l a)).take a.Many.toNat)
 | 0,k,row,col,done,e,hk,ho,hr=>by
  have:k=l.length:=by omega
  subst this
  refine loopO_inr ?_
  simp only [cell_Seen_B1]
  rw [if_neg (d_f (by omega)),List.take_length]
  rw [List.take_length] at ho
  rw [List.take_of_length_le (by omega)]; rfl
 | m+1,k,row,col,done,e,hk,ho,hr=>by
  have hlt:k<l.length:=by omega
  have hlen:=hg.len
  have hw:w64 ((k:Int)+1)=((k+1:Nat):Int):=by rw [w64_id (by omega) (by omega)]; omega
  have hfs:=filter_succ (vis l a) l k hlt
  have hcond:((Op.bytesLess ((lget l (k:Int)).Row) a.From)||((!decide (a.To=([]:List UInt8)))&&(!Op.bytesLess ((lget l (k:Int)).Row) a.To))||(decide (a.Time<(lget l (k:Int)).Time))) = !(inA a (lget l (k:Int))&&decide ((lget l (k:Int)).Time≤a.Time)):=by
   unfold inA
   by_cases h:(lget l (k:Int)).Time≤a.Time
   ·have:¬ a.Time<(lget l (k:Int)).Time:=by omega
    simp [h,this]
   ·have:a.Time<(lget l (k:Int)).Time:=by omega
    simp [h,this]
  have head:∀ r,(if (inA a (lget l (k:Int))&&decide ((lget l (k:Int)).Time≤a.Time))=false then some (Sum.inl (a,(l.take k).filter (vis l a),row,col,done,((k+1:Nat):Int)))
    else if ((done&&(decide ((lget l (k:Int)).Row=row)))&&(decide ((lget l (k:Int)).Col=col)))=true then some (Sum.inl (a,(l.take k).filter (vis l a),row,col,done,((k+1:Nat):Int)))
    else if (lget l (k:Int)).Gone=true then some (Sum.inl (a,(l.take k).filter (vis l a),(lget l (k:Int)).Row,(lget l (k:Int)).Col,true,((k+1:Nat):Int)))
    else if (((l.take k).filter (vis l a)).length:Int)=a.Many then some (Sum.inr ((l.take k).filter (vis l a)))
    else some (Sum.inl (a,(l.take k).filter (vis l a)++[lget l (k:Int)],(lget l (k:Int)).Row,(lget l (k:Int)).Col,true,((k+1:Nat):Int))))=some r→
    cell_Seen_B1 l (a,(l.take k).filter (vis l a),row,col,done,(k:Int))=some r:=by
   intro r h
   have hfl:((l.take k).filter (vis l a)).length≤k:=Nat.le_trans (List.length_filter_le _ _) (by rw [List.length_take]; omega)
   simp only [cell_Seen_B1,cell_Seen_J2,cell_eta]
   rw [if_pos (d_t (by omega)),asrt_pos (by omega),hcond,hw]
   cases hb:(inA a (lget l (k:Int))&&decide ((lget l (k:Int)).Time≤a.Time)) with
   | false=>rw [hb] at h; rw [if_pos rfl] at h; rw [if_pos (by rfl)]; exact h
   | true=>
    rw [hb,if_neg (by simp)] at h
    rw [if_neg (by simp)]
    by_cases h1:((done&&(decide ((lget l (k:Int)).Row=row)))&&(decide ((lget l (k:Int)).Col=col)))=true
    ·rw [if_pos h1] at h ⊢; exact h
    ·rw [if_neg h1] at h ⊢
     by_cases h2:(lget l (k:Int)).Gone=true
     ·rw [if_pos h2] at h ⊢; exact h
     ·rw [if_neg h2] at h ⊢
      by_cases h3:(((l.take k).filter (vis l a)).length:Int)=a.Many
      ·rw [if_pos h3] at h; rw [if_pos (d_t h3)]; exact h
      ·rw [if_neg h3] at h; rw [if_neg (d_f h3),asrt_pos (by simp; omega)]; exact h
  by_cases hc:candA a (lget l (k:Int))
  ·have hcb:(inA a (lget l (k:Int))&&decide ((lget l (k:Int)).Time≤a.Time))=true:=by rw [hc.1,decide_eq_true hc.2]; rfl
   by_cases hs:done=true∧(lget l (k:Int)).Row=row∧(lget l (k:Int)).Col=col
   ·
    obtain ⟨i,hi,hci,hir,hic⟩:=hr.1 hs.1
    have hv:=vis_later hg hlt hi hci ⟨hir.trans hs.2.1.symm,hic.trans hs.2.2.symm⟩
    rw [hv] at hfs
    simp only [Bool.false_eq_true,if_false,List.append_nil] at hfs
    have ih:=seenL l hg a hm m (k+1) row col done (by omega) (by omega) (by rw [hfs]; exact ho) ⟨fun hd=>⟨i,by omega,hci,hir,hic⟩,fun j hj hcj=>by
     by_cases hjk:j=k
     ·subst hjk; exact .inl hs
     ·rcases hr.2 j (by omega) hcj with h | h
      ·exact .inl h
      ·exact .inr fun n hn=>h n (by omega)⟩
    rw [hfs] at ih
    refine (loopO_inl (head _ ?_)).trans ih
    rw [hcb,if_neg (by simp),if_pos (by simp [hs.1,hs.2.1,hs.2.2])]
   ·have hf:fst' l a k:=fun i hi hci hp=>by
     rcases hr.2 i hi hci with ⟨hd,h1,h2⟩ | h
     ·exact hs ⟨hd,hp.1.symm.trans h1,hp.2.symm.trans h2⟩
     ·exact h k (Nat.le_refl _) hlt hp
    have hv:=vis_fst hg hlt hc hf
    have hrec:rec' l a (k+1) (lget l (k:Int)).Row (lget l (k:Int)).Col true:=by
     refine ⟨fun _=>⟨k,by omega,hc,rfl,rfl⟩,fun i hi hci=>?_⟩
     by_cases hik:i=k
     ·subst hik; exact .inl ⟨rfl,rfl,rfl⟩
     ·refine .inr fun j hj hjl hp=>?_
      exact hf i (by omega) hci (pl_between (hg.at (by omega) hlt) (hg.at (by omega) hjl) hp)
    have hs':¬ ((done&&(decide ((lget l (k:Int)).Row=row)))&&(decide ((lget l (k:Int)).Col=col)))=true:=by
     simp only [Bool.and_eq_true,decide_eq_true_eq]
     exact fun h=>hs ⟨h.1.1,h.1.2,h.2⟩
    by_cases hgn:(lget l (k:Int)).Gone=true
    ·rw [hv,hgn] at hfs
     simp only [Bool.not_true,Bool.false_eq_true,if_false,List.append_nil] at hfs
     have ih:=seenL l hg a hm m (k+1) _ _ true (by omega) (by omega) (by rw [hfs]; exact ho) hrec
     rw [hfs] at ih
     refine (loopO_inl (head _ ?_)).trans ih
     rw [hcb,if_neg (by simp),if_neg hs',if_pos hgn]
    ·rw [hv] at hfs
     simp only [hgn,Bool.not_false,if_true] at hfs
     by_cases hfull:(((l.take k).filter (vis l a)).length:Int)=a.Many
     ·refine loopO_inr (head _ ?_)
      rw [hcb,if_neg (by simp),if_neg hs',if_neg hgn,if_pos hfull,take_filter_full (vis l a) l k a.Many.toNat (by omega)]
     ·have ih:=seenL l hg a hm m (k+1) _ _ true (by omega) (by omega) (by rw [hfs]; simp; omega) hrec
      rw [hfs] at ih
      refine (loopO_inl (head _ ?_)).trans ih
      rw [hcb,if_neg (by simp),if_neg hs',if_neg hgn,if_neg hfull]
  ·have hcb:(inA a (lget l (k:Int))&&decide ((lget l (k:Int)).Time≤a.Time))=false:=by
    cases h1:inA a (lget l (k:Int)) with
    | false=>rfl
    | true=>simp; exact Int.not_le.1 fun h2=>hc ⟨h1,h2⟩
   have hv:=vis_no (l:=l) hc
   rw [hv] at hfs
   simp only [Bool.false_eq_true,if_false,List.append_nil] at hfs
   have ih:=seenL l hg a hm m (k+1) row col done (by omega) (by omega) (by rw [hfs]; exact ho) ⟨fun hd=>by
     obtain ⟨i,hi,h⟩:=hr.1 hd
     exact ⟨i,by omega,h⟩,fun j hj hcj=>by
     by_cases hjk:j=k
     ·subst hjk; exact absurd hcj hc
     ·rcases hr.2 j (by omega) hcj with h | h
      ·exact .inl h
      ·exact .inr fun n hn=>h n (by omega)⟩
   rw [hfs] at ih
   refine (loopO_inl (head _ ?_)).trans ih
   rw [hcb,if_pos rfl]
theorem seenA_eq (l:List Cell) (hg:Gw l) (a:Ask) (hm:0≤a.Many):cell_Seen l a=some ((l.filter (vis l a)).take a.Many.toNat):=by
 have:=seenL l hg a hm l.length 0 [] [] false (by omega) (by omega) (by simpa using hm) ⟨fun h=>(by cases h),fun i hi=>by omega⟩
 rw [show cell_Seen l a=cell_Seen_L1 l (a,[],[],[],false,0) from rfl]
 simpa using this
def askF (a:Ask):Fault:=if a.Time<0∨1000000000<a.Time then ⟨3,-1⟩ else if a.Many<0∨1000<a.Many then ⟨3,-2⟩ else ⟨0,0⟩
theorem asked_eq (a:Ask):cell_Asked a=askF a:=by
 unfold cell_Asked askF
 by_cases c1:a.Time<0∨1000000000<a.Time
 ·rw [if_pos (or_t c1),if_pos c1]; rfl
 ·rw [if_neg (or_f c1),if_neg c1]
  by_cases c2:a.Many<0∨1000<a.Many
  ·rw [if_pos (or_t c2),if_pos c2]; rfl
  ·rw [if_neg (or_f c2),if_neg c2]
theorem askF_good {a:Ask} (h:(askF a).Code=0):askF a=⟨0,0⟩∧0≤a.Time∧a.Time≤1000000000∧0≤a.Many∧a.Many≤1000:=by
 unfold askF at h ⊢
 by_cases c1:a.Time<0∨1000000000<a.Time
 ·rw [if_pos c1] at h; cases h
 ·by_cases c2:a.Many<0∨1000<a.Many
  ·rw [if_neg c1,if_pos c2] at h; cases h
  ·rw [if_neg c1,if_neg c2]; exact ⟨rfl,by omega⟩
theorem all_gw {t:Tablet} (h:TG t):Gw (allT t):=⟨by have:=h.all; omega,(firsts_ok _).1⟩
theorem filT_len {t:Tablet} (h:TG t):(filT t).length≤1000∧(filT t).flatten.length≤1000000000:=by
 have h1:=fil_flat t.Files
 have h2:=h.few
 unfold filT
 exact ⟨by simp; omega,by omega⟩
noncomputable def scanS (t:Tablet) (a:Ask):List Cell×Fault:=
 if ¬ (tabF t).Code=0 then ([],tabF t)
 else if ¬ (askF a).Code=0 then ([],askF a)
 else if a.Time<t.Since then ([],⟨12,-1⟩)
 else (((allT t).filter (vis (allT t) a)).take a.Many.toNat,⟨0,0⟩)
theorem scan_eq (t:Tablet) (a:Ask):tablet_Scan_v1 t a=some (scanS t a):=by
 unfold tablet_Scan_v1 scanS
 rw [load_eq,ob_some]
 by_cases h1:(headT t).Code=0
 ·rw [loadS_ok h1]
  dsimp only [sm]
  by_cases h2:(fillF (memT t) (filT t)).Code=0
  ·have hz:(tabF t).Code=0:=by unfold tabF; rw [if_neg (not_not_intro h1)]; exact h2
   have hT:=tabF_good hz
   rw [if_pos (d_t h2),asked_eq]
   dsimp only [lt]
   rw [ob_some,if_neg (not_not_intro hz)]
   dsimp only
   by_cases h3:(askF a).Code=0
   ·obtain ⟨_,_,_,hm,_⟩:=askF_good h3
    rw [if_pos (d_t h3),if_neg (not_not_intro h3)]
    unfold tablet_tab_early
    by_cases h4:a.Time<t.Since
    ·rw [if_pos (d_t h4),ob_some,if_pos h4]; rfl
    ·rw [if_neg (d_f h4),ob_some,if_neg h4]
     dsimp only
     obtain ⟨f1,f2⟩:=filT_len hT
     rw [if_neg (by simp),all_eq _ _ _ _ _ _ _ _ _ (by have:=hT.mem; omega) f1 f2,ob_some]
     dsimp only
     rw [show allS (memT t) (filT t)=allT t from rfl,seenA_eq _ (all_gw hT) a hm,ob_some]
   ·rw [if_neg (d_f h3),ob_some,if_pos h3]
    dsimp only
    rw [if_pos (n_t h3)]
  ·have hf:tabF t=fillF (memT t) (filT t):=by unfold tabF; rw [if_neg (not_not_intro h1)]
   rw [if_neg (d_f h2),ob_some]
   dsimp only
   rw [if_neg (d_f h2),ob_some]
   dsimp only
   rw [if_pos (n_t h2),hf,if_pos h2]
 ·have hf:tabF t=headT t:=by unfold tabF; rw [if_pos h1]
  rw [loadS_bad h1]
  dsimp only [sm]
  rw [if_neg (d_f h1),ob_some]
  dsimp only
  rw [if_neg (d_f h1),ob_some]
  dsimp only
  rw [if_pos (n_t h1),hf,if_pos h1]
theorem vastT_run (t:Tablet) (hl:t.Files.length≤140737488351232):∃ b,law_vastTablet t=some b∧(b=false→t.Files.length≤100):=by
 have key:∀ (m k:Nat) (v:Int),t.Files.length - k=m→k≤t.Files.length→∃ b,law_vastTablet_L1 (t,v,(k:Int))=some b∧(b=false→t.Files.length≤100):=by
  intro m
  induction m with
  | zero=>
   intro k v e hk
   refine ⟨(decide (20000<v))||(decide (100<(t.Files.length:Int))),loopO_inr ?_,fun h=>?_⟩
   ·unfold law_vastTablet_B1 law_vastTablet_J1
    dsimp only
    rw [if_neg (d_f (by omega))]; rfl
   ·simp only [Bool.or_eq_false_iff,decide_eq_false_iff_not] at h
    omega
  | succ m ih=>
   intro k v e hk
   obtain ⟨b,h1,h2⟩:=ih (k+1) (w64 (v+((lget t.Files (k:Int)).length:Int))) (by omega) (by omega)
   refine ⟨b,(loopO_inl ?_).trans h1,h2⟩
   unfold law_vastTablet_B1
   dsimp only
   have:w64 ((k:Int)+1)=((k+1:Nat):Int):=by rw [w64_id (by omega) (by omega)]; omega
   rw [if_pos (d_t (by omega)),asrt_pos (by omega),this]
 exact key t.Files.length 0 _ (by omega) (by omega)
theorem lset_midT {α:Type} (a:List α) (x y:α) (b:List α):lset (a++x::b) (a.length:Int) y=a++y::b:=by
 unfold lset
 rw [Int.toNat_natCast,List.set_append_right _ _ (Nat.le_refl _),Nat.sub_self,List.set_cons_zero]
theorem tdel_loop (fr to:List UInt8) (l:List Cell) (hl:l.length≤100000):∀ (m j:Nat) (X mid:List Cell),j+m=l.length→X=(l.take j).filter (fun x=>!tablet_Part_1_1 x fr to)++mid++l.drop j→mid.length=j - ((l.take j).filter (fun x=>!tablet_Part_1_1 x fr to)).length→mid≠[]→
  slices_DeleteFunc_api_Cell_api_Cell_v1_L1 fr to (X,(((l.take j).filter (fun x=>!tablet_Part_1_1 x fr to)).length:Int),(j:Int))=some (l.filter (fun x=>!tablet_Part_1_1 x fr to)):=by
 intro m
 induction m with
 | zero=>
  intro j X mid hj hX hm hne
  have hjl:j=l.length:=by omega
  subst hjl
  rw [List.take_length] at hX hm ⊢
  rw [List.drop_length,List.append_nil] at hX
  have hXl:X.length=l.length:=by
   rw [hX,List.length_append,hm]
   have:=List.length_filter_le (fun x=>!tablet_Part_1_1 x fr to) l
   omega
  obtain ⟨K,hK⟩:∃ K,K=l.filter (fun x=>!tablet_Part_1_1 x fr to):=⟨_,rfl⟩
  rw [← hK] at hX hm ⊢
  have hKl:K.length≤l.length:=by rw [hK]; exact List.length_filter_le _ _
  refine loopO_inr ?_
  unfold slices_DeleteFunc_api_Cell_api_Cell_v1_B1
  dsimp only
  rw [if_neg (d_f (by omega))]
  unfold slices_DeleteFunc_api_Cell_api_Cell_v1_J1
  dsimp only [lt]
  have hcl:(lclear X (K.length:Int).toNat (X.length - (K.length:Int).toNat) ((⟨([]:List UInt8),([]:List UInt8),0,false,([]:List UInt8)⟩:Cell):Cell)).length=X.length:=by
   unfold lclear; simp; omega
  have htk:(lclear X (K.length:Int).toNat (X.length - (K.length:Int).toNat) ((⟨([]:List UInt8),([]:List UInt8),0,false,([]:List UInt8)⟩:Cell):Cell)).take (K.length:Int).toNat=K:=by
   unfold lclear
   rw [Int.toNat_natCast,List.append_assoc,List.take_left' (by rw [List.length_take]; omega),hX,List.take_left' rfl]
  rw [asrt_pos (by omega),asrt_pos (by rw [hcl]; omega),asrt_pos (by rw [hcl]; omega),htk]
  rfl
 | succ m ih=>
  intro j X mid hj hX hm hne
  have hjl:j<l.length:=by omega
  have hw:w64 ((j:Int)+1)=((j+1:Nat):Int):=by rw [w64_id (by omega) (by omega)]; omega
  have hfl:((l.take j).filter (fun x=>!tablet_Part_1_1 x fr to)).length≤j:=Nat.le_trans (List.length_filter_le _ _) (by simp; omega)
  have htk:=lget_take l j hjl
  obtain ⟨K,hK⟩:∃ K,K=(l.take j).filter (fun x=>!tablet_Part_1_1 x fr to):=⟨_,rfl⟩
  rw [← hK] at hX hm hfl ⊢
  have hXl:X.length=l.length:=by rw [hX,List.length_append,List.length_append,hm,List.length_drop]; omega
  have hXj:lget X (j:Int)=lget l (j:Int):=by
   rw [hX,lget_app_r _ _ _ (by rw [List.length_append,hm]; omega)]
   have:=lget_ldrop l (j:Int) ((j:Int) - ((K++mid).length:Int)) (by rw [List.length_append,hm]; omega)
   rw [ldrop_nat] at this
   rw [this]
   congr 1
   rw [List.length_append,hm]; omega
  have hw2:w64 ((K.length:Int)+1)=((K.length+1:Nat):Int):=by rw [w64_id (by omega) (by omega)]; omega
  have hb:∀ Y i,slices_DeleteFunc_api_Cell_api_Cell_v1_B1 fr to (X,(K.length:Int),(j:Int))=some (.inl (Y,i,((j+1:Nat):Int)))→slices_DeleteFunc_api_Cell_api_Cell_v1_L1 fr to (Y,i,((j+1:Nat):Int))=some (l.filter (fun x=>!tablet_Part_1_1 x fr to))→slices_DeleteFunc_api_Cell_api_Cell_v1_L1 fr to (X,(K.length:Int),(j:Int))=some (l.filter (fun x=>!tablet_Part_1_1 x fr to)):=
   fun Y i h1 h2=>(loopO_inl h1).trans h2
  have hB:slices_DeleteFunc_api_Cell_api_Cell_v1_B1 fr to (X,(K.length:Int),(j:Int))=some (.inl (if tablet_Part_1_1 (lget l (j:Int)) fr to=true then (X,(K.length:Int),((j+1:Nat):Int)) else (lset X (K.length:Int) (lget l (j:Int)),((K.length+1:Nat):Int),((j+1:Nat):Int)))):=by
   unfold slices_DeleteFunc_api_Cell_api_Cell_v1_B1
   dsimp only
   rw [if_pos (d_t (by omega)),asrt_pos (by omega),asrt_pos (by omega),cell_eta,hXj]
   dsimp only [lt]
   rw [hw,hw2,asrt_pos (by omega),asrt_pos (by omega)]
   cases hq:tablet_Part_1_1 (lget l (j:Int)) fr to with
   | true=>rw [if_neg (by decide),ob_some,if_pos rfl]
   | false=>rw [if_pos (by decide),ob_some,if_neg (by decide)]
  have hd:l.drop j=lget l (j:Int)::l.drop (j+1):=lget_drop l j hjl
  cases hq:tablet_Part_1_1 (lget l (j:Int)) fr to with
  | true=>
   rw [hq,if_pos rfl] at hB
   have e:(l.take (j+1)).filter (fun x=>!tablet_Part_1_1 x fr to)=K:=by rw [htk,List.filter_append,← hK]; simp [hq]
   refine hb _ _ hB ?_
   have:=ih (j+1) X (mid++[lget l (j:Int)]) (by omega) (by rw [e,hX,hd]; simp) (by rw [e,List.length_append,hm]; simp; omega) (by simp)
   rw [e] at this; exact this
  | false=>
   rw [hq,if_neg (by decide)] at hB
   have e:(l.take (j+1)).filter (fun x=>!tablet_Part_1_1 x fr to)=K++[lget l (j:Int)]:=by rw [htk,List.filter_append,← hK]; simp [hq]
   refine hb _ _ hB ?_
   obtain ⟨m0,mid',rfl⟩:∃ m0 mid',mid=m0::mid':=by
    cases mid with
    | nil=>exact absurd rfl hne
    | cons a b=>exact ⟨a,b,rfl⟩
   have hset:lset X (K.length:Int) (lget l (j:Int))=K++lget l (j:Int)::(mid'++l.drop j):=by
    rw [hX,List.append_assoc,List.cons_append]
    exact lset_midT _ _ _ _
   have:=ih (j+1) (lset X (K.length:Int) (lget l (j:Int))) (mid'++[lget l (j:Int)]) (by omega) (by rw [e,hset,hd]; simp) (by
    rw [e,List.length_append,List.length_append]
    simp at hm ⊢; omega) (by simp)
   rw [e,List.length_append,List.length_singleton] at this
   exact this
theorem tdelf_eq (fr to:List UInt8) (l:List Cell) (hl:l.length≤100000):slices_DeleteFunc_api_Cell_api_Cell_v1 fr to l=some (l.filter (fun x=>!tablet_Part_1_1 x fr to)):=by
 unfold slices_DeleteFunc_api_Cell_api_Cell_v1 slices_IndexFunc_api_Cell_api_Cell_v1
 have:=loop_first (step:=fun y=>slices_IndexFunc_api_Cell_api_Cell_v1_B1 fr to l y) l.length (fun j=>(j:Int)) (fun j=>tablet_Part_1_1 (lget l (j:Int)) fr to=true) (fun j=>(j:Int)) (r:=-1)
  (fun j hj hb=>by
   have hw:w64 ((j:Int)+1)=((j+1:Nat):Int):=by rw [w64_id (by omega) (by omega)]; omega
   show slices_IndexFunc_api_Cell_api_Cell_v1_B1 fr to l (j:Int)=_
   unfold slices_IndexFunc_api_Cell_api_Cell_v1_B1
   rw [if_pos (d_t (by omega)),asrt_pos (by omega),asrt_pos (by omega),cell_eta]
   dsimp only [lt]
   rw [if_neg hb,hw])
  (fun j hj hb=>by
   show slices_IndexFunc_api_Cell_api_Cell_v1_B1 fr to l (j:Int)=_
   unfold slices_IndexFunc_api_Cell_api_Cell_v1_B1
   rw [if_pos (d_t (by omega)),asrt_pos (by omega),asrt_pos (by omega),cell_eta]
   dsimp only [lt]
   rw [if_pos hb])
  (by
   show slices_IndexFunc_api_Cell_api_Cell_v1_B1 fr to l (l.length:Int)=_
   unfold slices_IndexFunc_api_Cell_api_Cell_v1_B1
   rw [if_neg (d_f (by omega))]; rfl)
 rcases this with ⟨j,h1,h2,h3,h4⟩ | ⟨h1,h4⟩
 ·have h4':slices_IndexFunc_api_Cell_api_Cell_v1_L1 fr to l 0=some (j:Int):=h4
  have hw:w64 ((j:Int)+1)=((j+1:Nat):Int):=by rw [w64_id (by omega) (by omega)]; omega
  rw [h4',ob_some,if_neg (d_f (by omega)),hw]
  have e0:(l.take j).filter (fun x=>!tablet_Part_1_1 x fr to)=l.take j:=by
   rw [List.filter_eq_self]
   intro x hx
   obtain ⟨i,hi,e⟩:=(mem_take_lget (by omega)).1 hx
   have:=h3 i hi
   rw [e] at this
   simpa using this
  have e:(l.take (j+1)).filter (fun x=>!tablet_Part_1_1 x fr to)=l.take j:=by
   rw [lget_take l j h1,List.filter_append,e0]; simp [h2]
  have hj:(l.take j).length=j:=by rw [List.length_take]; omega
  have:=tdel_loop fr to l hl (l.length - (j+1)) (j+1) l [lget l (j:Int)] (by omega) (by
   rw [e,← lget_take l j h1,List.take_append_drop]) (by rw [e,hj]; simp) (by simp)
  rw [e,hj] at this
  exact this
 ·have h4':slices_IndexFunc_api_Cell_api_Cell_v1_L1 fr to l 0=some (-1):=h4
  rw [h4',ob_some,if_pos (d_t rfl)]
  congr 1
  symm
  rw [List.filter_eq_self]
  exact all_lget.2 fun j hj=>by have:=h1 j hj; simpa using this
noncomputable def partL (t:Tablet) (fr to:List UInt8):List Cell:=(allT t).filter (fun x=>!tablet_Part_1_1 x fr to)
open Classical in
noncomputable def partF (t:Tablet) (fr to:List UInt8) (size:Int):Fault:=
 if ¬ (sizF size).Code=0 then sizF size else if (partL t fr to).length=0 then ⟨0,0⟩ else makeF (partL t fr to) size
noncomputable def partT (t:Tablet) (fr to:List UInt8) (size:Int):Tablet:=⟨⟨[],0⟩,if (partL t fr to).length=0 then [] else [fileB (partL t fr to) size],lastT t,t.Since⟩
noncomputable def partS (t:Tablet) (fr to:List UInt8) (size:Int):Tablet×Fault:=
 if ¬ (tabF t).Code=0 then (T0,tabF t)
 else if ¬ (partF t fr to size).Code=0 then (T0,partF t fr to size)
 else (partT t fr to size,⟨0,0⟩)
theorem part1_eq (t:Tablet) (fr to:List UInt8) (size:Int) (h:TG t):∃ x,tablet_Part_1_v1 t.Log.Bytes t.Log.Kept t.Files t.Done t.Since (lastT t) size fr to t (notT t) (memT t) (filT t)=some x∧x.1=partF t fr to size∧
  ((partF t fr to size).Code=0→x=(⟨0,0⟩,[],0,(partT t fr to size).Files,lastT t,t.Since,lastT t,memT t)):=by
 obtain ⟨f1,f2⟩:=filT_len h
 have hal:=h.all
 unfold tablet_Part_1_v1 partF
 rw [sized_eq]
 dsimp only [lt]
 by_cases c:(sizF size).Code=0
 ·rw [if_neg (n_f c),if_neg (not_not_intro c),all_eq _ _ _ _ _ _ _ _ _ (by have:=h.mem; omega) f1 f2,ob_some]
  dsimp only
  rw [show allS (memT t) (filT t)=allT t from rfl,tdelf_eq fr to (allT t) (by omega),ob_some,show (allT t).filter (fun x=>!tablet_Part_1_1 x fr to)=partL t fr to from rfl]
  by_cases c1:(partL t fr to).length=0
  ·rw [if_pos (d_t (by omega)),if_pos c1]
   exact ⟨_,rfl,rfl,fun _=>by unfold partT; rw [if_pos c1]⟩
  ·rw [if_neg (d_f (by omega)),if_neg c1,make_eq,ob_some]
   refine ⟨_,rfl,?_,fun hz=>?_⟩
   ·unfold makeS
    by_cases c3:(makeF (partL t fr to) size).Code=0
    ·rw [if_pos c3,(makeF_ok c3).1]
    ·rw [if_neg c3]
   ·unfold makeS partT
    rw [if_pos hz,if_neg c1]
 ·rw [if_pos (n_t c),if_pos c]
  exact ⟨_,rfl,rfl,fun h=>absurd h c⟩
theorem part_eq (t:Tablet) (fr to:List UInt8) (size:Int):tablet_Part t fr to size=some ((partS t fr to size).1.Log.Bytes,(partS t fr to size).1.Log.Kept,(partS t fr to size).1.Files,(partS t fr to size).1.Done,(partS t fr to size).1.Since,(partS t fr to size).2):=by
 unfold tablet_Part tablet_with_v5 partS
 rw [load_eq,ob_some]
 by_cases h1:(headT t).Code=0
 ·rw [loadS_ok h1]
  dsimp only [sm]
  by_cases h2:(fillF (memT t) (filT t)).Code=0
  ·have hz:(tabF t).Code=0:=by unfold tabF; rw [if_neg (not_not_intro h1)]; exact h2
   have hT:=tabF_good hz
   obtain ⟨x,hx,hx1,hx2⟩:=part1_eq t fr to size hT
   rw [if_neg (n_f h2),hx,ob_some,if_neg (not_not_intro hz)]
   by_cases h3:(partF t fr to size).Code=0
   ·have e:=hx2 h3
    subst e
    have hfl:(partT t fr to size).Files.length≤1000∧∀ b∈(partT t fr to size).Files,b.length≤1000000:=by
     unfold partT
     by_cases c1:(partL t fr to).length=0
     ·rw [if_pos c1]; exact ⟨by simp,fun b hb=>by cases hb⟩
     ·rw [if_neg c1]
      have hmk:(makeF (partL t fr to) size).Code=0:=by
       unfold partF at h3
       split at h3
       ·exact absurd h3 (by assumption)
       ·first
        | exact h3
        | (rw [if_neg c1] at h3; exact h3)
      exact ⟨by simp,fun b hb=>by rw [List.mem_singleton.1 hb]; have:=(makeF_ok hmk).2.1; omega⟩
    have ho:=own_eq (⟨⟨[],0⟩,(partT t fr to size).Files,lastT t,t.Since⟩:Tablet) (by simp) hfl.1 hfl.2
    rw [if_neg (n_f rfl)]
    dsimp only
    rw [ho,ob_some,ob_some]
    dsimp only
    rw [if_neg (not_not_intro h3)]; rfl
   ·rw [if_pos (n_t (by rw [hx1]; exact h3)),ob_some,if_pos h3,hx1]; rfl
  ·have hf:tabF t=fillF (memT t) (filT t):=by unfold tabF; rw [if_neg (not_not_intro h1)]
   rw [if_pos (n_t h2),ob_some,hf,if_pos h2]; rfl
 ·have hf:tabF t=headT t:=by unfold tabF; rw [if_pos h1]
  rw [loadS_bad h1]
  dsimp only [sm]
  rw [if_pos (n_t h1),ob_some,hf,if_pos h1]; rfl
theorem lget_midT (a:List (List UInt8)) (x:List UInt8) (b:List (List UInt8)):lget (a++x::b) (a.length:Int)=x:=by simp [lget]
theorem sT_i (A B C:List (List UInt8)) (x y:List UInt8):lget (A++x::(B++y::C)) (A.length:Int)=x:=lget_midT _ _ _
theorem sT_j (A B C:List (List UInt8)) (x y:List UInt8) {j:Int} (h:j=((A.length+1+B.length:Nat):Int)):lget (A++x::(B++y::C)) j=y:=by
 have e:A++x::(B++y::C)=(A++x::B)++y::C:=by simp
 have e2:j=((A++x::B).length:Int):=by rw [h,List.length_append,List.length_cons]; omega
 rw [e,e2,lget_midT]
noncomputable def dsP:List UInt8→List (List UInt8)→List (List UInt8)
 | _,[]=>[]
 | y,x::l=>if (x=y) then dsP x l else x::dsP x l
noncomputable def dsD:List (List UInt8)→List (List UInt8)
 | []=>[]
 | x::l=>x::dsP x l
theorem scomp_in (row:List (List UInt8)) (v1:Int) (k0:Nat) (hv:v1=(k0:Int)) (hl:row.length≤500000000000):∀ (l D G:List (List UInt8)) (y:List UInt8) (k2:Nat),1≤k2→D.length+G.length+1=k0+k2→(D++(G++y::l)).length=row.length→
  slices_Compact_string_string_v1_L2 row v1 (D++(G++y::l),(D.length:Int),(k2:Int))=some (.inr (D++dsP y l))
 | [],D,G,y,k2,h1,h2,h3=>by
  have h3':=h3
  simp only [List.length_append,List.length_cons,List.length_nil] at h3'
  refine loopO_inr ?_
  unfold slices_Compact_string_string_v1_B2
  dsimp only
  rw [hv,Int.toNat_natCast,if_neg (d_f (by omega))]
  unfold slices_Compact_string_string_v1_J2
  dsimp only
  rw [Int.toNat_natCast,asrt_pos (by rw [h3]; omega)]
  dsimp only [lt]
  obtain ⟨c1,c2⟩:=lclear_take (D++(G++[y])) D.length ((D++(G++[y])).length - D.length) ([]:List UInt8) (by rw [h3]; omega)
  rw [asrt_pos (by omega),asrt_pos c2,c1,List.take_left,dsP,List.append_nil]; rfl
 | z::l,D,G,y,k2,h1,h2,h3=>by
  have h3':=h3
  simp only [List.length_append,List.length_cons] at h3'
  have e1:D++(G++y::z::l)=(D++G)++y::([]++z::l):=by simp
  have g1:lget (D++(G++y::z::l)) ((k0+k2:Nat):Int)=z:=by
   rw [e1]; exact sT_j (D++G) [] l y z (by simp only [List.length_append,List.length_nil]; omega)
  have g2:lget (D++(G++y::z::l)) ((k0+(k2 - 1):Nat):Int)=y:=by
   rw [e1]
   have:=sT_i (D++G) [] l y z
   rw [List.length_append] at this
   exact Eq.trans (congrArg _ (by omega)) this
  have w1:w64 ((k2:Int) - 1)=((k2 - 1:Nat):Int):=by rw [w64_id (by omega) (by omega)]; omega
  have w2:w64 ((k2:Int)+1)=((k2+1:Nat):Int):=by rw [w64_id (by omega) (by omega)]; omega
  have hB:slices_Compact_string_string_v1_B2 row v1 (D++(G++y::z::l),(D.length:Int),(k2:Int))=some (.inl (if (z=y) then (D++(G++y::z::l),(D.length:Int),((k2+1:Nat):Int)) else (lset (D++(G++y::z::l)) (D.length:Int) z,((D.length+1:Nat):Int),((k2+1:Nat):Int)))):=by
   unfold slices_Compact_string_string_v1_B2
   dsimp only
   rw [hv,Int.toNat_natCast,Int.toNat_natCast,w1,Int.toNat_natCast,w2,if_pos (d_t (by omega)),asrt_pos (by omega),asrt_pos (by rw [h3]; omega),asrt_pos (by omega),asrt_pos (by rw [h3]; omega),g1,g2]
   by_cases c:(z=y)
   ·rw [if_neg (n_f c),if_pos c]; rfl
   ·rw [if_pos (n_t c),if_neg c,asrt_pos (by omega),asrt_pos (by rw [h3]; omega),asrt_pos (by rw [h3]; omega),asrt_pos (by rw [h3]; omega)]
    dsimp only [lt]
    rw [ob_some,w64_id (by omega) (by omega)]; rfl
  by_cases c:(z=y)
  ·rw [if_pos c] at hB
   have ih:=scomp_in row v1 k0 hv hl l D (G++[y]) z (k2+1) (by omega) (by simp only [List.length_append,List.length_cons,List.length_nil]; omega) (by rw [← h3]; simp)
   have e2:D++(G++[y]++z::l)=D++(G++y::z::l):=by simp
   rw [e2] at ih
   rw [dsP,if_pos c]
   exact (loopO_inl hB).trans ih
  ·rw [if_neg c] at hB
   obtain ⟨G',hG'⟩:∃ G',lset (D++(G++y::z::l)) (D.length:Int) z=(D++[z])++(G'++z::l)∧G'.length=G.length:=by
    cases G with
    | nil=>exact ⟨[],by rw [List.nil_append,lset_midT]; simp,rfl⟩
    | cons g G=>exact ⟨G++[y],by rw [List.cons_append,lset_midT]; simp,by simp⟩
   have ih:=scomp_in row v1 k0 hv hl l (D++[z]) G' z (k2+1) (by omega) (by simp only [List.length_append,List.length_cons,List.length_nil]; omega) (by rw [← hG'.1,lset_len]; exact h3)
   rw [hG'.1] at hB
   rw [dsP,if_neg c]
   have e3:(((D++[z]).length:Nat):Int)=((D.length+1:Nat):Int):=by simp
   rw [e3] at ih
   refine (loopO_inl hB).trans (ih.trans ?_)
   simp
theorem scomp_out (row:List (List UInt8)) (hl:row.length≤500000000000):∀ (l D:List (List UInt8)) (y:List UInt8),row=D++y::l→slices_Compact_string_string_v1_L1 row ((D.length+1:Nat):Int)=some (D++y::dsP y l)
 | [],D,y,h=>by
  refine loopO_inr ?_
  unfold slices_Compact_string_string_v1_B1
  rw [if_neg (d_f (by rw [h]; simp))]
  unfold slices_Compact_string_string_v1_J1
  rw [h,dsP]; rfl
 | x::l,D,y,h=>by
  have hlen:row.length=D.length+2+l.length:=by rw [h]; simp; omega
  have e1:row=D++y::([]++x::l):=h
  have g1:lget row ((D.length+1:Nat):Int)=x:=by rw [e1]; exact sT_j D [] l y x rfl
  have g2:lget row (D.length:Int)=y:=by rw [e1]; exact sT_i D [] l y x
  have w1:w64 (((D.length+1:Nat):Int) - 1)=(D.length:Int):=by rw [w64_id (by omega) (by omega)]; omega
  have w2:w64 (((D.length+1:Nat):Int)+1)=(((D++[y]).length+1:Nat):Int):=by rw [w64_id (by omega) (by omega)]; simp
  by_cases c:(x=y)
  ·rw [dsP,if_pos c]
   refine loopO_inr ?_
   unfold slices_Compact_string_string_v1_B1
   rw [w1,if_pos (d_t (by omega)),asrt_pos (by omega),asrt_pos (by omega),asrt_pos (by omega),asrt_pos (by omega),g1,g2]
   rw [if_pos (d_t c),asrt_pos (by omega)]
   have:=scomp_in row ((D.length+1:Nat):Int) (D.length+1) rfl hl l (D++[y]) [] x 1 (by omega) (by simp) (by rw [h]; simp)
   have e4:D++[y]++([]++x::l)=row:=by rw [h]; simp
   have e5:(((D++[y]).length:Nat):Int)=((D.length+1:Nat):Int):=by simp
   rw [e4,e5] at this
   refine Eq.trans (b:=slices_Compact_string_string_v1_L2 row ((D.length+1:Nat):Int) (row,((D.length+1:Nat):Int),((1:Nat):Int))) rfl (this.trans ?_)
   simp
  ·rw [dsP,if_neg c]
   have ih:=scomp_out row hl l (D++[y]) x (by rw [h]; simp)
   refine (loopO_inl ?_).trans (ih.trans (by simp))
   unfold slices_Compact_string_string_v1_B1
   rw [w1,w2,if_pos (d_t (by omega)),asrt_pos (by omega),asrt_pos (by omega),asrt_pos (by omega),asrt_pos (by omega),g1,g2]
   rw [if_neg (d_f c)]
theorem scomp_eq (l:List (List UInt8)) (hl:l.length≤500000000000):slices_Compact_string_string_v1 l=some (dsD l):=by
 unfold slices_Compact_string_string_v1
 match l with
 | []=>rw [if_pos (by simp)]; rfl
 | [x]=>rw [if_pos (by simp)]; rfl
 | x::y::l=>
  rw [if_neg (d_f (by simp only [List.length_cons]; omega))]
  exact scomp_out (x::y::l) hl (y::l) [] x rfl
noncomputable def rowsT (t:Tablet):List (List UInt8):=dsD ((allT t).map fun c=>c.Row)
noncomputable def halveS (t:Tablet):List UInt8×Fault:=
 if ¬ (tabF t).Code=0 then ([],tabF t)
 else if (rowsT t).length<2 then ([],⟨6,0⟩)
 else (lget (rowsT t) (((rowsT t).length / 2:Nat):Int),⟨0,0⟩)
theorem dsP_len:∀ (l:List (List UInt8)) (y:List UInt8),(dsP y l).length≤l.length
 | [],_=>Nat.le_refl _
 | x::l,y=>by
  rw [dsP]
  have:=dsP_len l x
  split
  ·simp; omega
  ·simp; omega
theorem dsD_len (l:List (List UInt8)):(dsD l).length≤l.length:=by
 cases l with
 | nil=>exact Nat.le_refl _
 | cons x l=>rw [dsD]; have:=dsP_len l x; simp; omega
theorem halve_loop (x1:List Cell×List Cell) (f:Fault) (hl:x1.1.length≤100000):∀ (m k:Nat),x1.1.length - k=m→k≤x1.1.length→
  tablet_Halve_L1 x1 (⟨0,0⟩,f,(x1.1.take k).map (fun c=>c.Row),(k:Int))=some (if (dsD (x1.1.map fun c=>c.Row)).length<2 then ([],⟨6,0⟩) else (lget (dsD (x1.1.map fun c=>c.Row)) (((dsD (x1.1.map fun c=>c.Row)).length / 2:Nat):Int),f)):=by
 intro m
 induction m with
 | zero=>
  intro k e hk
  have:k=x1.1.length:=by omega
  subst this
  have hd:=dsD_len (x1.1.map fun c=>c.Row)
  rw [List.length_map] at hd
  refine loopO_inr ?_
  unfold tablet_Halve_B1 tablet_Halve_J1
  dsimp only
  rw [if_neg (d_f (by omega)),List.take_length,scomp_eq _ (by simp; omega),ob_some]
  by_cases c:(dsD (x1.1.map fun c=>c.Row)).length<2
  ·rw [if_pos (d_t (by omega)),if_pos c]; rfl
  ·have hw:w64 (Int.tdiv ((dsD (x1.1.map fun c=>c.Row)).length:Int) 2)=(((dsD (x1.1.map fun c=>c.Row)).length / 2:Nat):Int):=by
    have:Int.tdiv ((dsD (x1.1.map fun c=>c.Row)).length:Int) 2=(((dsD (x1.1.map fun c=>c.Row)).length / 2:Nat):Int):=by
     rw [Int.tdiv_eq_ediv_of_nonneg (by omega)]; omega
    rw [this,w64_id (by omega) (by omega)]
   rw [if_neg (d_f (by omega)),if_neg c,hw,asrt_pos (by omega),asrt_pos (by omega)]; rfl
 | succ m ih=>
  intro k e hk
  have hkl:k<x1.1.length:=by omega
  have hw:w64 ((k:Int)+1)=((k+1:Nat):Int):=by rw [w64_id (by omega) (by omega)]; omega
  refine (loopO_inl ?_).trans (ih (k+1) (by omega) (by omega))
  unfold tablet_Halve_B1
  dsimp only
  rw [if_pos (d_t (by omega)),asrt_pos (by omega),asrt_pos (by omega),asrt_pos (by simp; omega),hw,lget_take x1.1 k hkl,List.map_append]; rfl
theorem halve_eq (t:Tablet):tablet_Halve t=some (halveS t):=by
 unfold tablet_Halve halveS
 rw [load_eq,ob_some]
 by_cases h1:(headT t).Code=0
 ·rw [loadS_ok h1]
  dsimp only [sm]
  by_cases h2:(fillF (memT t) (filT t)).Code=0
  ·have hz:(tabF t).Code=0:=by unfold tabF; rw [if_neg (not_not_intro h1)]; exact h2
   have hT:=tabF_good hz
   obtain ⟨f1,f2⟩:=filT_len hT
   have hf:fillF (memT t) (filT t)=⟨0,0⟩:=by
    have:=hT.f
    unfold tabF at this
    rwa [if_neg (not_not_intro h1)] at this
   have hal:=hT.all
   rw [if_neg (n_f h2),all_eq _ _ _ _ _ _ _ _ _ (by have:=hT.mem; omega) f1 f2,ob_some,if_neg (not_not_intro hz),show allS (memT t) (filT t)=allT t from rfl]
   have:=halve_loop (allT t,memT t) (fillF (memT t) (filT t)) (by show (allT t).length≤100000; omega) (allT t).length 0 (by simp) (by simp)
   refine this.trans ?_
   rw [hf]; rfl
  ·have hf:tabF t=fillF (memT t) (filT t):=by unfold tabF; rw [if_neg (not_not_intro h1)]
   rw [if_pos (n_t h2),hf,if_pos h2]
 ·have hf:tabF t=headT t:=by unfold tabF; rw [if_pos h1]
  rw [loadS_bad h1]
  dsimp only [sm]
  rw [if_pos (n_t h1),hf,if_pos h1]
theorem fnd_left {A B:List Cell} {row col:List UInt8} {t:Int} (h:∀ c∈B,c.Row≠row):fnd (A++B) row col t=fnd A row col t:=by
 unfold fnd
 rw [List.find?_append]
 have:B.find? (at' row col t)=none:=List.find?_eq_none.2 fun c hc hp=>h c hc (at_iff.1 hp).1
 rw [this,Option.or_none]
theorem fnd_right {A B:List Cell} {row col:List UInt8} {t:Int} (h:∀ c∈A,c.Row≠row):fnd (A++B) row col t=fnd B row col t:=by
 unfold fnd
 rw [List.find?_append]
 have:A.find? (at' row col t)=none:=List.find?_eq_none.2 fun c hc hp=>h c hc (at_iff.1 hp).1
 rw [this,Option.none_or]
theorem vis_two {A B:List Cell} (a:Ask) (h:∀ x∈A,∀ y∈B,x.Row≠y.Row):(A++B).filter (vis (A++B) a)=A.filter (vis A a)++B.filter (vis B a):=by
 rw [List.filter_append]
 congr 1
 ·refine List.filter_congr fun c hc=>?_
  unfold vis
  rw [fnd_left fun y hy e=>h c hc y hy e.symm]
 ·refine List.filter_congr fun c hc=>?_
  unfold vis
  rw [fnd_right fun x hx e=>h x hx c hc e]
theorem two_parts (p:Cell→Bool):∀ (l:List Cell),l.Pairwise (fun a b=>p b=true→p a=true)→l=l.filter p++l.filter (fun c=>!p c)
 | [],_=>rfl
 | c::l,h=>by
  obtain ⟨h1,h2⟩:=List.pairwise_cons.1 h
  have ih:=two_parts p l h2
  cases q:p c with
  | true=>
   rw [List.filter_cons_of_pos q,List.filter_cons_of_neg (by simp [q]),List.cons_append,← ih]
  | false=>
   have hn:l.filter p=[]:=List.filter_eq_nil_iff.2 fun x hx hp=>by
    have:=h1 x hx hp
    rw [q] at this; cases this
   rw [List.filter_cons_of_neg (by simp [q]),List.filter_cons_of_pos (by simp [q]),hn,List.nil_append]
   rw [hn,List.nil_append] at ih
   rw [← ih]
theorem encN_len' {n:Note} (h:NGood n):(encN n).length≤7000:=by
 have h1:=h.lo
 have h2:=h.hi
 have h3:=h.len
 have h5:=num_len5 (n:=n.Seq.toNat) (by omega)
 have h6:=encC_len n.Cells h.cells.code
 unfold encN
 rw [List.length_append]; omega
theorem readS_enc {l:List Cell} (hg:Good l) (hl:l.length≤20):readS (encC l)=(l,⟨0,0⟩):=by
 have h6:=encC_len l hg.code
 have:=rdAll_wrAll (f:=rdC) (w:=wrC) (fun x=>R_CellCode x=0) (fun x r h=>rdC_wrC h r) (fun x h=>(wrC_len h).2) l (encC l).length [] hg.code (Nat.le_refl _)
 have e:rdAll rdC (encC l).length (encC l) [] = .inl l:=by simpa [encC] using this
 unfold readS
 rw [if_neg (by omega),e]
 unfold rcS
 dsimp only
 rw [hg.f]
 rfl
theorem noteS_enc {n:Note} (h:NGood n):noteS (encN n)=(n,⟨0,0⟩):=by
 have hl:=encN_len' h
 have h1:=h.lo
 have h2:=h.hi
 have e:((n.Seq.toNat:Nat):Int)=n.Seq:=by omega
 unfold noteS
 rw [if_neg (by omega)]
 unfold encN
 rw [rdN_num (by omega)]
 dsimp only
 rw [readS_enc h.cells h.len,e,if_pos rfl,note_eta]
 unfold noteR
 rw [h.f,if_pos rfl]
def seqs (a:Int) (ns:List Note):Prop:=∀ k:Nat,k<ns.length→(lget ns (k:Int)).Seq=a+k
def encL (ns:List Note):List UInt8:=encF (ns.map encN)
theorem encL_cons (n:Note) (l:List Note):encL (n::l)=frame (encN n)++encL l:=by unfold encL; rw [List.map_cons,encF_cons]
theorem encL_one (n:Note):encL [n]=frame (encN n):=by rw [encL_cons]; simp [encL,encF,wrAll]
theorem seqs_take {a:Int} {ns:List Note} (h:seqs a ns) (w:Nat):seqs a (ns.take w):=by
 intro k hk
 rw [List.length_take] at hk
 have e:lget (ns.take w) (k:Int)=lget ns (k:Int):=by
  have:=lget_ltake ns (w:Int) (k:Int) (by omega)
  rwa [ltake_nat] at this
 rw [e]; exact h k (by omega)
theorem nts_run (a:Int):∀ (ms acc:List Note) (g:Nat),(∀ n∈acc++ms,NGood n)→seqs a (acc++ms)→nts acc g (ms.map encN)=(acc++ms,g+(encL ms).length)
 | [],acc,g,_,_=>by simp [nts,encL,encF,wrAll]
 | m::ms,acc,g,hg,hs=>by
  have hm:=hg m (by simp)
  have hx:nxt acc m:=by
   by_cases c:acc.length=0
   ·exact .inl c
   ·right
    have h1:=hs acc.length (by simp)
    have h2:=hs (acc.length - 1) (by simp; omega)
    rw [lget_app_r _ _ _ (by omega),Int.sub_self] at h1
    rw [lget_app_l _ _ _ (by omega)] at h2
    have e:((acc.length - 1:Nat):Int)=(acc.length:Int) - 1:=by omega
    rw [e] at h2
    have h1:m.Seq=a+acc.length:=h1
    unfold lastN
    rw [h2,h1]; omega
  rw [List.map_cons,nts,noteS_enc hm,if_pos ⟨rfl,hx⟩]
  dsimp only
  rw [nts_run a ms (acc++[m]) _ (by simpa using hg) (by simpa using hs),encL_cons,List.length_append,frame_len]
  simp; omega
theorem wh_ge:∀ (l:List (List UInt8)) (c s:Nat),s≤l.length→(encF (l.take s)).length≤c→s≤wh l c
 | _,_,0,_,_=>Nat.zero_le _
 | [],_,s+1,h,_=>by simp at h
 | x::l,c,s+1,h,hc=>by
  rw [List.take_succ_cons,encF_cons,List.length_append,frame_len] at hc
  rw [wh,if_pos (by omega)]
  have:=wh_ge l (c - (x.length+6)) s (by simpa using h) (by omega)
  omega
theorem encF_take_le (l:List (List UInt8)) (w:Nat):(encF (l.take w)).length≤(encF l).length:=by
 have e:encF l=encF (l.take w)++encF (l.drop w):=by
  unfold encF wrAll
  rw [← List.flatMap_append,List.take_append_drop]
 rw [e,List.length_append]; omega
theorem logd_cut {a:Int} {ns:List Note} (hg:∀ n∈ns,NGood n) (hs:seqs a ns) (c:Nat) :
  logd ((encL ns).take c)=(ns.take (wh (ns.map encN) c),(encL (ns.take (wh (ns.map encN) c))).length):=by
 have hl:∀ s∈ns.map encN,s.length≤65535:=by
  intro s h
  obtain ⟨n,hn,rfl⟩:=List.mem_map.1 h
  have:=encN_len' (hg n hn)
  omega
 have e:=opn_cut (ns.map encN) c ((encL ns).take c).length [] 0 hl (Nat.le_refl _)
 unfold logd bodies
 have e2:(opn ((encL ns).take c).length ((encL ns).take c) [] 0).1=(ns.take (wh (ns.map encN) c)).map encN:=by
  have:opn ((encL ns).take c).length ((encL ns).take c) [] 0=_:=e
  rw [this,List.nil_append,List.map_take]
 rw [e2,nts_run a _ [] 0 (fun n hn=>hg n (List.mem_of_mem_take (by simpa using hn))) (by rw [List.nil_append]; exact seqs_take hs _)]
 simp
theorem logd_enc {a:Int} {ns:List Note} (hg:∀ n∈ns,NGood n) (hs:seqs a ns):logd (encL ns)=(ns,(encL ns).length):=by
 have h:=logd_cut hg hs (encL ns).length
 have hw:wh (ns.map encN) (encL ns).length=ns.length:=by
  have h1:=wh_le (ns.map encN) (encL ns).length
  have h2:=wh_ge (ns.map encN) (encL ns).length ns.length (by simp) (by unfold encL; exact encF_take_le _ _)
  rw [List.length_map] at h1; omega
 rw [List.take_length,hw,List.take_length] at h
 exact h
theorem fileB_small {l:List Cell} (hg:∀ c∈l,R_CellCode c=0) (hl:l.length≤1000) (size:Int):(fileB l size).length≤367*l.length+13:=by
 obtain ⟨h1,h2,h3,h4,h5,h6,h7⟩:=blk_bd hg hl size l.length (Nat.le_refl _)
 have hN:=filN_bd l
 have hfl:(filF l).length≤l.length+1:=by unfold filF; rw [bytesOf_len]; omega
 unfold fileB partsL
 rw [encF_app,encF_cons,encF_one,List.length_append,List.length_append,frame_len,frame_len]
 omega
def c1:Cell:=⟨[114],[99],7,false,[97]⟩
theorem one_cells:law_oneNote.Cells=[c1]:=rfl
theorem one_good:NGood law_oneNote:=noteF_good (by rw [note1F])
theorem c1_good:Good [c1]:=one_good.cells
theorem firsts_c1:firsts [c1]=[c1]:=firsts_self c1_good.srt
theorem firsts_nil':firsts ([]:List Cell)=[]:=firsts_self (l:=[]) .nil
theorem mem_none (d:Int):memS d []=[]:=by
 unfold memS
 rw [show abv d []=[] from rfl,show allC []=[] from rfl,firsts_nil']
theorem mem_one:memS 0 [law_oneNote]=[c1]:=by
 unfold memS
 have:abv 0 [law_oneNote]=[law_oneNote]:=by rw [abv,if_pos (by decide)]
 rw [this]
 have:allC [law_oneNote]=[c1]:=by simp [allC,one_cells]
 rw [this,firsts_c1]
theorem mem_one1:memS 1 [law_oneNote]=[]:=by
 unfold memS
 have:abv 1 [law_oneNote]=[]:=by rw [abv,if_neg (by decide)]; rfl
 rw [this,show allC []=[] from rfl,firsts_nil']
theorem logd_none:logd []=([],0):=by
 have:=logd_enc (a:=0) (ns:=[]) (fun n h=>by cases h) (fun k h=>by simp at h)
 simpa [encL,encF,wrAll] using this
theorem logd_one:logd (frame (encN law_oneNote))=([law_oneNote],(frame (encN law_oneNote)).length):=by
 have:=logd_enc (a:=1) (ns:=[law_oneNote]) (fun n h=>by rw [List.mem_singleton.1 h]; exact one_good) (fun k h=>by
  have:k=0:=by simp at h; omega
  subst this; rfl)
 rwa [encL_one] at this
theorem enc_one_len:(frame (encN law_oneNote)).length≤7006:=by
 have:=encN_len one_good
 rw [frame_len]; omega
noncomputable def t1:Tablet:=⟨⟨frame (encN law_oneNote),0⟩,[],0,0⟩
noncomputable def t2:Tablet:=⟨⟨frame (encN law_oneNote),0⟩,[fileB [c1] 50],1,0⟩
theorem fill_small {a:List Cell} {b:List (List Cell)} (h1:a.length≤500) (h2:(allS a b).length≤1000):fillF a b=⟨0,0⟩:=by
 unfold fillF
 rw [if_neg (by omega),if_neg (by omega)]
theorem allS_small (a:List Cell) (b:List (List Cell)) (h:a.length+b.flatten.length≤1000):(allS a b).length≤1000:=by
 have:=firsts_len (a++b.flatten)
 rw [List.length_append] at this
 unfold allS; omega
theorem T0_log:notT T0=[]:=by unfold notT; rw [show T0.Log.Bytes=[] from rfl,logd_none]
theorem T0_ok:tabF T0=⟨0,0⟩:=by
 have hh:headT T0=⟨0,0⟩:=by
  unfold headT
  have hb:¬ badT T0:=by
   unfold badT
   rw [T0_log,show T0.Log.Bytes=[] from rfl,logd_none]
   simp
  rw [if_neg (by simp [T0]),if_neg (by simp [T0]),if_neg (by simp [T0,dF]),if_neg hb]; rfl
 unfold tabF
 rw [hh,if_neg (by simp)]
 refine fill_small ?_ (allS_small _ _ ?_)
 ·unfold memT; rw [T0_log,mem_none]; simp
 ·unfold memT filT; rw [T0_log,mem_none]; simp [T0]
theorem put_one:putS T0 law_oneNote.Cells=(t1,1,⟨0,0⟩):=by
 have hl:lastT T0=0:=by unfold lastT; rw [T0_log,if_neg (by simp)]; rfl
 have hn:putN T0 law_oneNote.Cells=law_oneNote:=by unfold putN; rw [hl]; rfl
 have he:erl T0.Since law_oneNote.Cells 0=⟨0,0⟩:=by
  rw [one_cells,erl,if_neg (by decide)]; rfl
 have hf:putF T0 law_oneNote.Cells=⟨0,0⟩:=by
  unfold putF
  have hlen:=enc_one_len
  rw [hn,note1F,if_neg (by simp),he,if_neg (by simp),if_neg (by show ¬ 60000<0+_; omega),T0_log]
  show fillF (memS 0 [law_oneNote]) _=_
  rw [mem_one]
  exact fill_small (by simp) (allS_small _ _ (by simp [filT,T0]))
 unfold putS
 rw [T0_ok,if_neg (by simp),hf,if_neg (by simp),hn,hl]; rfl
theorem t1_log:notT t1=[law_oneNote]:=by unfold notT; rw [show t1.Log.Bytes=frame (encN law_oneNote) from rfl,logd_one]
theorem t1_ok:tabF t1=⟨0,0⟩:=by
 have hlen:=enc_one_len
 have hh:headT t1=⟨0,0⟩:=by
  unfold headT
  have hb:¬ badT t1:=by
   unfold badT
   rw [t1_log,show t1.Log.Bytes=frame (encN law_oneNote) from rfl,logd_one]
   rintro (h | ⟨_,h⟩)
   ·exact h rfl
   ·revert h; decide
  have hd:dF t1.Log=⟨0,0⟩:=dF_zero ⟨by show (frame (encN law_oneNote)).length≤60000; omega,Int.le_refl 0,by show (0:Int)≤((frame (encN law_oneNote)).length:Int); omega⟩
  rw [if_neg (by simp [t1]),if_neg (by simp [t1]),if_neg (by rw [hd]; simp),if_neg hb]; rfl
 unfold tabF
 rw [hh,if_neg (by simp)]
 refine fill_small ?_ (allS_small _ _ ?_)
 ·unfold memT; rw [t1_log,show t1.Done=0 from rfl,mem_one]; simp
 ·unfold memT filT; rw [t1_log,show t1.Done=0 from rfl,mem_one]; simp [t1]
theorem c1_file:(fileB [c1] 50).length≤60000:=by
 have:=fileB_small c1_good.code (by simp) 50
 simp only [List.length_singleton] at this
 omega
theorem flush_one:flushS t1 50=(t2,⟨0,0⟩):=by
 have hm:memT t1=[c1]:=by unfold memT; rw [t1_log,show t1.Done=0 from rfl,mem_one]
 have hl:lastT t1=1:=by unfold lastT; rw [t1_log,if_pos (by simp)]; rfl
 have hk:makeF [c1] 50=⟨0,0⟩:=by
  unfold makeF
  have:=c1_file
  rw [if_neg (not_not_intro (by rw [c1_good.f])),if_neg (by simp),if_neg (by decide),if_neg (by omega)]
 have hf:flushF t1 50=⟨0,0⟩:=by
  unfold flushF
  rw [if_neg (not_not_intro (by decide)),hl,if_neg (by decide),if_neg (by decide),hm,hk]
 unfold flushS
 rw [t1_ok,if_neg (by simp),hf,if_neg (by simp),hl,hm]; rfl
theorem t2_log:notT t2=[law_oneNote]:=by unfold notT; rw [show t2.Log.Bytes=frame (encN law_oneNote) from rfl,logd_one]
theorem file_one:(fileO (fileB [c1] 50)).1=[c1]∧(fileO (fileB [c1] 50)).2.2=⟨0,0⟩:=by
 have h1:=open_any (fileB [c1] 50)
 have h2:=open_made c1_good 50 c1_file (by simp)
 rw [h1] at h2
 simp only [Option.some.injEq,Prod.mk.injEq] at h2
 exact h2
theorem t2_ok:tabF t2=⟨0,0⟩:=by
 have hlen:=enc_one_len
 have hh:headT t2=⟨0,0⟩:=by
  unfold headT
  have hb:¬ badT t2:=by
   unfold badT
   rw [t2_log,show t2.Log.Bytes=frame (encN law_oneNote) from rfl,logd_one]
   rintro (h | ⟨_,h⟩)
   ·exact h rfl
   ·revert h; show ¬ ((1:Int)+1<law_oneNote.Seq∨law_oneNote.Seq<1); decide
  have hd:dF t2.Log=⟨0,0⟩:=dF_zero ⟨by show (frame (encN law_oneNote)).length≤60000; omega,Int.le_refl 0,by show (0:Int)≤((frame (encN law_oneNote)).length:Int); omega⟩
  rw [if_neg (by simp [t2]),if_neg (by simp [t2]),if_neg (by rw [hd]; simp),if_neg hb]
  show ldF [fileB [c1] 50] 0=_
  rw [ldF,if_pos (by rw [file_one.2])]; rfl
 unfold tabF
 rw [hh,if_neg (by simp)]
 refine fill_small ?_ (allS_small _ _ ?_)
 ·unfold memT; rw [t2_log,show t2.Done=1 from rfl,mem_one1]; simp
 ·unfold memT filT; rw [t2_log,show t2.Done=1 from rfl,mem_one1]; simp [t2,file_one.1]
theorem cut_one:cutS t2=(⟨⟨[],0⟩,[fileB [c1] 50],1,0⟩,⟨0,0⟩):=by
 have hb:cutB t2=[]:=by
  unfold cutB
  rw [t2_log,show t2.Done=1 from rfl]
  have:[law_oneNote].filter (fun n=>decide (1<n.Seq))=[]:=by decide
  rw [this]; rfl
 unfold cutS
 rw [t2_ok,if_neg (by simp),hb]; rfl
theorem tabBegun:law_tabletBegun=some true:=by
 unfold law_tabletBegun
 dsimp only [lt]
 rw [show (⟨(⟨([]:List UInt8),0⟩:Disk),([]:List (List UInt8)),0,0⟩:Tablet)=T0 from rfl,tput_eq,ob_some,put_one]
 dsimp only
 rw [flush_eq,ob_some,flush_one]
 dsimp only
 rw [cut_eq',ob_some,cut_one]
 dsimp only
 rw [asrt_pos (fun _=>by simp),if_pos (by simp),one_cells,rfile_eq c1_good.code (by simp) 50,ob_some]
 simp [R_Same,lget]
theorem all_srt (t:Tablet):(allT t).Pairwise ah:=(firsts_ok _).1
theorem partL_srt (t:Tablet) (fr to:List UInt8):(partL t fr to).Pairwise ah:=(all_srt t).sublist List.filter_sublist
theorem part_make {t:Tablet} {fr to:List UInt8} {size:Int} (hz:(partF t fr to size).Code=0) (c:¬ (partL t fr to).length=0):(makeF (partL t fr to) size).Code=0:=by
 unfold partF at hz
 by_cases c1:(sizF size).Code=0
 ·rw [if_neg (not_not_intro c1),if_neg c] at hz; exact hz
 ·rw [if_pos c1] at hz; exact absurd hz c1
theorem file_back {l:List Cell} {size:Int} (h:(makeF l size).Code=0):(fileO (fileB l size)).1=l∧(fileO (fileB l size)).2.2=⟨0,0⟩:=by
 obtain ⟨_,h1,h2,h3⟩:=makeF_ok h
 have e1:=open_any (fileB l size)
 have e2:=open_made h2 size h1 h3
 rw [e1] at e2
 simp only [Option.some.injEq,Prod.mk.injEq] at e2
 exact e2
theorem partT_ok {t:Tablet} (h:TG t) {fr to:List UInt8} {size:Int} (hz:(partF t fr to size).Code=0):tabF (partT t fr to size)=⟨0,0⟩∧allT (partT t fr to size)=partL t fr to:=by
 obtain ⟨b1,b2⟩:=lastT_bd h
 have hs0:=h.s0
 have hs1:=h.s1
 have hn:notT (partT t fr to size)=[]:=by unfold notT; rw [show (partT t fr to size).Log.Bytes=[] from rfl,logd_none]
 have hm:memT (partT t fr to size)=[]:=by unfold memT; rw [hn,mem_none]
 have hb:¬ badT (partT t fr to size):=by
  unfold badT
  rw [hn,show (partT t fr to size).Log.Bytes=[] from rfl,logd_none]
  simp
 have hd:dF (partT t fr to size).Log=⟨0,0⟩:=dF_zero ⟨by show ([]:List UInt8).length≤60000; simp,Int.le_refl 0,by show (0:Int)≤(([]:List UInt8).length:Int); simp⟩
 have hf:ldF (partT t fr to size).Files 0=⟨0,0⟩∧(filT (partT t fr to size)).flatten=partL t fr to∧(partT t fr to size).Files.length≤1:=by
  unfold filT partT
  dsimp only
  by_cases c:(partL t fr to).length=0
  ·rw [if_pos c]
   exact ⟨rfl,by rw [List.eq_nil_of_length_eq_zero c]; rfl,by simp⟩
  ·obtain ⟨e1,e2⟩:=file_back (part_make hz c)
   rw [if_neg c]
   refine ⟨?_,?_,by simp⟩
   ·rw [ldF,if_pos (by rw [e2])]; rfl
   ·simp [e1]
 have hh:headT (partT t fr to size)=⟨0,0⟩:=by
  unfold headT
  rw [if_neg (by show ¬ (lastT t<0∨1000000000<lastT t∨t.Since<0∨1000000000<t.Since); omega),if_neg (by have:=hf.2.2; omega),if_neg (by rw [hd]; simp),if_neg hb,hf.1]
 have ha:allT (partT t fr to size)=partL t fr to:=by
  unfold allT allS
  rw [hm,List.nil_append,hf.2.1,firsts_self (partL_srt t fr to)]
 have hl:(partL t fr to).length≤1000:=by
  have:=List.length_filter_le (fun x=>!tablet_Part_1_1 x fr to) (allT t)
  have:=h.all
  unfold partL; omega
 refine ⟨?_,ha⟩
 unfold tabF
 rw [hh,if_neg (by simp),hm]
 refine fill_small (by simp) ?_
 have:allS [] (filT (partT t fr to size))=allT (partT t fr to size):=by unfold allT; rw [hm]
 rw [this,ha]; exact hl
theorem row_up {a b:Cell} (h:ah a b):Op.bytesLess b.Row a.Row=false:=by
 cases q:Op.bytesLess b.Row a.Row with
 | false=>rfl
 | true=>exact absurd (Or.inl q) (ah_asymm h)
theorem dsP_up:∀ (l:List (List UInt8)) (y:List UInt8),(y::l).Pairwise (fun a b=>Op.bytesLess b a=false)→∀ x∈dsP y l,x∈l∧Op.bytesLess y x=true
 | [],y,_,x,hx=>by cases hx
 | z::l,y,h,x,hx=>by
  obtain ⟨h1,h2⟩:=List.pairwise_cons.1 h
  rw [dsP] at hx
  by_cases c:z=y
  ·rw [if_pos c] at hx
   obtain ⟨e1,e2⟩:=dsP_up l z h2 x hx
   exact ⟨List.mem_cons_of_mem _ e1,by rw [← c]; exact e2⟩
  ·rw [if_neg c] at hx
   have hyz:Op.bytesLess y z=true:=by
    rcases bl_tri y z with q | q | q
    ·exact q
    ·exact absurd q.symm c
    ·have:=h1 z (List.mem_cons_self ..)
     rw [q] at this; cases this
   rcases List.mem_cons.1 hx with e | e
   ·rw [e]; exact ⟨List.mem_cons_self ..,hyz⟩
   ·obtain ⟨e1,e2⟩:=dsP_up l z h2 x e
    exact ⟨List.mem_cons_of_mem _ e1,bl_trans hyz e2⟩
theorem halve_row {t:Tablet} (h:¬ (rowsT t).length<2):∃ c∈allT t,∃ d∈allT t,c.Row=lget (rowsT t) (((rowsT t).length / 2:Nat):Int)∧Op.bytesLess d.Row c.Row=true:=by
 have hs:((allT t).map fun c=>c.Row).Pairwise (fun a b=>Op.bytesLess b a=false):=List.pairwise_map.2 ((all_srt t).imp row_up)
 unfold rowsT at h ⊢
 cases e:(allT t).map (fun c=>c.Row) with
 | nil=>rw [e] at h; simp [dsD] at h
 | cons y l=>
  rw [e] at h hs
  simp only [dsD] at h ⊢
  have hk:(y::dsP y l).length / 2 - 1<(dsP y l).length:=by simp at h ⊢; omega
  have hg:lget (y::dsP y l) (((y::dsP y l).length / 2:Nat):Int)∈dsP y l:=by
   obtain ⟨q,hq⟩:∃ q,(y::dsP y l).length / 2=q+1:=⟨(y::dsP y l).length / 2 - 1,by simp at h ⊢; omega⟩
   have hql:q<(dsP y l).length:=by rw [hq] at hk; omega
   rw [hq,lget_nat _ (q+1) (by simp; omega)]
   show (dsP y l)[q]∈dsP y l
   exact List.getElem_mem _
  obtain ⟨m1,m2⟩:=dsP_up l y hs _ hg
  have hx:lget (y::dsP y l) (((y::dsP y l).length / 2:Nat):Int)∈(allT t).map (fun c=>c.Row):=by rw [e]; exact List.mem_cons_of_mem _ m1
  have hy:y∈(allT t).map (fun c=>c.Row):=by rw [e]; exact List.mem_cons_self ..
  obtain ⟨c,hc,ec⟩:=List.mem_map.1 hx
  obtain ⟨d,hd,ed⟩:=List.mem_map.1 hy
  exact ⟨c,hc,d,hd,ec,by rw [ec,ed]; exact m2⟩
theorem scan0_eq (t:Tablet) (a:Ask):tablet_Scan t a=some (scanS t a):=scan_eq t a
theorem partS_ok {t:Tablet} {fr to:List UInt8} {size:Int} (h:(partS t fr to size).2.Code=0):TG t∧(partF t fr to size).Code=0∧partS t fr to size=(partT t fr to size,⟨0,0⟩):=by
 unfold partS at h ⊢
 by_cases c1:(tabF t).Code=0
 ·rw [if_neg (not_not_intro c1)] at h ⊢
  by_cases c2:(partF t fr to size).Code=0
  ·rw [if_neg (not_not_intro c2)]; exact ⟨tabF_good c1,c2,rfl⟩
  ·rw [if_pos c2] at h; exact absurd h c2
 ·rw [if_pos c1] at h; exact absurd h c1
theorem del_to {row:List UInt8} (h:row≠[]) (c:Cell):(!tablet_Part_1_1 c [] row)=Op.bytesLess c.Row row:=by
 unfold tablet_Part_1_1
 dsimp only [lt]
 have:Op.bytesLess c.Row []=false:=by
  cases q:Op.bytesLess c.Row [] with
  | false=>rfl
  | true=>cases hc:c.Row <;> simp [hc,Op.bytesLess] at q
 rw [this]
 simp [h]
theorem del_from (row:List UInt8) (c:Cell):(!tablet_Part_1_1 c row []) = !Op.bytesLess c.Row row:=by
 unfold tablet_Part_1_1
 simp [lt]
theorem halves_all (t:Tablet) {row:List UInt8} (h:row≠[]):allT t=partL t [] row++partL t row []:=by
 have:=two_parts (fun c=>Op.bytesLess c.Row row) (allT t) ((all_srt t).imp fun {a b} hab hb=>bl_le_trans (row_up hab) hb)
 unfold partL
 simp only [del_to h,del_from]
 exact this
theorem halves_apart (t:Tablet) {row:List UInt8} (h:row≠[]):∀ x∈partL t [] row,∀ y∈partL t row [],x.Row≠y.Row:=by
 intro x hx y hy e
 have h1:=(List.mem_filter.1 hx).2
 have h2:=(List.mem_filter.1 hy).2
 rw [del_to h] at h1
 rw [del_from,← e,h1] at h2
 cases h2
theorem one_file {t:Tablet} {fr to:List UInt8} {size:Int} (h:¬ (partL t fr to).length=0):(partT t fr to size).Files.length=1:=by
 unfold partT
 dsimp only
 rw [if_neg h]; rfl
theorem scanS_ok {t:Tablet} (h:tabF t=⟨0,0⟩) (a:Ask):scanS t a=if ¬ (askF a).Code=0 then ([],askF a) else if a.Time<t.Since then ([],⟨12,-1⟩) else (((allT t).filter (vis (allT t) a)).take a.Many.toNat,⟨0,0⟩):=by
 unfold scanS
 rw [h,if_neg (by simp)]
theorem TabletHalves_eq (t:Tablet) (row:List UInt8) (size:Int) (a:Ask) (hl:t.Files.length≤140737488351232):law_TabletHalves t row size a=some true:=by
 obtain ⟨b,hb,_⟩:=vastT_run t hl
 unfold law_TabletHalves
 rw [tabBegun,ob_some,if_neg (by decide),hb,ob_some]
 cases b with
 | true=>rw [if_pos rfl]
 | false=>
  rw [if_neg (by decide),halve_eq,ob_some]
  obtain ⟨r,hr⟩:∃ r,(if ((decide ((halveS t).2.Code=0))&&(decide (row=([]:List UInt8))))=true then some ((halveS t).1,t,a,(halveS t).2) else some (row,t,a,(halveS t).2))=some (r,t,a,(halveS t).2):=by
   split
   ·exact ⟨_,rfl⟩
   ·exact ⟨_,rfl⟩
  rw [hr,ob_some]
  dsimp only
  by_cases c0:r=[]
  ·rw [if_pos (d_t c0)]
  ·rw [if_neg (d_f c0),part_eq,ob_some,part_eq,ob_some]
   dsimp only
   by_cases c1:(partS t [] r size).2.Code=0∧(partS t r [] size).2.Code=0
   ·obtain ⟨hT,p1,e1⟩:=partS_ok c1.1
    obtain ⟨_,p2,e2⟩:=partS_ok c1.2
    obtain ⟨k1,a1⟩:=partT_ok hT p1
    obtain ⟨k2,a2⟩:=partT_ok hT p2
    rw [if_neg (by rw [c1.1,c1.2]; simp),e1,e2]
    dsimp only
    have hf:¬ (((decide ((halveS t).2.Code=0))&&(decide (r=(halveS t).1)))&&((!decide (((partT t [] r size).Files.length:Int)=1))||(!decide (((partT t r [] size).Files.length:Int)=1))))=true:=by
     intro hc
     simp only [Bool.and_eq_true,decide_eq_true_eq] at hc
     obtain ⟨⟨q1,q2⟩,q3⟩:=hc
     have hz:tabF t=⟨0,0⟩:=hT.f
     unfold halveS at q1 q2
     rw [hz,if_neg (by simp)] at q1 q2
     by_cases c2:(rowsT t).length<2
     ·rw [if_pos c2] at q1; cases q1
     ·rw [if_neg c2] at q2
      dsimp only at q2
      obtain ⟨c,hc1,d,hd1,e3,e4⟩:=halve_row c2
      rw [← q2] at e3
      have n1:¬ (partL t [] r).length=0:=fun w=>by
       have:d∈partL t [] r:=List.mem_filter.2 ⟨hd1,by rw [del_to c0,← e3]; exact e4⟩
       rw [List.eq_nil_of_length_eq_zero w] at this; cases this
      have n2:¬ (partL t r []).length=0:=fun w=>by
       have:c∈partL t r []:=List.mem_filter.2 ⟨hc1,by rw [del_from,e3,bl_irr]; rfl⟩
       rw [List.eq_nil_of_length_eq_zero w] at this; cases this
      rw [one_file n1,one_file n2] at q3
      simp at q3
    rw [if_neg hf,scan0_eq,ob_some]
    have s1:(⟨(⟨(partT t [] r size).Log.Bytes,(partT t [] r size).Log.Kept⟩:Disk),(partT t [] r size).Files,(partT t [] r size).Done,(partT t [] r size).Since⟩:Tablet)=partT t [] r size:=rfl
    have s2:(⟨(⟨(partT t r [] size).Log.Bytes,(partT t r [] size).Log.Kept⟩:Disk),(partT t r [] size).Files,(partT t r [] size).Done,(partT t r [] size).Since⟩:Tablet)=partT t r [] size:=rfl
    rw [s1,s2,scan0_eq,ob_some,scan0_eq,ob_some]
    rw [scanS_ok hT.f,scanS_ok k1,scanS_ok k2,a1,a2,show (partT t [] r size).Since=t.Since from rfl,show (partT t r [] size).Since=t.Since from rfl]
    by_cases c3:(askF ⟨a.From,a.To,a.Time,1000⟩).Code=0
    ·rw [if_neg (not_not_intro c3),if_neg (not_not_intro c3),if_neg (not_not_intro c3)]
     by_cases c4:a.Time<t.Since
     ·rw [if_pos c4,if_pos c4,if_pos c4]; simp
     ·rw [if_neg c4,if_neg c4,if_neg c4]
      have hal:=hT.all
      have hsum:(partL t [] r).length+(partL t r []).length≤1000:=by
       have:=halves_all t c0
       rw [this,List.length_append] at hal; exact hal
      have l1:=List.length_filter_le (vis (partL t [] r) ⟨a.From,a.To,a.Time,1000⟩) (partL t [] r)
      have l2:=List.length_filter_le (vis (partL t r []) ⟨a.From,a.To,a.Time,1000⟩) (partL t r [])
      rw [halves_all t c0,vis_two _ (halves_apart t c0)]
      have e1000:(1000:Int).toNat=1000:=rfl
      dsimp only
      rw [e1000,List.take_of_length_le (by rw [List.length_append]; omega),List.take_of_length_le (by omega),List.take_of_length_le (by omega)]
      rw [if_neg (by simp),if_neg (by simp)]
      unfold law_ownCells
      rw [asrt_pos (by omega),ob_some,asrt_pos (by rw [List.length_append]; omega),sameCells_self _ (by rw [List.length_append]; omega),ob_some]
    ·rw [if_pos c3,if_pos c3,if_pos c3]
     simp [c3]
   ·rw [if_pos (by
     simp only [Bool.or_eq_true,Bool.not_eq_true',decide_eq_false_iff_not]
     by_cases q:(partS t [] r size).2.Code=0
     ·exact .inr fun w=>c1 ⟨q,w⟩
     ·exact .inl q)]
end G
end Go.Proofs.YticbfakiihfgmaaGreat
