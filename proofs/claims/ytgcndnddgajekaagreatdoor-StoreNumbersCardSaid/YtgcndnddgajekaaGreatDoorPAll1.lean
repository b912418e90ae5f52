/- The plain law. -/
import Derived.Test.YtgcndnddgajekaaGreatDoorEmD
import Derived.Test.YtgcndnddgajekaaGreatDoorGf2
import Derived.Lib.AtoiTie
import Derived.Test.YtgcndnddgajekaaGreatDoorPAll0
namespace Go.Proofs.YtgcndnddgajekaaGreatDoor
open Go Go.Dm
set_option linter.unusedVariables false
set_option linter.unusedSimpArgs false
set_option linter.unusedSectionVars false
namespace G
def up (a b:Note):Prop:=a.Seq<b.Seq
theorem lastN_app (l:List Note)(m:Note):lastN (l++[m])=m:=by
 unfold lastN;have:(((l++[m]).length:Nat):Int) - 1=(l.length:Int):=by simp
 rw [this,zdk _ l.length (by simp)]; simp
theorem nts_up:∀ (l:B9) (acc:List Note) (g:Nat),acc.Pairwise up->(∀ n∈acc,n.Seq<=(lastN acc).Seq)->(nts acc g l).1.Pairwise up/\∀ n∈(nts acc g l).1,n.Seq<=(lastN (nts acc g l).1).Seq
 | [],acc,g,h1,h2=>⟨h1,h2⟩
 | s::l,acc,g,h1,h2=>by
  rw [nts];split
  ·rename_i c;have hlt:∀ n∈acc,n.Seq<(zg9 s).1.Seq:=fun n hn=>by
    rcases c.2 with q | q
    ·rw [xai q] at hn; cases hn
    ·have:=h2 n hn; omega
   refine nts_up l _ _ ?_ ?_
   ·rw [xbj];exact ⟨h1,xe0 ..,fun a ha b hb=>by rw [xba] at hb; subst hb; exact hlt a ha⟩
   ·intro n hn;rw [lastN_app]
    rcases xax.1 hn with q | q
    ·exact Int.le_of_lt (hlt n q)
    ·rw [xba] at q; subst q; exact xfd _
  ·exact ⟨h1,h2⟩
theorem logd_up (b:B8):(logd b).1.Pairwise up:=(nts_up (bodies b) [] 0 .nil (by simp)).1
theorem abv_filter (done:Int):∀ l:List Note,l.Pairwise up->abv done l=l.filter fun n=>decide (done<n.Seq)
 | [],_=>rfl
 | n::l,h=>by
  obtain ⟨h1,h2⟩:=xbu.1 h;rw [abv];by_cases c:done<n.Seq
  ·rw [xad c,List.filter_cons_of_pos (by simpa using c)];congr 1;exact (List.filter_eq_self.2 fun m hm=>by have:n.Seq<m.Seq:=h1 m hm; simp; omega).symm
  ·rw [xab c,List.filter_cons_of_neg (by simpa using c)];exact abv_filter done l h2
theorem above_eq (l:List Note)(done:Int)(hl:l.length<=1000000):R_Above l done=some (l.filter fun n=>decide (done<n.Seq)):=by
 have key:∀ (m k:Nat),l.length - k=m->k<=l.length->R_Above_L1 l done ((l.take k).filter (fun n=>decide (done<n.Seq)),(k:Int))=some (l.filter fun n=>decide (done<n.Seq)):=by
  intro m
  induction m with
  | zero=>
   intro k e hk;have:k=l.length:=by omega
   subst this;refine zae ?_;unfold R_Above_B1 R_Above_J1;dsimp only;rw [ifF ..,xco]; rfl
  | succ m ih=>
   intro k e hk;have hkl:k<l.length:=by omega
   have hw:w64 ((k:Int)+1)=((k+1:Nat):Int):=by rw [zaf ..]; omega
   have hfl:=List.length_filter_le (fun n:Note=>decide (done<n.Seq)) (l.take k);have htl:(l.take k).length<=k:=by simp; omega
   refine (zaj ?_).trans (ih (k+1) (by omega) (by omega));unfold R_Above_B1;dsimp only;rw [ifT ..,zaa ..,hw,filter_succ _ l k hkl];by_cases c:done<(zad l (k:Int)).Seq
   ·rw [xad (d_t c),zaa ..,zaa (by rw [xaa,xbc]; omega),zac,xad (by simpa using c)]
   ·rw [xab (d_f c),zac,xab (by simpa using c),xbh]
 exact key l.length 0 (by omega) (by omega)
theorem above_abv (t:Tablet)(hl:(zh3 t).length<=1000000):R_Above (zh3 t) t.Done=some (abv t.Done (zh3 t)):=by
 rw [above_eq _ _ hl,abv_filter t.Done (zh3 t) (logd_up t.Log.Bytes)]
theorem togethr_loop (l:List Cs)(hs:∀ g∈l,g.Pairwise ah)(hl:l.length<=1000)(hf:l.flatten.length<=100000000):∀ (n:Nat),n<=l.length->zoz l (firsts (l.drop n).flatten,(n:Int))=some (firsts l.flatten)
 | 0,_=>by
  refine zae ?_;unfold zkd;dsimp only;rw [xab (d_f (by simp))]; rfl
 | n+1,hn=>by
  have hw:w64 (((n+1:Nat):Int) - 1)=(n:Int):=by rw [zaf ..]; omega
  have hm:=zif l (n:Int) (by omega);have hgl:(zad l (n:Int)).length<=l.flatten.length:=(List.sublist_flatten_of_mem hm).length_le;have hfl:=firsts_len (l.drop (n+1)).flatten;have hdl:(l.drop (n+1)).flatten.length<=l.flatten.length:=by
   have e:l.flatten=(l.take (n+1)).flatten++(l.drop (n+1)).flatten:=by rw [<- List.flatten_append,xbp]
   rw [e,xaa]; omega
  have hp:=rputs_eq (firsts (l.drop (n+1)).flatten) (zad l (n:Int)) (l.drop (n+1)).flatten (zgg _) (by omega);have he:firsts ((zad l (n:Int)).reverse++(l.drop (n+1)).flatten)=firsts (l.drop n).flatten:=by
   rw [zdd l n (by omega),xet];exact (firsts_congr (Stab.app (stab_rev (hs _ hm)) (Stab.refl _))).symm
  refine (zaj ?_).trans (togethr_loop l hs hl hf n (by omega));unfold zkd;dsimp only;rw [ifT ..,hw,zaa ..,hp,zac,he]
theorem togethr_eq {l:List Cs}(hs:∀ g∈l,g.Pairwise ah)(hl:l.length<=1000)(hf:l.flatten.length<=100000000):zng l=some (firsts l.flatten):=by
 have:=togethr_loop l hs hl hf l.length (xaf _);rw [xck] at this;unfold zng;rw [<- this];congr 2;rw [show ([]:List Cs).flatten=[] from rfl,firsts_self .nil]
noncomputable def insS (t:Tablet):List Note×Int×Cs×List Cs×Cs×Fault:=
 if ¬ (znl t).Code=0 then ([],0,[],[],[],znl t) else (zh3 t,lastT t,memT t,filT t,allT t,zm7 (memT t) (filT t))
theorem insS_f (t:Tablet):(insS t).2.2.2.2.2=tabF t:=by
 unfold insS tabF;split <;> rfl
theorem heavy_eq (n:List Note)(k:Int)(mem:Cs)(f:List Cs):R_Heavy ⟨n,k,mem,f,allS mem f⟩=zm7 mem f:=by
 unfold R_Heavy zm7 R_F;dsimp only [lt];by_cases c1:500<mem.length
 ·rw [ifT ..,xad c1]
 ·rw [ifF ..,xab c1];by_cases c2:1000<(allS mem f).length
  ·rw [ifT ..,xad c2]
  ·rw [ifF ..,xab c2]
theorem ins_loop (t:Tablet)(k0:Nat)(z:Inside)(zf:Fault)(hL:t.Files.length<=10)(hn:(zh3 t).length<=1000000)(hg:∀ n∈zh3 t,NGood n):∀ (m k:Nat),t.Files.length - k=m->k<=t.Files.length->ldF t.Files 0=ldF (t.Files.drop k) k->(∀ b∈t.Files.take k,(zil b).2.2.Code=0)->
  zn2 (zh3 t,(k0:Int)) (t,z,zf,lastT t) (t,z,zf,(t.Files.take k).map (fun b=>(zil b).1),(k:Int)) =
   some (if ¬ (ldF t.Files 0).Code=0 then ([],0,[],[],[],ldF t.Files 0) else (zh3 t,lastT t,memT t,filT t,allT t,zm7 (memT t) (filT t))):=by
 intro m
 induction m with
 | zero=>
  intro k e hk h0 hgd;have hkl:k=t.Files.length:=by omega
  subst hkl;rw [xck] at h0;have hz:ldF t.Files 0=⟨0,0⟩:=h0;have hfl:=fil_flat t.Files;rw [xco] at hgd;have hm0:=allC_len (abv t.Done (zh3 t)) fun n h=>(hg n (abv_sub t.Done _ n h)).len;have ha:=abv_len t.Done (zh3 t);have hml:(memT t).length<=100000000 - 5000:=by
   unfold memT memS;have:=firsts_len (allC (abv t.Done (zh3 t)));omega
  have hts:([memT t]++filT t).flatten=memT t++(filT t).flatten:=by simp
  have htg:=togethr_eq (l:=[memT t]++filT t) (fun g hgm=>by
   rcases xax.1 hgm with q | q
   ·rw [xba] at q; subst q; exact (zgg _).1
   ·obtain ⟨b,hb,rfl⟩:=xb1.1 q;exact (fileO_good (hgd b hb)).1.srt) (by unfold filT; simp; omega) (by rw [hts,xaa]; unfold filT; omega)
  rw [hts] at htg;refine zae ?_;unfold zik zkg;dsimp only;rw [ifF ..,xco,above_abv t hn,zac,puts_eq [] _ .nil (by simp) (by omega) (fun n h=>hg n (abv_sub t.Done _ n h)),zac,xbh];have e1:firsts (allC (abv t.Done (zh3 t)))=memT t:=rfl;have e2:t.Files.map (fun b=>(zil b).1)=filT t:=rfl;rw [e1,e2,zaa (by unfold filT; simp; omega),htg,zac];dsimp only [lt];have e3:firsts (memT t++(filT t).flatten)=allS (memT t) (filT t):=rfl;rw [e3,heavy_eq,hz,xab (by simp)]; rfl
 | succ m ih=>
  intro k e hk h0 hgd;have hkl:k<t.Files.length:=by omega
  have hw:w64 ((k:Int)+1)=((k+1:Nat):Int):=by rw [zaf ..]; omega
  rw [zdd t.Files k hkl,ldF] at h0;have hop:=ropen_eq (zad t.Files (k:Int));by_cases c:(zil (zad t.Files (k:Int))).2.2.Code=0
  ·rw [xad c] at h0;refine (zaj ?_).trans (ih (k+1) (by omega) (by omega) h0 (fun b hb=>by
    rw [lget_take t.Files k hkl] at hb
    rcases xax.1 hb with q | q
    ·exact hgd b q
    ·rw [xba] at q; subst q; exact c))
   unfold zik;dsimp only;rw [ifT ..,zaa ..,hop,zac,xab (n_f c),zaa (by simp; omega),hw,lget_take t.Files k hkl,xbx]; rfl
  ·rw [xab c] at h0;refine zae ?_;unfold zik;dsimp only;rw [ifT ..,zaa ..,hop,zac,xad (n_t c),h0,xad c]; rfl
theorem rlogd0_eq (b:B8)(h:b.length<=60000):R_Logged b=some ((logd b).1,(((logd b).2:Nat):Int)):=rlogd_eq b h
theorem inside_eq (t:Tablet):zmw t=some (insS t):=by
 unfold zmw insS znl R_F;by_cases c1:t.Done<0\/1000000000<t.Done\/t.Since<0\/1000000000<t.Since
 ·rw [xad (by simp; omega),xad c1,xad (by simp)]; rfl
 ·rw [xab (by simp; omega),xab c1];by_cases c2:10<t.Files.length
  ·rw [ifT ..,xad c2,xad (by simp)]; rfl
  ·rw [ifF ..,xab c2,rdisk_eq];dsimp only [lt];by_cases c3:(dF t.Log).Code=0
   ·have hd:=dF_good.1 c3;have hlen:=hd.len;obtain ⟨l1,l2,l3⟩:=logd_le t.Log.Bytes;rw [xab (n_f c3),xab (xc8 c3),rlogd0_eq t.Log.Bytes hlen,zac];dsimp only;have e1:(logd t.Log.Bytes).1=zh3 t:=rfl;rw [e1] at l2 l3 ⊢;have hwn:w64 (((zh3 t).length:Int) - 1)=((zh3 t).length:Int) - 1:=zaf ..;rw [hwn];have go:¬ badT t->zir (zh3 t,(((logd t.Log.Bytes).2:Nat):Int)) (t,⟨[],0,[],[],[]⟩,⟨0,0⟩,lastT t)=some (if ¬ (ldF t.Files 0).Code=0 then ([],0,[],[],[],ldF t.Files 0) else (zh3 t,lastT t,memT t,filT t,allT t,zm7 (memT t) (filT t))):=fun _=>
     ins_loop t _ _ _ (by omega) (by omega) l3 t.Files.length 0 (by omega) (by omega) rfl (by simp)
    by_cases c4:(logd t.Log.Bytes).2=t.Log.Bytes.length
    ·rw [xab (n_f (by omega))];by_cases c5:0<(zh3 t).length
     ·have g0:=l3 _ (zif (zh3 t) 0 (by omega));have hws:w64 ((zad (zh3 t) 0).Seq - 1)=(zad (zh3 t) 0).Seq - 1:=zaf (by have:=g0.lo; omega) (by have:=g0.hi; omega);rw [ifT ..,zaa ..,zaa ..,zaa ..,zaa ..,hws];by_cases c6:t.Done+1<(zad (zh3 t) 0).Seq\/(zad (zh3 t) (((zh3 t).length:Int) - 1)).Seq<t.Done
      ·have hb:badT t:=.inr ⟨c5,c6⟩;rw [xad (by simp only [xa0,xav]; omega),xad hb,xad (by simp)]
      ·have hb:¬ badT t:=by unfold badT; rintro (q | ⟨_,q⟩) <;> contradiction
       rw [xab (by simp only [xa0,xav]; omega),xab hb];have:=go hb;unfold lastT at this ⊢;rw [xad c5] at this ⊢;exact this
     ·have hb:¬ badT t:=by unfold badT; rintro (q | ⟨q,_⟩) <;> contradiction
      rw [ifF ..,xab hb];have:=go hb;unfold lastT at this ⊢;rw [xab c5] at this ⊢;exact this
    ·have hb:badT t:=.inl c4;rw [xad (n_t (by omega)),xad hb,xad (by simp)]
   ·rw [xad (n_t c3),xad c3,xad c3]
theorem sameBodies_loop (a b:B9)(hl:a.length=b.length)(hb:a.length<=1000000):∀ (m k:Nat),a.length - k=m->k<=a.length->zlk a b (k:Int)=some (decide (a.drop k=b.drop k))
 | 0,k,e,hk=>by
  have:k=a.length:=by omega
  refine zae ?_;simp only [zf8];rw [ifF ..];have e1:a.drop k=[]:=xcq (by omega);have e2:b.drop k=[]:=xcq (by omega);simp [zey,zid,e1,e2]
 | m+1,k,e,hk=>by
  have hw:w64 ((k:Int)+1)=((k+1:Nat):Int):=by rw [zaf ..]; omega
  have ih:=sameBodies_loop a b hl hb m (k+1) (by omega) (by omega);rw [zdd a k (by omega),zdd b k (by omega)];by_cases c:zad a (k:Int)=zad b (k:Int)
  ·refine (zaj (y:=((k+1:Nat):Int)) ?_).trans (ih.trans (by simp [c]));dsimp only [zf8,zju,lt];rw [ifT ..,zaa ..,zaa ..,xab (by simp [c]),hw]
  ·refine zae ?_;dsimp only [zf8,zju,lt];rw [ifT ..,zaa ..,zaa ..,xad (by simp [c])];simp [c]
theorem sameBodies_eq (a b:B9)(hb:a.length<=1000000):zjk a b=some (decide (a=b)):=by
 unfold zjk;by_cases c:a.length=b.length
 ·rw [xab (by simp [c])];have:=sameBodies_loop a b c hb a.length 0 (by omega) (by omega);simpa using this
 ·rw [xad (by simp; omega)];have:a≠b:=fun h=>c (by rw [h]);simp [this]
theorem sameT_eq (a b:Tablet)(hb:a.Files.length<=1000000):zjh a b=some (decide (a=b)):=by
 unfold zjh;rw [sameDisk_iff];dsimp only [lt];obtain ⟨l,f,d,s⟩:=a;obtain ⟨l',f',d',s'⟩:=b;dsimp only at hb ⊢;by_cases c:l=l'
 ·rw [xb2 c,xad rfl,sameBodies_eq _ _ hb,zac];subst c;by_cases c2:f=f' <;> by_cases c3:d=d' <;> by_cases c4:s=s' <;> simp [c2,c3,c4]
 ·rw [xbg c,xab (by simp),zac];simp [c]
def sumL (l:B9):Nat:=(l.map List.length).sum
theorem sumL_cons (s:B8)(l:B9):sumL (s::l)=s.length+sumL l:=by simp [sumL]
theorem sumL_mem:∀ (l:B9) (b:B8),b∈l->b.length<=sumL l
 | s::l,b,h=>by
  rw [sumL_cons]
  rcases xaq.1 h with e | e
  ·rw [e]; omega
  ·have:=sumL_mem l b e; omega
theorem sumL_le:∀ (l:B9),(∀ b∈l,b.length<=140737488351232)->sumL l<=140737488351232*l.length
 | [],_=>by simp [sumL]
 | s::l,h=>by
  have h1:=sumL_le l fun b hb=>h b (xb3 _ hb);have h2:=h s (xbo ..);rw [sumL_cons,xal]; omega
theorem vast_val (t:Tablet)(hf:t.Files.length<=100)(hb:∀ b∈t.Files,b.length<=140737488351232):∀ (m k v:Nat),t.Files.length - k=m->k<=t.Files.length->v+sumL (t.Files.drop k)<=100000000000000000->
  ze2 (t,(v:Int),(k:Int))=some (decide (20000<v+sumL (t.Files.drop k)))
 | 0,k,v,e,hk,hv=>by
  have:k=t.Files.length:=by omega
  subst this;refine zae ?_;unfold zed ze0;dsimp only;rw [ifF ..,xck];have:sumL []=0:=rfl;rw [this,xbg (show ¬ (100<(t.Files.length:Int)) by omega),xdn,xea.2 (show 20000<(v:Int)↔20000<v+0 by omega)]; rfl
 | m+1,k,v,e,hk,hv=>by
  have hkl:k<t.Files.length:=by omega
  rw [zdd t.Files k hkl,sumL_cons] at hv ⊢;have h1:w64 ((k:Int)+1)=((k+1:Nat):Int):=by rw [zaf ..]; omega
  have h2:w64 ((v:Int)+((zad t.Files (k:Int)).length:Int))=((v+(zad t.Files (k:Int)).length:Nat):Int):=by rw [zaf ..]; omega
  refine (zaj ?_).trans ((vast_val t hf hb m (k+1) (v+(zad t.Files (k:Int)).length) (by omega) (by omega) (by omega)).trans (by rw [xcf]));unfold zed;dsimp only;rw [ifT ..,zaa ..,h1,h2]
structure Few (t:Tablet):Prop where
 log:t.Log.Bytes.length<=20000
 files:t.Files.length<=100
 each:∀ b∈t.Files,b.length<=20000
theorem vast_eq (t:Tablet)(h0:t.Log.Bytes.length<=140737488351232)(hl:t.Files.length<=140737488351232)(hb:∀ b∈t.Files,b.length<=140737488351232):∃ b,zfw t=some b/\(b=false->Few t):=by
 obtain ⟨b,h1,h2⟩:=vastT_run t hl;refine ⟨b,h1,fun hbf=>?_⟩;have hf:=h2 hbf;have hs:=sumL_le t.Files hb;have:=vast_val t hf hb t.Files.length 0 t.Log.Bytes.length (by omega) (by omega) (by rw [xce]; omega);have h3:zfw t=ze2 (t,(t.Log.Bytes.length:Int),((0:Nat):Int)):=rfl;rw [h3,this,hbf,xce] at h1;have h4:¬ 20000<t.Log.Bytes.length+sumL t.Files:=by simpa using h1
 exact ⟨by omega,hf,fun x hx=>by have:=sumL_mem _ _ hx; omega⟩
theorem ownB_eq (l:B9)(hl:l.length<=1000)(hb:∀ b∈l,b.length<=1000000):zhe l=some l:=by
 have key:∀ (m k:Nat),l.length - k=m->k<=l.length->zho l (l.take k,(k:Int))=some l:=by
  intro m
  induction m with
  | zero=>
   intro k e hk;have:k=l.length:=by omega
   subst this;refine zae ?_;unfold zfo zfn;dsimp only;rw [ifF ..,xco]; rfl
  | succ m ih=>
   intro k e hk;have hkl:k<l.length:=by omega
   have hw:w64 ((k:Int)+1)=((k+1:Nat):Int):=by rw [zaf ..]; omega
   have hx:=hb _ (zif l (k:Int) (by omega));refine (zaj ?_).trans (ih (k+1) (by omega) (by omega));unfold zfo ze3;dsimp only;rw [ifT ..,zaa ..,zaa ..,zac,zaa (by simp; omega),hw,lget_take l k hkl]
 exact key l.length 0 (by omega) (by omega)
theorem ownT_eq {t:Tablet}(h:Few t):zim t=some t:=by
 unfold zim zov ze3;have:=h.log;rw [zaa ..,zac,zac,ownB_eq _ (by have:=h.files; omega) (fun b hb=>by have:=h.each b hb; omega),zac]
theorem bsearchg_loop (l:Cs)(hg:Gw l)(t:Cell):∀ (m i j:Nat),j - i=m->i<=j->j<=l.length->(∀ n<i,zbo (zad l (n:Int)) t=true)->(∀ n,j<=n->n<l.length->zbo (zad l (n:Int)) t=false)->
  ∃ (n:Nat) (b:Bool),zbm l (t,(i:Int),(j:Int))=some ((n:Int),b)/\n<=l.length/\(∀ k<n,zbo (zad l (k:Int)) t=true)/\(∀ k,n<=k->k<l.length->zbo (zad l (k:Int)) t=false):=by
 intro m
 induction m using Nat.strongRecOn with
 | _ m ih=>
  intro i j e hij hjl h1 h2;have hlen:=hg.len;by_cases c:i<j
  ·have hw:w64 (Int.fdiv (IntKind.u64.wrap (w64 ((i:Int)+(j:Int)))) (2 ^ (min (1:Int).toNat 64)))=(((i+j) / 2:Nat):Int):=by
    have e2:(2:Int) ^ (min (1:Int).toNat 64)=((2:Nat):Int):=by decide
    have e1:IntKind.u64.wrap (w64 ((i:Int)+(j:Int)))=((i+j:Nat):Int):=by
     rw [zaf ..];unfold IntKind.wrap;simp only [IntKind.signed,IntKind.bits];simp;omega
    rw [e1,e2,fdiv_nat',zaf ..]
   generalize hh:(i+j) / 2=h at hw;have hi1:i<=h:=by omega
   have hj1:h<j:=by omega
   have hw1:w64 ((h:Int)+1)=((h+1:Nat):Int):=by rw [zaf ..]; omega
   by_cases ca:zbo (zad l (h:Int)) t=true
   ·obtain ⟨n,b,r1,r2⟩:=ih (j - (h+1)) (by omega) (h+1) j rfl (by omega) hjl (fun n hn=>by
     by_cases hnh:n=h
     ·subst hnh; exact ca
     ·exact (zax _ _).2 (zko (hg.at (by omega) (by omega)) ((zax _ _).1 ca))) h2
    refine ⟨n,b,(zaj (y:=(t,((h+1:Nat):Int),(j:Int))) ?_).trans r1,r2⟩;simp only [zaq];rw [ifT ..,hw];dsimp only [lt];rw [zaa ..,zcr,zjc,zac,xad (d_t ((zjy _ _).2 ca)),hw1]
   ·obtain ⟨n,b,r1,r2⟩:=ih (h - i) (by omega) i h rfl (by omega) (by omega) h1 (fun n hn hnl=>by
     by_cases hnh:n=h
     ·subst hnh; simpa using ca
     ·refine ahead_f.2 fun hh2=>ca ((zax _ _).2 (zko (hg.at (i:=h) (j:=n) (by omega) hnl) hh2)))
    refine ⟨n,b,(zaj (y:=(t,(i:Int),(h:Int))) ?_).trans r1,r2⟩;simp only [zaq];rw [ifT ..,hw];dsimp only [lt];rw [zaa ..,zcr,zjc,zac,xab (d_f (fun hn=>ca ((zjy _ _).1 hn)))]
  ·have:i=j:=by omega
   subst this;have hJ:∃ b,zap l (t,(i:Int))=some ((i:Int),b):=by
    unfold zap;dsimp only;by_cases ci:(i:Int)<(l.length:Int)
    ·rw [zaa (fun _=>by omega),xad (d_t ci),zjc,zac];exact ⟨_,rfl⟩
    ·rw [zaa (fun h=>absurd (xa7 h) ci),xab (d_f ci),zac];exact ⟨_,rfl⟩
   obtain ⟨b,hb⟩:=hJ;refine ⟨i,b,zae ?_,hjl,h1,h2⟩;simp only [zaq];rw [ifF ..,hb]; rfl
def newS (l:Cs)(row col:B8)(t:Int):Cell×Bool:=match fnd l row col t with
 | some c=>(c,true)
 | none=>(cell0,false)
theorem newest_gw (l:Cs)(hg:Gw l)(row col:B8)(t:Int):zlg l row col t=some (newS l row col t):=by
 have hlen:=hg.len;obtain ⟨n,b,r1,r2,r3,r4⟩:=bsearchg_loop l hg ⟨row,col,t,false,[]⟩ l.length 0 l.length (by omega) (by omega) (by omega) (fun n hn=>by omega) (fun n h1 h2=>by omega);have r1':za0 l ⟨row,col,t,false,[]⟩=some ((n:Int),b):=r1;have early:∀ j<n,at' row col t (zad l (j:Int))=false:=fun j hj=>by
  have:=(zax _ _).1 (r3 j hj);cases ha:at' row col t (zad l (j:Int)) with
  | false=>rfl
  | true=>
   obtain ⟨a1,a2,a3⟩:=at_iff.1 ha;unfold ah at this;simp only [a1,a2,zj5] at this;simp at this; omega
 unfold zlg;rw [r1',zac];dsimp only;by_cases cn:n<l.length
 ·have hlt:(n:Int)<(l.length:Int):=by omega
  have hnb:=ahead_f.1 (r4 n (xaf _) cn);rw [zaa (fun _=>by omega),zaa (fun _=>by omega)];by_cases cp:(zad l (n:Int)).Row=row/\(zad l (n:Int)).Col=col
  ·have hat:at' row col t (zad l (n:Int))=true:=at_iff.2 ⟨cp.1,cp.2,by
    by_cases ht:(zad l (n:Int)).Time<=t
    ·exact ht
    ·exact absurd (.inr ⟨cp.1,.inr ⟨cp.2,by dsimp only; omega⟩⟩) hnb⟩
   have hf:=fnd_some cn hat early;rw [xad (by simp [hlt,cp.1,cp.2]),zaa ..];unfold newS;rw [hf]
  ·have hf:fnd l row col t=none:=fnd_none fun j hj=>by
    by_cases hjn:j<n
    ·exact early j hjn
    ·cases ha:at' row col t (zad l (j:Int)) with
     | false=>rfl
     | true=>
      exfalso;obtain ⟨a1,a2,a3⟩:=at_iff.1 ha;by_cases hjn2:j=n
      ·subst hjn2; exact cp ⟨a1,a2⟩
      ·have h3:=hg.at (i:=n) (j:=j) (by omega) hj;unfold ah at h3 hnb;rw [a1,a2] at h3;dsimp only at hnb;refine cp ?_
       rcases h3 with h3 | ⟨h3,h4⟩
       ·exact absurd (.inl h3) hnb
       ·refine ⟨h3,?_⟩
        rcases h4 with h4 | ⟨h4,_⟩
        ·exact absurd (.inr ⟨h3,.inl h4⟩) hnb
        ·exact h4
   rw [xab (by simp; exact fun _ h1 h2=>cp ⟨h1,h2⟩)];unfold newS;rw [hf]; rfl
 ·have hlt:¬ (n:Int)<(l.length:Int):=by omega
  have hf:fnd l row col t=none:=fnd_none fun j hj=>early j (by omega);rw [zaa (fun h=>absurd (xa7 h) hlt),zaa (fun h=>by simp [hlt] at h),xab (by simp [hlt])];unfold newS;rw [hf]; rfl
noncomputable def getF (t:Tablet)(time:Int):Fault:=
 if ¬ (tabF t).Code=0 then tabF t else if time<0\/1000000000<time then ⟨3,-1⟩ else if time<t.Since then ⟨12,-1⟩ else ⟨0,0⟩
noncomputable def getS (t:Tablet)(row col:B8)(time:Int):B8×Bool×Fault:=
 if ¬ (getF t time).Code=0 then ([],false,getF t time) else ((newS (allT t) row col time).1.Value,(newS (allT t) row col time).2 && !(newS (allT t) row col time).1.Gone,⟨0,0⟩)
theorem get_eq (t:Tablet)(row col:B8)(time:Int):zm1 t row col time=some (getS t row col time):=by
 unfold zm1 getS getF;rw [load_eq,zac];by_cases h1:(znl t).Code=0
 ·rw [loadS_ok h1];dsimp only [sm];have hf:tabF t=zm7 (memT t) (filT t):=by unfold tabF; rw [xab (xc8 h1)]
  rw [hf];by_cases h2:(zm7 (memT t) (filT t)).Code=0
  ·have hz:(tabF t).Code=0:=by rw [hf]; exact h2
   have hT:=tabF_good hz;have h00:zm7 (memT t) (filT t)=⟨0,0⟩:=by rw [<- hf]; exact hT.f
   rw [h00];by_cases h3:time<0\/1000000000<time
   ·rw [xad (by simp only [xaw,xa0,xav]; exact ⟨trivial,h3⟩),xad h3];dsimp only [lt,zc8];rw [zac];dsimp only;rw [xab (by simp),zac];dsimp only;rw [xad (by simp),xab (show ¬ ¬ (0:Int)=0 by simp),xad (by simp)]
   ·rw [xab (by simp only [xaw,xa0,xav]; exact fun q=>h3 q.2),zac,xab h3];dsimp only [lt];rw [xad (d_t rfl)];unfold zhd zc8;by_cases h4:time<t.Since
    ·rw [xad (d_t h4),zac,xad h4];dsimp only [lt];simp
    ·rw [xab (d_f h4),zac,xab h4];dsimp only;obtain ⟨f1,f2⟩:=filT_len hT;rw [xab (by simp),all_eq _ _ _ _ _ _ _ _ _ (by have:=hT.mem; omega) f1 f2,zac];dsimp only;rw [show allS (memT t) (filT t)=allT t from rfl,newest_gw _ (all_gw hT),zac];simp
  ·rw [xab (by simp [h2]),zac];dsimp only;rw [xab (d_f h2),zac];dsimp only;rw [xad (n_t h2),xad h2,xad h2]
 ·have hf:tabF t=znl t:=by unfold tabF; rw [xad h1]
  rw [loadS_bad h1,hf];dsimp only [sm];rw [xab (by simp [h1]),zac];dsimp only;rw [xab (d_f h1),zac];dsimp only;rw [xad (n_t h1),xad h1,xad h1]
abbrev nx {σ ρ:Type}(o:Option ρ)(s:σ):σ⊕ρ:=match o with | none=>.inl s | some x=>.inr x
theorem dg_len:∀ (k u:Nat),u<10 ^ (k+1)->(Lib.decDigits u).length<=k+1
 | 0,u,h=>by rw [Lib.decDigits_length,Lib.nDigits_small (by simpa using h)]; exact xaf _
 | k+1,u,h=>by
  rw [Lib.decDigits_length];by_cases c:u<10
  ·rw [Lib.nDigits_small c]; omega
  ·rw [Lib.nDigits_big c];have:=dg_len k (u / 10) (by rw [xdk] at h; omega);rw [Lib.decDigits_length] at this;omega
theorem zor {n:Int}(h:0<=n):Lib.itoa n=Lib.decDigits n.toNat:=by unfold Lib.itoa; rw [xab (by omega)]
theorem itoa_len {n:Int}(h : -9223372036854775808<=n)(h2:n<=9223372036854775807):(Lib.itoa n).length<=20:=by
 have e:(10:Nat) ^ (18+1)=10000000000000000000:=by decide
 unfold Lib.itoa;split
 ·have:=dg_len 18 n.natAbs (by omega); simp only [xal]; omega
 ·have:=dg_len 18 n.toNat (by omega); omega
theorem itoa_len10 {n:Int}(h:0<=n)(h2:n<=1000000000):(Lib.itoa n).length<=10:=by
 have e:(10:Nat) ^ (9+1)=10000000000:=by decide
 rw [zor h];exact dg_len 9 n.toNat (by omega)
theorem itoa_big {n:Int}(h:¬ n<10):Lib.itoa n=Lib.itoa (w64 (Int.tdiv n 10))++Lib.itoa (Int.tmod n 10)\/¬ n<=9223372036854775807:=by
 by_cases h2:n<=9223372036854775807
 ·left;have e1:Int.tdiv n 10=n / 10:=Int.tdiv_eq_ediv_of_nonneg (by omega);have e2:Int.tmod n 10=n % 10:=Int.tmod_eq_emod_of_nonneg (by omega);rw [e1,e2,zaf ..,zor (by omega),zor (n:=n / 10) (by omega),zor (n:=n % 10) (by omega)];have e3:(n / 10).toNat=n.toNat / 10:=by omega
  have e4:(n % 10).toNat=n.toNat % 10:=by omega
  rw [e3,e4]
  conv=>lhs; rw [Lib.decDigits,dif_neg (by omega)]
  rw [Lib.decDigits_one (i:=n.toNat % 10) (by omega)]
 ·exact .inr h2
theorem toU8_dg {n:Int}(h:0<=n)(h2:n<10):[zfq (w64 (48+n))]=Lib.itoa n:=by
 rw [zaf ..,zor h,Lib.decDigits_one (by omega)];unfold zfq;congr 2;omega
theorem digits_eq {n:Int}(h:0<=n)(h2:n<=9223372036854775807):R_Digits n=some (Lib.itoa n):=by
 unfold R_Digits;have sub:∀ x:Int,(0<=x/\x<=9223372036854775807)->¬ x<10->(0<=w64 (Int.tdiv x 10)/\w64 (Int.tdiv x 10)<=9223372036854775807)/\(w64 (Int.tdiv x 10)).toNat<x.toNat/\(0<=Int.tmod x 10/\Int.tmod x 10<=9223372036854775807)/\(Int.tmod x 10).toNat<x.toNat:=fun x hx c=>by
  have e1:Int.tdiv x 10=x / 10:=Int.tdiv_eq_ediv_of_nonneg (by omega);have e2:Int.tmod x 10=x % 10:=Int.tmod_eq_emod_of_nonneg (by omega);rw [e1,e2,zaf ..];omega
 refine recO_spec (fun n=>0<=n/\n<=9223372036854775807) Int.toNat Lib.itoa (fun x f hx hf r hr=>?_) (fun x f hx hf=>?_) ⟨h,h2⟩
 ·unfold zhw at hr;by_cases c:x<10
  ·rw [xad (d_t c)] at hr;rw [<- Option.some.inj hr];exact toU8_dg hx.1 c
  ·obtain ⟨i1,i2,i3,i4⟩:=sub x hx c;rw [xab (d_f c)] at hr;cases ha:f (w64 (Int.tdiv x 10)) with
   | none=>rw [ha] at hr; cases hr
   | some a=>
    cases hb:f (Int.tmod x 10) with
    | none=>rw [ha,hb] at hr; cases hr
    | some b=>
     rw [ha,hb] at hr;have ea:=hf _ a i1 i2 ha;have eb:=hf _ b i3 i4 hb;obtain ⟨_,hr⟩:=zjq hr;rw [<- Option.some.inj hr,ea,eb]
     rcases itoa_big c with e | e
     ·exact e.symm
     ·exact absurd hx.2 e
 ·unfold zhw;by_cases c:x<10
  ·rw [xad (d_t c),toU8_dg hx.1 c]
  ·obtain ⟨i1,i2,i3,i4⟩:=sub x hx c;rw [xab (d_f c),hf _ i1 i2,zac,hf _ i3 i4,zac];have l1:=itoa_len (n:=w64 (Int.tdiv x 10)) (by omega) i1.2;have l2:=itoa_len (n:=Int.tmod x 10) (by omega) i3.2;rw [zaa ..]
   rcases itoa_big c with e | e
   ·rw [e]
   ·exact absurd hx.2 e
theorem decFrom_app (b:UInt8):∀ (l:B8) (acc:Nat),Lib.decFrom acc (l++[b])=(Lib.decFrom acc l).bind fun m=>(Lib.digitVal b).map fun d=>m*10+d
 | [],acc=>by
  simp only [xbt,Lib.decFrom,xdf];cases Lib.digitVal b <;> rfl
 | c::l,acc=>by
  simp only [xbn,Lib.decFrom];cases Lib.digitVal c with
  | none=>rfl
  | some d=>exact decFrom_app b l _
theorem dv_fin:∀ k:Fin 10,Lib.digitVal (UInt8.ofNat (48+k.val))=some k.val:=by decide
theorem dec_dg (n:Nat):Lib.decFrom 0 (Lib.decDigits n)=some n:=by
 induction n using Nat.strongRecOn with
 | _ n ih=>
  by_cases c:n<10
  ·rw [Lib.decDigits_one c];simp only [Lib.decFrom,dv_fin ⟨n,c⟩];simp
  ·rw [Lib.decDigits,dif_neg c,decFrom_app,ih (n / 10) (by omega),dv_fin ⟨n % 10,by omega⟩];simp only [xdf,xbl,Option.some.injEq];omega
theorem dg_cons (n:Nat):∃ c r,Lib.decDigits n=c::r/\48<=c.toNat/\c.toNat<=57:=by
 cases h:Lib.decDigits n with
 | nil=>have:=Lib.nDigits_pos n; rw [<- Lib.decDigits_length,h] at this; simp at this
 | cons c r=>
  refine ⟨c,r,rfl,?_⟩;obtain ⟨d,hd⟩:=Lib.digit_of_decFrom _ 0 n (dec_dg n) 0 c (by rw [h]; rfl);unfold Lib.digitVal at hd;split at hd
  ·assumption
  ·cases hd
theorem atoi_itoa {n:Int}(h:0<=n)(h2:n<=1000000000):zkb (Lib.itoa n)=(n,true):=by
 have hl:=itoa_len10 h h2;obtain ⟨c,r,e,h3,h4⟩:=dg_cons n.toNat;have hd:=dec_dg n.toNat;rw [zor h] at hl ⊢;have h5:Lib.atoi (Lib.decDigits n.toNat)=some n:=by
  rw [e] at hd ⊢;have n1:(c == 45)=false:=by
   refine xd3.2 fun q=>?_;rw [xeq] at q; subst q; exact absurd h3 (by decide)
  have n2:(c == 43)=false:=by
   refine xd3.2 fun q=>?_;rw [xeq] at q; subst q; exact absurd h3 (by decide)
  simp only [Lib.atoi,n1,n2,Lib.decNat,List.isEmpty_cons,hd,xby,xcw,xbl,Option.some.injEq];omega
 unfold zkb;rw [Lib.atoiAll_short _ (by omega),h5];rfl
def numW (w:B8):Option Int:=if (((zkb w).2&&decide (0<=(zkb w).1))&&decide ((zkb w).1<=1000000000))&&decide (Lib.itoa (zkb w).1=w) then some (zkb w).1 else none
theorem numW_iff {w:B8}{n:Int}:numW w=some n↔0<=n/\n<=1000000000/\w=Lib.itoa n:=by
 unfold numW;constructor
 ·intro h;split at h
  ·rename_i hc;simp only [xaw,xav] at hc;obtain ⟨⟨⟨_,h1⟩,h2⟩,h3⟩:=hc;rw [<- Option.some.inj h];exact ⟨h1,h2,h3.symm⟩
  ·cases h
 ·rintro ⟨h1,h2,rfl⟩;rw [atoi_itoa h1 h2,xad (by simp [h1,h2])]
def numV (w:B8):Int×Fault:=match numW w with
 | some n=>if 1<=n then (n,⟨0,0⟩) else (0,⟨5,0⟩)
 | none=>(0,⟨5,0⟩)
theorem numV_iff (w:B8):(∃ n:Int,1<=n/\n<=1000000000/\w=Lib.itoa n/\numV w=(n,⟨0,0⟩))\/((∀ n:Int,1<=n->n<=1000000000->w≠Lib.itoa n)/\numV w=(0,⟨5,0⟩)):=by
 unfold numV;cases h:numW w with
 | some n=>
  obtain ⟨h1,h2,h3⟩:=numW_iff.1 h;by_cases c:1<=n
  ·exact .inl ⟨n,c,h2,h3,by simp [c]⟩
  ·refine .inr ⟨fun k k1 k2 k3=>?_,by simp [c]⟩;have:=numW_iff.2 ⟨by omega,k2,k3⟩;rw [h] at this;have:=Option.some.inj this;omega
 | none=>
  refine .inr ⟨fun k k1 k2 k3=>?_,rfl⟩;have:=numW_iff.2 ⟨by omega,k2,k3⟩;rw [h] at this; cases this
theorem atoi_in (s:B8) : -9223372036854775808<=(zkb s).1/\(zkb s).1<=9223372036854775807:=by
 unfold zkb;cases h:Lib.atoiAll s
 ·exact Lib.atoiAll_bounds h
 ·exact ⟨show (-9223372036854775808:Int)<=0 by decide,show (0:Int)<=9223372036854775807 by decide⟩
 ·exact Lib.atoiSat_bounds s
theorem number_eq {t:Tablet}{row:B8}(hv:(getS t row [] 1000000000).1.length<=281474976710656):zjm t row=some (if (getS t row [] 1000000000).2.2.Code=0/\(getS t row [] 1000000000).2.1=true then ((numV (getS t row [] 1000000000).1).1,if (numV (getS t row [] 1000000000).1).2.Code=0 then (getS t row [] 1000000000).2.2 else ⟨5,0⟩) else (0,(getS t row [] 1000000000).2.2)):=by
 unfold zjm;rw [get_eq,zac];generalize getS t row [] 1000000000=g at hv ⊢;obtain ⟨v,is,f⟩:=g;dsimp only at hv ⊢;by_cases c:f.Code=0/\is=true
 ·rw [xab (by simp [c.1,c.2]),xad c];unfold zln;rw [zaa hv,zac];have hb:=atoi_in v
  rcases numV_iff v with ⟨n,h1,h2,h3,h4⟩ | ⟨h1,h2⟩
  ·rw [h4];have ha:zkb v=(n,true):=by rw [h3]; exact atoi_itoa (by omega) h2
   rw [ha];dsimp only;have e1:decide (n<1)=false:=xbg (by omega);have e2:decide (1000000000<n)=false:=xbg (by omega);rw [e1,e2,xad (by rfl)];unfold strconv_Itoa;rw [zaa ..,zac,<- h3,xab (by simp),xad (by rfl)]
  ·rw [h2];by_cases q:(((!(zkb v).2)||(decide ((zkb v).1<1)))||(decide (1000000000<(zkb v).1)))=true
   ·rw [xab (by rw [q]; simp),zac,xad (by rw [q]; rfl),xab (by decide)];rfl
   ·have q':=xd3.2 q;rw [xad (by rw [q']; rfl)];unfold strconv_Itoa;rw [zaa hb,zac];simp only [xa0,xav,not_or] at q;have hne:=h1 (zkb v).1 (by omega) (by omega);rw [xad (by simp [Ne.symm hne]),xab (by decide)];rfl
 ·rw [xad (by
   by_cases c1:f.Code=0
   ·cases is
    ·simp
    ·exact absurd ⟨c1,rfl⟩ c
   ·simp [c1]),xab c]
def nsP:Nat->Nat->B8->Option Nat
 | m,_,[]=>some m
 | m,i,c::t=>if i<=10 then (if 48<=c.toNat/\c.toNat<=57 then nsP (m*10+(c.toNat - 48)) (i+1) t else none) else some m
theorem dec_nsP:∀ (t:B8) (m i v:Nat),i+t.length<=11->Lib.decFrom m t=some v->nsP m i t=some v
 | [],m,i,v,hl,h=>h
 | c::t,m,i,v,hl,h=>by
  simp only [xal] at hl;simp only [Lib.decFrom] at h;cases hd:Lib.digitVal c with
  | none=>rw [hd] at h; cases h
  | some d=>
   rw [hd] at h;unfold Lib.digitVal at hd;split at hd
   ·rename_i hc;cases hd;simp only [nsP,xad hc,xad (show i<=10 by omega)];exact dec_nsP t _ _ v (by omega) h
   ·cases hd
theorem nsP_lt:∀ (t:B8) (m i v:Nat),nsP m i t=some v->i<=11->m<10 ^ i->v<10 ^ 11
 | [],m,i,v,h,hi,hm=>by
  have hp:(10:Nat) ^ i<=10 ^ 11:=xda (by decide) hi;simp only [nsP,Option.some.injEq] at h;omega
 | c::t,m,i,v,h,hi,hm=>by
  have hp:(10:Nat) ^ i<=10 ^ 11:=xda (by decide) hi;simp only [nsP] at h;split at h
  ·split at h
   ·exact nsP_lt t _ _ v h (by omega) (by rw [xdk]; omega)
   ·cases h
  ·simp only [Option.some.injEq] at h;omega
theorem ninJ (f w:Fault)(c:Cell)(m:Nat)(h:m<=9223372036854775807):zfk (f,w,c,(m:Int))=some (if 1<=m/\m<=1000000000/\Lib.itoa m=c.Value then ((m:Int),w) else (0,⟨5,0⟩)):=by
 unfold zfk R_One R_Num lt R_F;dsimp only;by_cases c1:1<=m/\m<=1000000000
 ·have e1:((decide (0<(m:Int)))&&((decide (0<=(m:Int)))&&(decide ((m:Int)<=1000000000))))=true:=by simp; omega
  simp only [e1];rw [xad (by rfl),digits_eq (by omega) (by omega),zac];by_cases c2:Lib.itoa m=c.Value
  ·rw [xab (by simp [c2]),xad ⟨c1.1,c1.2,c2⟩]
  ·rw [xad (by simp [c2]),xab (fun q=>c2 q.2.2)]
 ·have e1:((decide (0<(m:Int)))&&((decide (0<=(m:Int)))&&(decide ((m:Int)<=1000000000))))=false:=by
   refine xd3.2 fun q=>c1 ?_;simp only [xaw,xav] at q;omega
  simp only [e1];rw [xab (by decide),zac,xad (by rfl),xab (fun q=>c1 ⟨q.1,q.2.1⟩)]
theorem nin_loop (f w:Fault)(c:Cell)(hw:c.Value.length<=1000000000):∀ (t:B8) (i m:Nat),c.Value.drop i=t->i<=11->i<=c.Value.length->m<10 ^ i->zfl (f,w,c,(m:Int),(i:Int))=match nsP m i t with
  | none=>some (0,⟨5,0⟩)
  | some v=>zfk (f,w,c,(v:Int))
 | [],i,m,ht,hi,hil,hm=>by
  have hp:(10:Nat) ^ i<=10 ^ 11:=xda (by decide) hi;have e10:(10:Nat) ^ 11=100000000000:=by decide
  have hl:c.Value.length<=i:=by have:=congrArg List.length ht; simp at this; omega
  simp only [nsP];rw [ninJ f w c m (by omega)];unfold zfl;refine zae ?_;show zdw (f,w,c,(m:Int),(i:Int))=_;unfold zdw;dsimp only;rw [xab (by simp; omega),ninJ f w c m (by omega)]; rfl
 | b::t,i,m,ht,hi,hil,hm=>by
  have hp:(10:Nat) ^ i<=10 ^ 11:=xda (by decide) hi;have e10:(10:Nat) ^ 11=100000000000:=by decide
  have hl:i<c.Value.length:=by have:=congrArg List.length ht; simp at this; omega
  have hc:zad c.Value (i:Int)=b:=by rw [zdd c.Value i hl] at ht; exact (List.cons.inj ht).1
  have ht':c.Value.drop (i+1)=t:=by rw [zdd c.Value i hl] at ht; exact (List.cons.inj ht).2
  have u48:((48:UInt8).toNat:Int)=48:=rfl;have u57:((57:UInt8).toNat:Int)=57:=rfl;simp only [nsP];by_cases q0:i<=10
  ·have step:zdw (f,w,c,(m:Int),(i:Int))=if 48<=b.toNat/\b.toNat<=57 then some (.inl (f,w,c,((m*10+(b.toNat - 48):Nat):Int),((i+1:Nat):Int))) else some (.inr (0,⟨5,0⟩)):=by
    unfold zdw;dsimp only;rw [xad (by simp; omega),zaa ..,zaa (fun _=>by omega),hc,u48,u57];by_cases q:48<=b.toNat/\b.toNat<=57
    ·rw [xab (by simp; omega),xad q,zaa ..];dsimp only [lt];have e1:((zfq ((b.toNat:Int) - 48)).toNat:Int)=(b.toNat:Int) - 48:=by
      unfold zfq;rw [xbw];have:b.toNat<256:=b.toNat_lt;omega
     rw [e1,zaf (x:=(m:Int)*10) (by omega) (by omega),zaf (x:=(b.toNat:Int) - 48) (by omega) (by omega),zaf ..,zaf ..];congr 6;omega
    ·rw [xad (by simp; omega),xab q]; rfl
   unfold zfl at *
   rw [xad q0];by_cases q:48<=b.toNat/\b.toNat<=57
   ·rw [xad q] at step;rw [xad q,zaj (step:=fun y=>zdw y) step];exact nin_loop f w c hw t (i+1) _ ht' (by omega) (by omega) (by rw [xdk]; omega)
   ·rw [xab q] at step;rw [xab q];exact zae (step:=fun y=>zdw y) step
  ·rw [xab q0];show _=zfk (f,w,c,(m:Int));rw [ninJ f w c m (by omega)];unfold zfl;refine zae ?_;show zdw (f,w,c,(m:Int),(i:Int))=_;unfold zdw;dsimp only;rw [xab (by simp; omega),ninJ f w c m (by omega)]; rfl
theorem nin_eq (f w:Fault)(c:Cell)(hw:c.Value.length<=1000000000):zfl (f,w,c,0,0)=some (if (numV c.Value).2.Code=0 then ((numV c.Value).1,w) else (0,⟨5,0⟩)):=by
 have h:=nin_loop f w c hw c.Value 0 0 rfl (by omega) (by omega) (by decide);have z:(f,w,c,((0:Nat):Int),((0:Nat):Int))=(f,w,c,(0:Int),(0:Int)):=rfl;rw [z] at h;rw [h]
 rcases numV_iff c.Value with ⟨n,h1,h2,h3,h4⟩ | ⟨h1,h2⟩
 ·rw [h4];have hd:=dec_dg n.toNat;rw [<- zor (by omega),<- h3] at hd;have hl:c.Value.length<=10:=by rw [h3]; exact itoa_len10 (by omega) h2
  rw [dec_nsP c.Value 0 0 _ (by omega) hd];have en:((n.toNat:Nat):Int)=n:=by omega
  dsimp only;rw [ninJ f w c _ (by omega),xad ⟨by omega,by omega,by rw [en]; exact h3.symm⟩,en,xad rfl]
 ·rw [h2,xab (by decide)];cases hs:nsP 0 0 c.Value with
  | none=>rfl
  | some v=>
   have hv:=nsP_lt c.Value 0 0 v hs (by omega) (by decide);have e10:(10:Nat) ^ 11=100000000000:=by decide
   dsimp only;rw [ninJ f w c v (by omega),xab (fun q=>h1 (v:Int) (by omega) (by omega) q.2.2.symm)]
theorem all_code {t:Tablet}(h:TG t):∀ c∈allT t,zbx c=0:=fun c hc=>by
 rcases xax.1 (firsts_mem hc) with q | q
 ·obtain ⟨n,h1,h2⟩:=allC_mem.1 (firsts_mem q);exact ((logd_le t.Log.Bytes).2.2 n (abv_sub t.Done _ n h1)).cells.code c h2
 ·obtain ⟨l,h1,h2⟩:=List.mem_flatten.1 q;obtain ⟨b,hb,rfl⟩:=xb1.1 h1;exact (h.fil b hb).1.code c h2
theorem f_self (f:Fault):(decide (f.Code=f.Code)&&(decide (f.At=f.At)&&true))=true:=by simp
theorem StoreNumbers_eq (t:Tablet)(row:B8)(h0:t.Log.Bytes.length<=140737488351232)(hl:t.Files.length<=140737488351232)(hb:∀ b∈t.Files,b.length<=140737488351232):zhb t row=some true:=by
 obtain ⟨b,hv,hfew⟩:=vast_eq t h0 hl hb;have e0:zma=some true:=rfl;unfold zhb;rw [e0,zac,xab (by decide),hv,zac];cases b with
 | true=>rw [xad rfl]
 | false=>
  have hF:=hfew rfl;have hs:=sameT_eq t t (by have:=hF.files; omega);rw [xab (by decide),ownT_eq hF,zac];by_cases c1:(tabF t).Code=0
  ·have hT:=tabF_good c1;have hgw:Gw (allT t):=⟨by have:=hT.all; omega,(zgg _).1⟩;have hin:insS t=(zh3 t,lastT t,memT t,filT t,allT t,⟨0,0⟩):=by
    have hf:=hT.f;unfold tabF at hf;rw [hT.head,xab (by simp)] at hf;unfold insS;rw [hT.head,xab (by simp),hf]
   have hg0:getF t 1000000000=⟨0,0⟩:=by
    unfold getF;rw [xab (xc8 c1),xab (by omega),xab (by have:=hT.s1; omega)]
   have hg:getS t row [] 1000000000=((newS (allT t) row [] 1000000000).1.Value,(newS (allT t) row [] 1000000000).2 && !(newS (allT t) row [] 1000000000).1.Gone,⟨0,0⟩):=by
    unfold getS;rw [hg0,xab (by simp)]
   have hseen:=seen_eq (allT t) hgw row [] 1000000000;have hnum:=@number_eq t row;rw [hg] at hnum;unfold znf;rw [inside_eq,hin];dsimp only at hnum ⊢;unfold newS at hnum;unfold seenS at hseen;cases hfn:fnd (allT t) row [] 1000000000 with
   | none=>
    rw [hfn] at hnum hseen;dsimp only at hnum hseen;rw [hnum (by simp [cell0]),zac,zac];dsimp only;rw [xab (by simp),hseen,zac];dsimp only;rw [xad (by decide),zac,hs,zac];simp [lt]
   | some c=>
    rw [hfn] at hnum hseen;dsimp only at hnum hseen;have hc:c.Value.length<=200:=(code_len (all_code hT c (List.mem_of_find?_eq_some hfn))).2.2.1;rw [hnum (by omega),zac,zac];dsimp only;rw [xab (by simp),hseen,zac];cases hgn:c.Gone with
    | true=>
     rw [xad rfl];dsimp only;rw [xad (by decide),zac,hs,zac];simp [lt]
    | false=>
     rw [xab (show ¬ false=true by decide)];dsimp only;rw [xab (by decide),nin_eq _ _ _ (by omega),zac,hs,zac];have e1:(0:Int)=0/\(true && !false)=true:=⟨rfl,rfl⟩;rw [xad e1]
     rcases numV_iff c.Value with ⟨n,_,_,_,h4⟩ | ⟨_,h4⟩
     ·rw [h4]; simp [lt]
     ·rw [h4]; simp [lt]
  ·have hin:(insS t).2.2.2.2.2=tabF t:=insS_f t;have hg0:getF t 1000000000=tabF t:=by unfold getF; rw [xad c1]
   have hg:getS t row [] 1000000000=([],false,tabF t):=by
    unfold getS;rw [hg0,xad c1]
   have hnum:=@number_eq t row;rw [hg] at hnum;dsimp only at hnum;rw [hnum (by simp),zac];unfold znf;rw [inside_eq,zac,hin,xad (by simpa using c1),zac,hs,zac];have e1:¬ ((tabF t).Code=0/\(false=true)):=fun q=>c1 q.1;rw [xab e1];dsimp only [lt];rw [f_self];simp
end G
end Go.Proofs.YtgcndnddgajekaaGreatDoor
