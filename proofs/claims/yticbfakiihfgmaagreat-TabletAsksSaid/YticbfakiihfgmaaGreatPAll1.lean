/- The plain law. -/
import Derived.Test.YticbfakiihfgmaaGreatPAll0
namespace Go.Proofs.YticbfakiihfgmaaGreat
open Go Go.Dm
set_option linter.unusedVariables false
set_option linter.unusedSimpArgs false
set_option linter.unusedSectionVars false
namespace G
def badC (x:List Cell×Fault) (row:List UInt8):Prop:=¬ x.2.Code=0∨x.1.length=0∨¬ (zad x.1 0).Row=row
instance (x:List Cell×Fault) (row:List UInt8):Decidable (badC x row):=inferInstanceAs (Decidable (_∨_))
noncomputable def celP (L rows:List (List UInt8)):Nat→Nat→List Cell→List Int→Option (List Cell×List Int)
 | 0,_,acc,es=>some (acc,es)
 | m+1,k,acc,es=>if badC (readS (zad L (k:Int))) (zad rows (k:Int)) then none else celP L rows m (k+1) (acc++(readS (zad L (k:Int))).1) (es++[((readS (zad L (k:Int))).1.length:Int)])
theorem badC_iff (x:List Cell×Fault) (row:List UInt8):(((!decide (x.2.Code=0))||(decide ((x.1.length:Int)=0)))||(!decide (((zad x.1 0).Row)=row)))=decide (badC x row):=by
 rw [Bool.eq_iff_iff,decide_eq_true_iff]
 unfold badC
 simp only [Bool.or_eq_true,decide_eq_true_eq,Bool.not_eq_true',decide_eq_false_iff_not]
 constructor
 ·rintro ((q | q) | q)
  ·exact .inl q
  ·exact .inr (.inl (by omega))
  ·exact .inr (.inr q)
 ·rintro (q | q | q)
  ·exact .inl (.inl q)
  ·exact .inl (.inr (by omega))
  ·exact .inr q
theorem goodC {x:List Cell×Fault} (q:(!((!decide (x.2.Code=0))||(decide ((x.1.length:Int)=0))))=true):0<x.1.length:=by
 simp only [Bool.not_eq_true',Bool.or_eq_false_iff,decide_eq_false_iff_not,Bool.not_eq_false'] at q
 omega
noncomputable def cellsO:Option (List Cell×List Int)→List Cell×Bool
 | some q=>(q.1,decide ((cellF q.1).Code=0))
 | none=>([],false)
theorem cells_loop (L rows:List (List UInt8)) (o2:List UInt8) (to:Nat) (ht:to≤L.length) (hr:to≤rows.length) (hL:to≤100000):∀ (m k:Nat) (acc:List Cell) (es:List Int),to - k=m→k≤to→acc.length≤60000*k→
  file_opened_cells_L1 (to:Int) (⟨L,rows,o2⟩,acc,(k:Int))=some (cellsO (celP L rows m k acc es))
 | 0,k,acc,es,e,hk,ha=>by
  refine zaf ?_
  unfold zb2
  dsimp only
  rw [if_neg (d_f (by omega))]
  unfold file_opened_cells_J1
  rw [check_eq,zab,celP]; rfl
 | m+1,k,acc,es,e,hk,ha=>by
  have hw:w64 ((k:Int)+1)=((k+1:Nat):Int):=by rw [zag (by omega) (by omega)]; omega
  have hl:=readS_len (zad L (k:Int))
  rw [celP]
  by_cases c:badC (readS (zad L (k:Int))) (zad rows (k:Int))
  ·rw [if_pos c]
   refine zaf ?_
   unfold zb2
   dsimp only
   rw [if_pos (d_t (by omega)),zaa (by omega),read_eq,zab,zaa (fun q=>by have:=goodC q; omega),zaa (fun q=>by have:=goodC q; omega),zaa (fun q=>by omega),badC_iff,if_pos (d_t c)]
   rfl
  ·rw [if_neg c]
   refine (zaj ?_).trans (cells_loop L rows o2 to ht hr hL m (k+1) (acc++(readS (zad L (k:Int))).1) (es++[((readS (zad L (k:Int))).1.length:Int)]) (by omega) (by omega) (by rw [List.length_append]; omega))
   unfold zb2
   dsimp only
   rw [if_pos (d_t (by omega)),zaa (by omega),read_eq,zab,zaa (fun q=>by have:=goodC q; omega),zaa (fun q=>by have:=goodC q; omega),zaa (fun q=>by omega),badC_iff,if_neg (d_f c),zaa (by rw [List.length_append]; omega),hw]
theorem rcells_loop (L rows:List (List UInt8)) (z:Int) (f:Fault) (x:List UInt8) (h2:2≤L.length) (hr:L.length - 2≤rows.length) (hL:L.length≤100000):∀ (m k:Nat) (acc:List Cell) (es:List Int),L.length - 2 - k=m→k≤L.length - 2→acc.length≤60000*k→es.length≤k→
  R_OpenedFile_L1 (L,z) (f,x,rows) (f,acc,es,(k:Int))=match celP L rows m k acc es with
   | some q=>R_OpenedFile_J2 (L,z) (f,q.1,q.2)
   | none=>some ([],[],⟨5,2⟩)
 | 0,k,acc,es,e,hk,ha,he=>by
  have hw1:w64 ((L.length:Int) - 2)=(L.length:Int) - 2:=zag (by omega) (by omega)
  have hB:R_OpenedFile_B1 (L,z) (f,x,rows) (f,acc,es,(k:Int))=inrO (R_OpenedFile_J2 (L,z) (f,acc,es)):=by
   unfold R_OpenedFile_B1
   dsimp only
   rw [hw1,if_neg (d_f (by omega))]
  unfold R_OpenedFile_L1
  rw [loopO_eq,hB,celP]
  dsimp only
  cases R_OpenedFile_J2 (L,z) (f,acc,es) <;> rfl
 | m+1,k,acc,es,e,hk,ha,he=>by
  have hw1:w64 ((L.length:Int) - 2)=(L.length:Int) - 2:=zag (by omega) (by omega)
  have hw:w64 ((k:Int)+1)=((k+1:Nat):Int):=by rw [zag (by omega) (by omega)]; omega
  have hl:=readS_len (zad L (k:Int))
  rw [celP]
  by_cases c:badC (readS (zad L (k:Int))) (zad rows (k:Int))
  ·rw [if_pos c]
   refine zaf ?_
   unfold R_OpenedFile_B1
   dsimp only
   rw [hw1,if_pos (d_t (by omega)),zaa (by omega),zaa (by omega),cellsOf_eq,zab,zaa (fun q=>by have:=goodC q; omega),zaa (fun q=>by have:=goodC q; omega),zaa (fun q=>by omega),zaa (fun q=>by omega),badC_iff,if_pos (d_t c)]
   rfl
  ·rw [if_neg c]
   refine (zaj ?_).trans (rcells_loop L rows z f x h2 hr hL m (k+1) (acc++(readS (zad L (k:Int))).1) (es++[((readS (zad L (k:Int))).1.length:Int)]) (by omega) (by omega) (by rw [List.length_append]; omega) (by rw [List.length_append,List.length_singleton]; omega))
   unfold R_OpenedFile_B1
   dsimp only
   rw [hw1,if_pos (d_t (by omega)),zaa (by omega),zaa (by omega),cellsOf_eq,zab,zaa (fun q=>by have:=goodC q; omega),zaa (fun q=>by have:=goodC q; omega),zaa (fun q=>by omega),zaa (fun q=>by omega),badC_iff,if_neg (d_f c),zaa (by rw [List.length_append]; omega),zaa (by rw [List.length_append,List.length_singleton]; omega),hw]
noncomputable def endO (flt:List UInt8):Option (List Cell×List Int)→List Cell×List Int×Fault
 | none=>([],[],⟨5,2⟩)
 | some q=>if ¬ (cellF q.1).Code=0∨500<q.1.length then ([],[],⟨5,2⟩) else if filF q.1=flt then (q.1,q.2,⟨0,0⟩) else ([],[],⟨5,3⟩)
noncomputable def fileO (b:List UInt8):List Cell×List Int×Fault:=
 if 60000<b.length then ([],[],⟨8,0⟩)
 else if badO b then ([],[],⟨5,0⟩)
 else match idxO (opn b.length b [] 0).1 with
  | none=>([],[],⟨5,1⟩)
  | some rows=>endO (zad (opn b.length b [] 0).1 (((opn b.length b [] 0).1.length:Int) - 1)) (celP (opn b.length b [] 0).1 rows ((opn b.length b [] 0).1.length - 2) 0 [] [])
theorem idxP_len (L:List (List UInt8)):∀ (m k:Nat) (x:List UInt8) (rows rs:List (List UInt8)),idxP L m k x rows=some rs→rs.length=rows.length+m
 | 0,k,x,rows,rs,h=>by
  rw [idxP] at h
  split at h
  ·cases h; rfl
  ·cases h
 | m+1,k,x,rows,rs,h=>by
  rw [idxP] at h
  split at h
  ·cases h
  ·split at h
   ·cases h
   ·split at h
    ·have:=idxP_len L m _ _ _ _ h
     rw [List.length_append,List.length_singleton] at this; omega
    ·cases h
theorem celP_take (L rows:List (List UInt8)) (n:Nat) (hn:n≤L.length):∀ (m k:Nat) (acc:List Cell) (es:List Int),k+m=n→celP (L.take n) rows m k acc es=celP L rows m k acc es
 | 0,k,acc,es,_=>rfl
 | m+1,k,acc,es,e=>by
  have hg:zad (L.take n) (k:Int)=zad L (k:Int):=by
   have:=lget_ltake L (n:Int) (k:Int) (by omega)
   rwa [ltake_nat] at this
  rw [celP,celP,hg]
  split
  ·rfl
  ·exact celP_take L rows n hn m (k+1) _ _ (by omega)
theorem rfil_small {l:List Cell} (h:(cellF l).Code=0):R_FilterOf l=some (filF l)∧file_filter l=some (filF l):=by
 have hG:=cellF_good h
 have hl:=hG.len
 have hr:∀ c∈l,c.Row.length≤140737488351232:=fun c hc=>by have:=(code_len (hG.code c hc)).1; omega
 exact ⟨rfilter_eq l (by omega) hr,filter_eq l (by omega) hr⟩
theorem ropen_eq (b:List UInt8):R_OpenedFile b=some (fileO b):=by
 unfold R_OpenedFile fileO
 by_cases c:60000<b.length
 ·rw [if_pos (d_t (by omega)),if_pos c]; rfl
 ·have hlen:=opn_len b.length b [] 0
  have hmem:=fun s h=>opn_mem b.length b [] 0 s h
  obtain ⟨L,n,hop⟩:∃ L n,opn b.length b [] 0=(L,n):=⟨_,_,rfl⟩
  have hb:badO b↔(n≠b.length∨L.length<2∨(zad L ((L.length:Int) - 1)).length=0):=by unfold badO; rw [hop]
  rw [if_neg (d_f (by omega)),if_neg c,unframed_eq _ (by omega),zab,hop]
  rw [hop] at hlen hmem
  dsimp only at hlen hmem ⊢
  have hL:L.length≤60000:=by have:=hlen.1; simp at this; omega
  have hw1:w64 ((L.length:Int) - 2)=(L.length:Int) - 2:=zag (by omega) (by omega)
  have hw2:w64 ((L.length:Int) - 2+1)=(L.length:Int) - 1:=by rw [zag (by omega) (by omega)]; omega
  rw [hw1,hw2]
  have hcond:(((!decide ((n:Int)=(b.length:Int)))||(decide ((L.length:Int) - 2<0)))||(decide (((zad L ((L.length:Int) - 1)).length:Int)=0)))=decide (n≠b.length∨L.length<2∨(zad L ((L.length:Int) - 1)).length=0):=by
   rw [Bool.eq_iff_iff]
   simp only [Bool.or_eq_true,decide_eq_true_eq,Bool.not_eq_true',decide_eq_false_iff_not]
   omega
  have ha:(!((!decide ((n:Int)=(b.length:Int)))||(decide ((L.length:Int) - 2<0))))=true→0≤(L.length:Int) - 1∧(L.length:Int) - 1<(L.length:Int):=fun q=>by
   simp only [Bool.not_eq_true',Bool.or_eq_false_iff,decide_eq_false_iff_not,Bool.not_eq_false'] at q
   omega
  rw [hcond,zaa ha,zaa ha]
  by_cases cb:n≠b.length∨L.length<2∨(zad L ((L.length:Int) - 1)).length=0
  ·rw [if_pos (d_t cb),if_pos (hb.2 cb)]; rfl
  ·rw [if_neg (d_f cb),if_neg (fun q=>cb (hb.1 q)),zaa (by omega),zaa (by omega)]
   have hs:∀ s∈L,s.length≤100000:=fun s h=>by
    rcases hmem s h with q | q
    ·cases q
    ·omega
   have h0:=ridx (L:=L) (by omega) (by omega) hs (n:Int) ⟨0,0⟩ (L.length - 2) 0 (zad L ((L.length:Int) - 2)) [] (by omega) (by omega) (by simp) (hs _ (lget_mem L _ (by omega)))
   refine h0.trans ?_
   unfold idxO
   cases hi:idxP L (L.length - 2) 0 (zad L ((L.length:Int) - 2)) [] with
   | none=>rfl
   | some rows=>
    have hrl:=idxP_len L _ _ _ _ _ hi
    dsimp only
    refine (rcells_loop L rows (n:Int) ⟨0,0⟩ [] (by omega) (by simp at hrl; omega) (by omega) (L.length - 2) 0 [] [] (by omega) (by omega) (by simp) (by simp)).trans ?_
    cases celP L rows (L.length - 2) 0 [] [] with
    | none=>rfl
    | some q=>
     dsimp only
     unfold R_OpenedFile_J2 endO
     dsimp only
     rw [rcheck_eq,zab,hw1,hw2]
     by_cases cc:¬ (cellF q.1).Code=0∨500<q.1.length
     ·rw [if_pos (by simp only [Bool.or_eq_true,decide_eq_true_eq,Bool.not_eq_true',decide_eq_false_iff_not]; omega),if_pos cc]; rfl
     ·have hz:(cellF q.1).Code=0:=Decidable.not_not.1 (fun x=>cc (.inl x))
      rw [if_neg (by simp only [Bool.or_eq_true,decide_eq_true_eq,Bool.not_eq_true',decide_eq_false_iff_not]; omega),if_neg cc,(rfil_small hz).1,zab,zaa (by omega),zaa (by omega)]
      dsimp only [lt,R_Same]
      by_cases cf:filF q.1=zad L ((L.length:Int) - 1)
      ·rw [if_neg (by simp [cf]),if_pos cf]
      ·rw [if_pos (by simp [cf]),if_neg cf]; rfl
theorem badO_f {b:List UInt8} (h:¬ badO b):2≤(opn b.length b [] 0).1.length:=by
 apply Decidable.byContradiction
 intro q
 exact h (.inr (.inl (by omega)))
theorem open_any (b:List UInt8):file_Open b=some ((fileO b).1,(fileO b).2.2):=by
 unfold file_Open
 rw [open_all,zab]
 unfold openS fileO
 by_cases c:60000<b.length
 ·rw [if_pos c,if_pos c]
  dsimp only
  rw [if_pos (by simp)]
 ·rw [if_neg c,if_neg c]
  by_cases cb:badO b
  ·rw [if_pos cb,if_pos cb]
   dsimp only
   rw [if_pos (by simp)]
  ·have h2:=badO_f cb
   have hlen:=opn_len b.length b [] 0
   rw [if_neg cb,if_neg cb]
   unfold idxO
   generalize (opn b.length b [] 0).1=L at *
   have hL:L.length≤60000:=by have:=hlen.1; simp at this; omega
   cases hi:idxP L (L.length - 2) 0 (zad L ((L.length:Int) - 2)) [] with
   | none=>
    unfold opI
    dsimp only
    rw [if_pos (by simp)]
   | some rows=>
    have hrl:=idxP_len L _ _ _ _ _ hi
    have hrl:rows.length=L.length - 2:=by simpa using hrl
    have htl:(L.take (L.length - 2)).length=L.length - 2:=by rw [List.length_take]; omega
    unfold opI
    dsimp only
    rw [if_neg (by simp),zaa rfl]
    have hcl:file_opened_cells (L.take (L.length - 2)) rows (zad L ((L.length:Int) - 1)) 0 ((L.take (L.length - 2)).length:Int)=some (cellsO (celP L rows (L.length - 2) 0 [] [])):=by
     rw [htl]
     have:=cells_loop (L.take (L.length - 2)) rows (zad L ((L.length:Int) - 1)) (L.length - 2) (by omega) (by omega) (by omega) (L.length - 2) 0 [] [] (by omega) (by omega) (by simp)
     rw [celP_take L rows (L.length - 2) (by omega) _ _ _ _ (by omega)] at this
     exact this
    rw [hcl,zab]
    cases hq:celP L rows (L.length - 2) 0 [] [] with
    | none=>
     unfold cellsO endO
     dsimp only
     rw [if_pos (by simp)]; rfl
    | some q=>
     unfold cellsO endO
     dsimp only
     by_cases cc:¬ (cellF q.1).Code=0∨500<q.1.length
     ·rw [if_pos (by simp only [Bool.or_eq_true,decide_eq_true_eq,Bool.not_eq_true',decide_eq_false_iff_not]; omega),if_pos cc]; rfl
     ·have hz:(cellF q.1).Code=0:=Decidable.not_not.1 (fun x=>cc (.inl x))
      have hl:=(cellF_good hz).len
      have hN:=filN_bd q.1
      rw [if_neg (by simp only [Bool.or_eq_true,decide_eq_true_eq,Bool.not_eq_true',decide_eq_false_iff_not]; omega),if_neg cc,(rfil_small hz).2,zab,equal_eq _ _ (by unfold filF; rw [bytesOf_len]; omega),zab]
      by_cases cf:filF q.1=zad L ((L.length:Int) - 1)
      ·rw [if_neg (by simp [cf]),if_pos cf]
      ·rw [if_pos (by simp [cf]),if_neg cf]; rfl
def allC (l:List Note):List Cell:=(l.reverse.map (fun x=>x.Cells)).flatten
theorem allC_cons (n:Note) (l:List Note):allC (n::l)=allC l++n.Cells:=by simp [allC]
theorem allC_mem {l:List Note} {c:Cell}:c∈allC l↔∃ n∈l,c∈n.Cells:=by
 simp only [allC,List.mem_flatten,List.mem_map,List.mem_reverse]
 exact ⟨fun ⟨x,⟨n,h1,h2⟩,h3⟩=>⟨n,h1,by rw [h2]; exact h3⟩,fun ⟨n,h1,h2⟩=>⟨n.Cells,⟨n,h1,rfl⟩,h2⟩⟩
theorem allC_len:∀ (l:List Note),(∀ n∈l,n.Cells.length≤20)→(allC l).length≤20*l.length
 | [],_=>by simp [allC]
 | n::l,h=>by
  have h1:=allC_len l fun m hm=>h m (List.mem_cons_of_mem _ hm)
  have h2:=h n (List.mem_cons_self ..)
  rw [allC_cons,List.length_append,List.length_cons]
  omega
theorem put_eq (l:List Cell) (ns:List Note) (hl:l.length≤1000000) (hn:ns.length≤1000000) (hc:(allC ns).length≤100000000):wal_Put l ns=some (firsts (allC ns++l)):=by
 have hf:(ns.reverse.map (fun x=>x.Cells)++[l]).flatten=allC ns++l:=by simp [allC]
 unfold wal_Put
 rw [zaa (by omega),merge_eq _ (by rw [hf,List.length_append]; omega) (by simp; omega),hf]
theorem stab_all:∀ (l:List Note),(∀ n∈l,n.Cells.Pairwise ah)→Stab (l.map (fun x=>x.Cells)).flatten.reverse (allC l)
 | [],_=>fun _=>rfl
 | n::l,h=>by
  have h1:=stab_all l fun m hm=>h m (List.mem_cons_of_mem _ hm)
  rw [List.map_cons,List.flatten_cons,List.reverse_append,allC_cons]
  exact h1.app (stab_rev (h n (List.mem_cons_self ..))).symm
theorem puts_eq (l:List Cell) (ns:List Note) (hs:l.Pairwise ah) (hl:l.length≤1000000) (hn:ns.length≤1000000) (hg:∀ n∈ns,NGood n):R_PutNotes l ns=some (firsts (allC ns++l)):=by
 have hcl:∀ n∈ns,n.Cells.length≤20:=fun n h=>(hg n h).len
 have hal:=allC_len ns hcl
 have e:firsts (allC ns++l)=firsts ((ns.map (fun x=>x.Cells)).flatten.reverse++l):=firsts_congr (Stab.app (stab_all ns fun n h=>(hg n h).cells.srt).symm (Stab.refl l))
 rw [e]
 have key:∀ (R D:List Note) (m x:List Cell),ns=D++R→Firsts m x→x.length≤1000000+20*D.length→R_PutNotes_L1 ns (x,(D.length:Int))=some (firsts ((R.map (fun x=>x.Cells)).flatten.reverse++m)):=by
  intro R
  induction R with
  | nil=>
   intro D m x h hF hx
   refine zaf ?_
   unfold R_PutNotes_B1
   dsimp only
   rw [if_neg (d_f (by rw [h]; simp))]
   show some (Sum.inr x)=some (Sum.inr (firsts m))
   rw [firsts_is hF]
  | cons n R ih=>
   intro D m x h hF hx
   have hnl:n.Cells.length≤20:=hcl n (by rw [h]; simp)
   have hDl:D.length+(R.length+1)=ns.length:=by rw [h]; simp
   have hp:=rputs_eq x n.Cells m hF (by omega)
   have hget:zad ns (D.length:Int)=n:=by rw [h,zbw _ D.length (by simp)]; simp
   have h2:ns=(D++[n])++R:=by rw [h]; simp
   have hfl:(firsts (n.Cells.reverse++m)).length≤1000000+20*(D++[n]).length:=by
    obtain ⟨y,hy,hF2,hyl⟩:=rputs_loop n.Cells n.Cells [] m x rfl hF (by omega) (by omega)
    rw [← firsts_is hF2,List.length_append]
    simp only [List.length_cons,List.length_nil]
    omega
   have:=ih (D++[n]) (n.Cells.reverse++m) _ h2 (firsts_ok _) hfl
   refine (zaj ?_).trans (this.trans (by simp))
   unfold R_PutNotes_B1
   dsimp only
   rw [if_pos (d_t (by omega)),zaa (by omega),hget,hp,zab]
   have:w64 ((D.length:Int)+1)=(((D++[n]).length:Nat):Int):=by rw [zag (by omega) (by omega)]; simp
   rw [this]
 exact key ns [] l l rfl (by have:=firsts_ok l; rw [firsts_self hs] at this; exact this) (by simp; omega)
def ixN (done:Int):List Note→Int→Int
 | [],_=>-1
 | n::l,i=>if done<n.Seq then i else ixN done l (i+1)
def abv (done:Int):List Note→List Note
 | []=>[]
 | n::l=>if done<n.Seq then n::l else abv done l
theorem ixN_abv (done:Int):∀ (l:List Note) (i:Int),(ixN done l i = -1∧abv done l=[])∨∃ j:Nat,j<l.length∧ixN done l i=i+j∧abv done l=l.drop j
 | [],_=>.inl ⟨rfl,rfl⟩
 | n::l,i=>by
  rw [ixN,abv]
  by_cases c:done<n.Seq
  ·rw [if_pos c,if_pos c]; exact .inr ⟨0,by simp,by simp,rfl⟩
  ·rw [if_neg c,if_neg c]
   rcases ixN_abv done l (i+1) with h | ⟨j,h1,h2,h3⟩
   ·exact .inl h
   ·exact .inr ⟨j+1,by simp; omega,by rw [h2]; omega,by rw [h3]; rfl⟩
theorem abv_sub (done:Int):∀ l:List Note,∀ n∈abv done l,n∈l
 | [],n,h=>h
 | m::l,n,h=>by
  rw [abv] at h
  split at h
  ·exact h
  ·exact List.mem_cons_of_mem _ (abv_sub done l n h)
theorem abv_len (done:Int):∀ l:List Note,(abv done l).length≤l.length
 | []=>Nat.le_refl _
 | m::l=>by
  rw [abv]
  split
  ·exact Nat.le_refl _
  ·have:=abv_len done l; simp; omega
theorem indexN_eq (a:List UInt8) (b:Int) (c:List (List UInt8)) (done d e:Int) (l:List Note) (f:List (List Cell)) (hl:l.length≤1000000):slices_IndexFunc_api_Note_api_Note a b c done d e l f=some (ixN done l 0):=by
 have key:∀ (m k:Nat),l.length - k=m→k≤l.length→slices_IndexFunc_api_Note_api_Note_L1 a b c done d e l f (k:Int)=some (ixN done (l.drop k) k):=by
  intro m
  induction m with
  | zero=>
   intro k hm hk
   have:k=l.length:=by omega
   subst this
   refine zaf ?_
   unfold zbm
   rw [if_neg (d_f (by omega)),List.drop_length]; rfl
  | succ m ih=>
   intro k hm hk
   rw [lget_drop l k (by omega),ixN]
   have hB:zbm a b c done d e l f (k:Int)=if done<(zad l (k:Int)).Seq then some (.inr (k:Int)) else some (.inl ((k+1:Nat):Int)):=by
    unfold zbm tablet_tab_fill_1
    rw [if_pos (d_t (by omega)),zaa (by omega),zaa (by omega)]
    dsimp only [lt]
    by_cases q:done<(zad l (k:Int)).Seq
    ·rw [if_pos (d_t q),if_pos q]
    ·rw [if_neg (d_f q),if_neg q]
     have:w64 ((k:Int)+1)=((k+1:Nat):Int):=by rw [zag (by omega) (by omega)]; omega
     rw [this]
   by_cases q:done<(zad l (k:Int)).Seq
   ·rw [if_pos q]
    exact zaf (by rw [hB,if_pos q])
   ·rw [if_neg q]
    exact (zaj (by rw [hB,if_neg q])).trans (ih (k+1) (by omega) (by omega))
 exact key l.length 0 (by omega) (by omega)
noncomputable def memS (done:Int) (l:List Note):List Cell:=firsts (allC (abv done l))
noncomputable def allS (mem:List Cell) (files:List (List Cell)):List Cell:=firsts (mem++files.flatten)
noncomputable def fillF (mem:List Cell) (files:List (List Cell)):Fault:=if 500<mem.length then ⟨9,-2⟩ else if 1000<(allS mem files).length then ⟨9,-1⟩ else ⟨0,0⟩
theorem all_eq (a:List UInt8) (b:Int) (c:List (List UInt8)) (done d e:Int) (l:List Note) (mem:List Cell) (files:List (List Cell)) (hm:mem.length≤1000000000) (hf:files.length≤1000) (hfl:files.flatten.length≤1000000000) :
  tablet_tab_all a b c done d e l mem files=some (allS mem files,mem):=by
 unfold tablet_tab_all tablet_tab_lists
 rw [zaa (by simp; omega),zab]
 dsimp only
 rw [merge_eq _ (by simp only [List.flatten_append,List.flatten_cons,List.flatten_nil,List.append_nil,List.length_append]; omega) (by simp; omega),zab]
 simp [allS]
theorem fill_eq (a:List UInt8) (b:Int) (c:List (List UInt8)) (done d e:Int) (l:List Note) (files:List (List Cell)) (hl:l.length≤1000000) (hg:∀ n∈l,NGood n) (hf:files.length≤1000) (hfl:files.flatten.length≤1000000000) :
  tablet_tab_fill a b c done d e l files=some (fillF (memS done l) files,a,b,c,done,d,l,e,memS done l):=by
 have hal:=allC_len (abv done l) fun n h=>(hg n (abv_sub done l n h)).len
 have hbl:=abv_len done l
 have hml:(memS done l).length≤1000000000:=by
  have:=firsts_len (allC (abv done l))
  unfold memS; omega
 unfold tablet_tab_fill
 rw [indexN_eq a b c done d e l files hl,zab]
 have hmem:(ob (if (decide (0≤ixN done l 0))=true then
   zan (0≤ixN done l 0∧ixN done l 0≤(l.length:Int)) <|
   ob (wal_Put ([]:List Cell) (ldrop l (ixN done l 0))) fun x1=>
   some (x1,(⟨0,0⟩:Fault))
  else
   some (([]:List Cell),(⟨0,0⟩:Fault))) fun (v:List Cell×Fault)=>some v)=some (memS done l,⟨0,0⟩):=by
  rcases ixN_abv done l 0 with ⟨h1,h2⟩ | ⟨j,h1,h2,h3⟩
  ·rw [h1,if_neg (by decide)]
   unfold memS
   rw [h2,zab]
   have:firsts (allC [])=[]:=firsts_self (l:=[]) .nil
   rw [this]
  ·rw [h2,if_pos (d_t (by omega)),zaa (by omega)]
   have e1:ldrop l (0+(j:Int))=l.drop j:=by rw [Int.zero_add,zb8]
   rw [e1,put_eq [] _ (by simp) (by simp; omega) (by rw [← h3]; omega),zab,zab,List.append_nil]
   unfold memS
   rw [h3]
 have hmem':(if (decide (0≤ixN done l 0))=true then
   zan (0≤ixN done l 0∧ixN done l 0≤(l.length:Int)) <|
   ob (wal_Put ([]:List Cell) (ldrop l (ixN done l 0))) fun x1=>
   some (x1,(⟨0,0⟩:Fault))
  else
   some (([]:List Cell),(⟨0,0⟩:Fault)))=some (memS done l,⟨0,0⟩):=by
  rw [← hmem]
  generalize (if (decide (0≤ixN done l 0))=true then _ else _:Option (List Cell×Fault))=z
  cases z <;> rfl
 rw [hmem',zab]
 dsimp only
 unfold fillF
 by_cases c1:500<(memS done l).length
 ·rw [if_pos (d_t (by omega)),if_pos c1]; rfl
 ·rw [if_neg (d_f (by omega)),if_neg c1,all_eq a b c done d e l _ files hml hf hfl,zab]
  dsimp only
  by_cases c2:1000<(allS (memS done l) files).length
  ·rw [if_pos (d_t (by omega)),if_pos c2]; rfl
  ·rw [if_neg (d_f (by omega)),if_neg c2]
noncomputable def notT (t:Tablet):List Note:=(logd t.Log.Bytes).1
noncomputable def lastT (t:Tablet):Int:=if 0<(notT t).length then (zad (notT t) (((notT t).length:Int) - 1)).Seq else t.Done
noncomputable def filT (t:Tablet):List (List Cell):=t.Files.map fun b=>(fileO b).1
noncomputable def memT (t:Tablet):List Cell:=memS t.Done (notT t)
noncomputable def allT (t:Tablet):List Cell:=allS (memT t) (filT t)
def badT (t:Tablet):Prop:=(logd t.Log.Bytes).2≠t.Log.Bytes.length∨(0<(notT t).length∧(t.Done+1<(zad (notT t) 0).Seq∨(zad (notT t) (((notT t).length:Int) - 1)).Seq<t.Done))
noncomputable def ldF:List (List UInt8)→Int→Fault
 | [],_=>⟨0,0⟩
 | b::l,i=>if (fileO b).2.2.Code=0 then ldF l (i+1) else ⟨(fileO b).2.2.Code,i⟩
open Classical in
noncomputable def headT (t:Tablet):Fault:=
 if t.Done<0∨1000000000<t.Done∨t.Since<0∨1000000000<t.Since then ⟨3,0⟩
 else if 10<t.Files.length then ⟨2,-1⟩
 else if ¬ (dF t.Log).Code=0 then ⟨(dF t.Log).Code,-2⟩
 else if badT t then ⟨11,-2⟩
 else ldF t.Files 0
noncomputable def loadS (t:Tablet):Fault⊕(List UInt8×Int×List (List UInt8)×Int×Int×List Note×Int×List Cell×List (List Cell)×Fault):=
 if ¬ (headT t).Code=0 then .inl (headT t) else .inr (t.Log.Bytes,t.Log.Kept,t.Files,t.Done,t.Since,notT t,lastT t,memT t,filT t,fillF (memT t) (filT t))
theorem fileO_good {b:List UInt8} (h:(fileO b).2.2.Code=0):Good (fileO b).1∧(fileO b).1.length≤500:=by
 unfold fileO at h ⊢
 split at h
 ·cases h
 ·split at h
  ·cases h
  ·rename_i c1 c2
   rw [if_neg c1,if_neg c2]
   split at h
   ·cases h
   ·rename_i rows e
    generalize celP _ _ _ _ _ _=z at h ⊢
    cases z with
    | none=>cases h
    | some q=>
     simp only [endO] at h ⊢
     split at h
     ·cases h
     ·rename_i c3
      rw [if_neg c3]
      split at h
      ·rename_i c4
       rw [if_pos c4]
       have c5:(cellF q.1).Code=0∧¬ 500<q.1.length:=⟨Classical.byContradiction fun w=>c3 (.inl w),fun w=>c3 (.inr w)⟩
       exact ⟨cellF_good c5.1,Nat.le_of_not_lt c5.2⟩
      ·cases h
theorem fileO_len (b:List UInt8):(fileO b).1.length≤500:=by
 by_cases h:(fileO b).2.2.Code=0
 ·exact (fileO_good h).2
 ·unfold fileO at h ⊢
  split
  ·simp
  ·split
   ·simp
   ·split
    ·simp
    ·rename_i c1 c2 _ rows e
     rw [if_neg c1,if_neg c2,e] at h
     dsimp only at h
     generalize celP _ _ _ _ _ _=z at h ⊢
     cases z with
     | none=>simp [endO]
     | some q=>
      simp only [endO] at h ⊢
      split
      ·simp
      ·rename_i c3
       rw [if_neg c3] at h
       split
       ·rename_i c4
        rw [if_pos c4] at h
        exact absurd rfl h
       ·simp
theorem fil_flat:∀ (l:List (List UInt8)),(l.map fun b=>(fileO b).1).flatten.length≤500*l.length
 | []=>by simp
 | b::l=>by
  have h1:=fil_flat l
  have h2:=fileO_len b
  rw [List.map_cons,List.flatten_cons,List.length_append,List.length_cons]
  omega
theorem load_loop (x4:List Note×Int) (v:Tablet×Fault×List UInt8×Int×List (List UInt8)×Int×Int×Int) (L:List (List UInt8)) (z:Fault) (hL:L.length≤10) (hn:x4.1.length≤1000000) (hg:∀ n∈x4.1,NGood n):∀ (m k:Nat),L.length - k=m→k≤L.length→ldF L 0=ldF (L.drop k) k→
  tablet_load_L1 x4 v (z,(L.take k).map (fun b=>(fileO b).1),L,(L.length:Int),(k:Int)) =
   some (if ¬ (ldF L 0).Code=0 then .inl (ldF L 0) else .inr (v.2.2.1,v.2.2.2.1,v.2.2.2.2.1,v.2.2.2.2.2.1,v.2.2.2.2.2.2.1,x4.1,v.2.2.2.2.2.2.2,memS v.2.2.2.2.2.1 x4.1,L.map (fun b=>(fileO b).1),fillF (memS v.2.2.2.2.2.1 x4.1) (L.map fun b=>(fileO b).1))):=by
 intro m
 induction m with
 | zero=>
  intro k e hk h0
  have hkl:k=L.length:=by omega
  subst hkl
  rw [List.drop_length] at h0
  have hz:ldF L 0=⟨0,0⟩:=h0
  have hfl:=fil_flat L
  refine zaf ?_
  unfold tablet_load_B1 tablet_load_J1
  dsimp only
  rw [if_neg (d_f (by omega)),List.take_length,fill_eq _ _ _ _ _ _ _ _ hn hg (by simp; omega) (by omega),zab,hz,if_neg (by simp)]; rfl
 | succ m ih=>
  intro k e hk h0
  have hkl:k<L.length:=by omega
  have hw:w64 ((k:Int)+1)=((k+1:Nat):Int):=by rw [zag (by omega) (by omega)]; omega
  rw [lget_drop L k hkl,ldF] at h0
  have hop:=open_any (zad L (k:Int))
  by_cases c:(fileO (zad L (k:Int))).2.2.Code=0
  ·rw [if_pos c] at h0
   refine (zaj ?_).trans (ih (k+1) (by omega) (by omega) h0)
   unfold tablet_load_B1
   dsimp only
   rw [if_pos (d_t (by omega)),zaa (by omega),hop,zab]
   dsimp only
   rw [if_neg (n_f c),zaa (by simp; omega),hw,lget_take L k hkl,List.map_append]; rfl
  ·rw [if_neg c] at h0
   refine zaf ?_
   unfold tablet_load_B1
   dsimp only
   rw [if_pos (d_t (by omega)),zaa (by omega),hop,zab]
   dsimp only
   rw [if_pos (n_t c),h0,if_pos c]; rfl
theorem ldF_good:∀ (l:List (List UInt8)) (i:Int),(ldF l i).Code=0→ldF l i=⟨0,0⟩∧∀ b∈l,Good (fileO b).1
 | [],_,_=>⟨rfl,fun b h=>by cases h⟩
 | b::l,i,h=>by
  rw [ldF] at h ⊢
  by_cases c:(fileO b).2.2.Code=0
  ·rw [if_pos c] at h ⊢
   obtain ⟨h1,h2⟩:=ldF_good l (i+1) h
   exact ⟨h1,fun x hx=>(List.mem_cons.1 hx).elim (fun e=>by rw [e]; exact (fileO_good c).1) (h2 x)⟩
  ·rw [if_neg c] at h; exact absurd h c
theorem load_eq (t:Tablet):tablet_load t=some (loadS t):=by
 unfold tablet_load loadS headT
 by_cases c1:t.Done<0∨1000000000<t.Done∨t.Since<0∨1000000000<t.Since
 ·rw [if_pos (by simp; omega),if_pos c1,if_pos (by simp)]; rfl
 ·rw [if_neg (by simp; omega),if_neg c1]
  by_cases c2:10<t.Files.length
  ·rw [if_pos (d_t (by omega)),if_pos c2,if_pos (by simp)]; rfl
  ·rw [if_neg (d_f (by omega)),if_neg c2,dcheck_eq]
   dsimp only [lt]
   by_cases c3:(dF t.Log).Code=0
   ·have hd:=dF_good.1 c3
    have hlen:=hd.len
    obtain ⟨l1,l2,l3⟩:=logd_le t.Log.Bytes
    have hwn:w64 (((notT t).length:Int) - 1)=((notT t).length:Int) - 1:=zag (by omega) (by unfold notT; omega)
    have hwd:w64 (t.Done+1)=t.Done+1:=zag (by omega) (by omega)
    rw [if_neg (n_f c3),if_neg (not_not_intro c3),wnotes_eq t.Log hlen,zab]
    dsimp only
    show zan _ _=_
    have e1:(logd t.Log.Bytes).1=notT t:=rfl
    rw [e1] at l2 l3 ⊢
    rw [hwn,hwd]
    rw [zaa (fun h _=>⟨by omega,of_decide_eq_true h⟩),zaa (fun h _=>⟨by omega,of_decide_eq_true h⟩),zaa (fun _ h _=>by have:=of_decide_eq_true h; omega),zaa (fun _ h _=>by have:=of_decide_eq_true h; omega)]
    by_cases c4:badT t
    ·have hc:((!decide ((((logd t.Log.Bytes).2:Nat):Int)=(t.Log.Bytes.length:Int)))||((decide (0<((notT t).length:Int)))&&((decide (t.Done+1<(zad (notT t) 0).Seq))||(decide ((zad (notT t) (((notT t).length:Int) - 1)).Seq<t.Done)))))=true:=by
      unfold badT at c4
      simp only [Bool.or_eq_true,Bool.and_eq_true,decide_eq_true_eq,Bool.not_eq_true',decide_eq_false_iff_not]
      rcases c4 with h | ⟨h1,h2⟩
      ·exact .inl (by omega)
      ·exact .inr ⟨by omega,h2⟩
     rw [if_pos hc,if_pos c4,if_pos (by simp)]; rfl
    ·have hc:¬ ((!decide ((((logd t.Log.Bytes).2:Nat):Int)=(t.Log.Bytes.length:Int)))||((decide (0<((notT t).length:Int)))&&((decide (t.Done+1<(zad (notT t) 0).Seq))||(decide ((zad (notT t) (((notT t).length:Int) - 1)).Seq<t.Done)))))=true:=by
      intro h
      simp only [Bool.or_eq_true,Bool.and_eq_true,decide_eq_true_eq,Bool.not_eq_true',decide_eq_false_iff_not] at h
      refine c4 ?_
      unfold badT
      rcases h with h | ⟨h1,h2⟩
      ·exact .inl (by omega)
      ·exact .inr ⟨by omega,h2⟩
     rw [if_neg hc,if_neg c4]
     have hv:(if (decide (0<((notT t).length:Int)))=true then
       zan (0≤((notT t).length:Int) - 1∧((notT t).length:Int) - 1<((notT t).length:Int)) <|
       zan (0≤((notT t).length:Int) - 1∧((notT t).length:Int) - 1<((notT t).length:Int)) <|
       some (t,(⟨0,0⟩:Fault),t.Log.Bytes,t.Log.Kept,t.Files,t.Done,t.Since,(zad (notT t) (((notT t).length:Int) - 1)).Seq)
      else
       some (t,(⟨0,0⟩:Fault),t.Log.Bytes,t.Log.Kept,t.Files,t.Done,t.Since,t.Done))=some (t,(⟨0,0⟩:Fault),t.Log.Bytes,t.Log.Kept,t.Files,t.Done,t.Since,lastT t):=by
      unfold lastT
      by_cases q:0<(notT t).length
      ·rw [if_pos (d_t (by omega)),zaa (by omega),zaa (by omega),if_pos q]
      ·rw [if_neg (d_f (by omega)),if_neg q]
     rw [hv,zab]
     dsimp only
     exact load_loop (notT t,(((logd t.Log.Bytes).2:Nat):Int)) (t,⟨0,0⟩,t.Log.Bytes,t.Log.Kept,t.Files,t.Done,t.Since,lastT t) t.Files ⟨0,0⟩ (by omega) (by show (notT t).length≤1000000; omega) l3 t.Files.length 0 (by omega) (by omega) rfl
   ·rw [if_pos (n_t c3),if_pos c3,if_pos c3]; rfl
theorem own_eq (t:Tablet) (hd:t.Log.Bytes.length≤1000000) (hf:t.Files.length≤1000) (hb:∀ b∈t.Files,b.length≤1000000):tablet_own t=some (t.Log.Bytes,t.Log.Kept,t.Files,t.Done,t.Since):=by
 unfold tablet_own disk_Copy
 rw [clone_eq _ hd,zab,zab,zaa (by omega)]
 have key:∀ (m k:Nat) (z:Tablet),t.Files.length - k=m→k≤t.Files.length→tablet_own_L1 (t.Log.Bytes,t.Log.Kept) (t.Files,t.Done,t.Since,z,t.Files.take k,t.Files,(t.Files.length:Int),(k:Int))=some (t.Log.Bytes,t.Log.Kept,t.Files,t.Done,t.Since):=by
  intro m
  induction m with
  | zero=>
   intro k z e hk
   have:k=t.Files.length:=by omega
   subst this
   refine zaf ?_
   unfold tablet_own_B1 tablet_own_J1
   dsimp only
   rw [if_neg (d_f (by omega)),List.take_length]; rfl
  | succ m ih=>
   intro k z e hk
   have hkl:k<t.Files.length:=by omega
   have hw:w64 ((k:Int)+1)=((k+1:Nat):Int):=by rw [zag (by omega) (by omega)]; omega
   refine (zaj ?_).trans (ih (k+1) z (by omega) (by omega))
   unfold tablet_own_B1
   dsimp only
   rw [if_pos (d_t (by omega)),zaa (by omega),clone_eq _ (hb _ (lget_mem t.Files (k:Int) (by omega))),zab,zaa (by simp; omega),hw,lget_take t.Files k hkl]
 exact key t.Files.length 0 _ (by omega) (by omega)
noncomputable def tabF (t:Tablet):Fault:=if ¬ (headT t).Code=0 then headT t else fillF (memT t) (filT t)
structure TG (t:Tablet):Prop where
 f:tabF t=⟨0,0⟩
 head:headT t=⟨0,0⟩
 d0:0≤t.Done
 d1:t.Done≤1000000000
 s0:0≤t.Since
 s1:t.Since≤1000000000
 few:t.Files.length≤10
 log:DGood t.Log
 fit:¬ badT t
 fil:∀ b∈t.Files,Good (fileO b).1∧b.length≤60000
 mem:(memT t).length≤500
 all:(allT t).length≤1000
theorem ldF_small:∀ (l:List (List UInt8)) (i:Int),(ldF l i).Code=0→∀ b∈l,b.length≤60000
 | [],_,_,b,h=>by cases h
 | b::l,i,h,x,hx=>by
  rw [ldF] at h
  by_cases c:(fileO b).2.2.Code=0
  ·rw [if_pos c] at h
   rcases List.mem_cons.1 hx with e | e
   ·rw [e]
    apply Nat.le_of_not_lt
    intro q
    unfold fileO at c
    rw [if_pos q] at c; cases c
   ·exact ldF_small l (i+1) h x e
  ·rw [if_neg c] at h; exact absurd h c
theorem tabF_good {t:Tablet} (h:(tabF t).Code=0):TG t:=by
 have hh:(headT t).Code=0:=by
  unfold tabF at h
  by_cases c:(headT t).Code=0
  ·exact c
  ·rw [if_pos c] at h; exact absurd h c
 have hf:(fillF (memT t) (filT t)).Code=0:=by
  unfold tabF at h
  rw [if_neg (not_not_intro hh)] at h; exact h
 have hm:¬ 500<(memT t).length:=by
  intro q
  unfold fillF at hf
  rw [if_pos q] at hf; cases hf
 have ha:¬ 1000<(allS (memT t) (filT t)).length:=by
  intro q
  unfold fillF at hf
  rw [if_neg hm,if_pos q] at hf; cases hf
 have hfz:fillF (memT t) (filT t)=⟨0,0⟩:=by unfold fillF; rw [if_neg hm,if_neg ha]
 unfold headT at hh
 by_cases c1:t.Done<0∨1000000000<t.Done∨t.Since<0∨1000000000<t.Since
 ·rw [if_pos c1] at hh; cases hh
 ·rw [if_neg c1] at hh
  by_cases c2:10<t.Files.length
  ·rw [if_pos c2] at hh; cases hh
  ·rw [if_neg c2] at hh
   by_cases c3:(dF t.Log).Code=0
   ·rw [if_neg (not_not_intro c3)] at hh
    by_cases c4:badT t
    ·rw [if_pos c4] at hh; cases hh
    ·rw [if_neg c4] at hh
     obtain ⟨hz,hg⟩:=ldF_good t.Files 0 hh
     have hs:=ldF_small t.Files 0 hh
     have hd:headT t=⟨0,0⟩:=by unfold headT; rw [if_neg c1,if_neg c2,if_neg (not_not_intro c3),if_neg c4,hz]
     exact ⟨by unfold tabF; rw [hd,if_neg (by simp),hfz],hd,by omega,by omega,by omega,by omega,by omega,dF_good.1 c3,c4,fun b hb=>⟨hg b hb,hs b hb⟩,by omega,Nat.le_of_not_lt ha⟩
   ·rw [if_pos c3] at hh; exact absurd hh c3
theorem fill1_eq (a:List UInt8) (m0:List Cell) (b:Int) (c:List (List UInt8)) (done d e:Int) (l:List Note) (files:List (List Cell)) (hl:l.length≤1000000) (hg:∀ n∈l,NGood n) (hf:files.length≤1000) (hfl:files.flatten.length≤1000000000) :
  tablet_tab_fill_v1 b c done d e a l m0 files=some (fillF (memS done l) files,b,c,done,d,l,e,memS done l):=by
 have hal:=allC_len (abv done l) fun n h=>(hg n (abv_sub done l n h)).len
 have hbl:=abv_len done l
 have hml:(memS done l).length≤1000000000:=by
  have:=firsts_len (allC (abv done l))
  unfold memS; omega
 unfold tablet_tab_fill_v1
 rw [show zcf b c done d e l a m0 files=some (ixN done l 0) from indexN_eq a b c done d e l files hl,zab]
 have hmem:(ob (if (decide (0≤ixN done l 0))=true then
   zan (0≤ixN done l 0∧ixN done l 0≤(l.length:Int)) <|
   ob (wal_Put ([]:List Cell) (ldrop l (ixN done l 0))) fun x1=>
   some (x1,(⟨0,0⟩:Fault))
  else
   some (([]:List Cell),(⟨0,0⟩:Fault))) fun (v:List Cell×Fault)=>some v)=some (memS done l,⟨0,0⟩):=by
  rcases ixN_abv done l 0 with ⟨h1,h2⟩ | ⟨j,h1,h2,h3⟩
  ·rw [h1,if_neg (by decide)]
   unfold memS
   rw [h2,zab]
   have:firsts (allC [])=[]:=firsts_self (l:=[]) .nil
   rw [this]
  ·rw [h2,if_pos (d_t (by omega)),zaa (by omega)]
   have e1:ldrop l (0+(j:Int))=l.drop j:=by rw [Int.zero_add,zb8]
   rw [e1,put_eq [] _ (by simp) (by simp; omega) (by rw [← h3]; omega),zab,zab,List.append_nil]
   unfold memS
   rw [h3]
 have hmem':(if (decide (0≤ixN done l 0))=true then
   zan (0≤ixN done l 0∧ixN done l 0≤(l.length:Int)) <|
   ob (wal_Put ([]:List Cell) (ldrop l (ixN done l 0))) fun x1=>
   some (x1,(⟨0,0⟩:Fault))
  else
   some (([]:List Cell),(⟨0,0⟩:Fault)))=some (memS done l,⟨0,0⟩):=by
  rw [← hmem]
  generalize (if (decide (0≤ixN done l 0))=true then _ else _:Option (List Cell×Fault))=z
  cases z <;> rfl
 rw [hmem',zab]
 dsimp only
 unfold fillF
 by_cases c1:500<(memS done l).length
 ·rw [if_pos (d_t (by omega)),if_pos c1]; rfl
 ·rw [if_neg (d_f (by omega)),if_neg c1,show tablet_tab_all_v1 b c done d e a l (memS done l) files=some (allS (memS done l) files,memS done l) from all_eq a b c done d e l _ files hml hf hfl,zab]
  dsimp only
  by_cases c2:1000<(allS (memS done l) files).length
  ·rw [if_pos (d_t (by omega)),if_pos c2]; rfl
  ·rw [if_neg (d_f (by omega)),if_neg c2]
theorem lastT_bd {t:Tablet} (h:TG t):0≤lastT t∧lastT t≤1000000000:=by
 obtain ⟨_,_,l3⟩:=logd_le t.Log.Bytes
 unfold lastT
 by_cases c:0<(notT t).length
 ·rw [if_pos c]
  have:=l3 _ (lget_mem (notT t) (((notT t).length:Int) - 1) (by omega))
  have h1:=this.lo
  have h2:=this.hi
  omega
 ·rw [if_neg c]
  have:=h.d0
  have:=h.d1
  omega
noncomputable def putN (t:Tablet) (l:List Cell):Note:=⟨lastT t+1,l⟩
def erl (since:Int):List Cell→Int→Fault
 | [],_=>⟨0,0⟩
 | c::l,i=>if c.Time<since then ⟨12,i⟩ else erl since l (i+1)
noncomputable def putF (t:Tablet) (l:List Cell):Fault:=
 if ¬ (noteF (putN t l)).Code=0 then noteF (putN t l)
 else if ¬ (erl t.Since l 0).Code=0 then erl t.Since l 0
 else if 60000<t.Log.Bytes.length+(frame (encN (putN t l))).length then ⟨9,0⟩
 else fillF (memS t.Done (notT t++[putN t l])) (filT t)
def T0:Tablet:=⟨⟨[],0⟩,[],0,0⟩
noncomputable def putS (t:Tablet) (l:List Cell):Tablet×Int×Fault:=
 if ¬ (tabF t).Code=0 then (T0,0,tabF t)
 else if ¬ (putF t l).Code=0 then (T0,0,putF t l)
 else (⟨⟨t.Log.Bytes++frame (encN (putN t l)),t.Log.Kept⟩,t.Files,t.Done,t.Since⟩,lastT t+1,⟨0,0⟩)
theorem encN_len {n:Note} (h:NGood n):(encN n).length≤7000:=by
 have h1:=h.lo
 have h2:=h.hi
 have h3:=h.len
 have h5:=num_len5 (n:=n.Seq.toNat) (by omega)
 have h6:=encC_len n.Cells h.cells.code
 unfold encN
 rw [List.length_append]; omega
theorem wframe_eq (n:Note) (h:NGood n):wal_Frame_v1 n=some (frame (encN n)):=by
 have hl:=encN_len h
 unfold wal_Frame_v1
 rw [wbytes_eq n h,zab,addFrameW_eq _ (by omega),zab]
theorem tput_loop (t:Tablet) (l:List Cell) (h:TG t) (hn:NGood (putN t l)):∀ (m k:Nat),l.length - k=m→k≤l.length→erl t.Since l 0=erl t.Since (l.drop k) k→
  tablet_Put_1_L1 t.Log.Bytes t.Log.Kept t.Files t.Done t.Since (lastT t) l 0 (notT t) (memT t) (filT t) (t,⟨0,0⟩,putN t l,(k:Int)) =
   some (if ¬ (erl t.Since l 0).Code=0 then (erl t.Since l 0,t.Log.Bytes,t.Log.Kept,t.Files,t.Done,t.Since,notT t,lastT t,memT t,t,0)
    else if 60000<t.Log.Bytes.length+(frame (encN (putN t l))).length then (⟨9,0⟩,t.Log.Bytes,t.Log.Kept,t.Files,t.Done,t.Since,notT t,lastT t,memT t,t,0)
    else (fillF (memS t.Done (notT t++[putN t l])) (filT t),t.Log.Bytes++frame (encN (putN t l)),t.Log.Kept,t.Files,t.Done,t.Since,notT t++[putN t l],lastT t,memS t.Done (notT t++[putN t l]),t,lastT t+1)):=by
 obtain ⟨l1,l2,l3⟩:=logd_le t.Log.Bytes
 have hll:=h.log.len
 have hfr:=encN_len hn
 have hflat:=fil_flat t.Files
 have hfew:=h.few
 intro m
 induction m with
 | zero=>
  intro k e hk h0
  have hkl:k=l.length:=by omega
  subst hkl
  rw [List.drop_length] at h0
  have hz:erl t.Since l 0=⟨0,0⟩:=h0
  refine zaf ?_
  unfold tablet_Put_1_B1 tablet_Put_1_J1
  dsimp only
  rw [if_neg (d_f (by omega)),wframe_eq _ hn,zab,append_eq h.log _ (by rw [frame_len]; omega),zab]
  by_cases c:60000<t.Log.Bytes.length+(frame (encN (putN t l))).length
  ·rw [if_pos c]
   dsimp only
   rw [if_pos (by decide),hz,if_neg (by simp),if_pos c]; rfl
  ·rw [if_neg c]
   dsimp only
   have hl2:(notT t).length≤60000:=by unfold notT; omega
   rw [if_neg (by simp),zaa (by simp; omega),fill1_eq _ _ _ _ _ _ _ _ _ (by simp; omega) (fun n hm=>by
    rcases List.mem_append.1 hm with q | q
    ·exact l3 n q
    ·rw [List.mem_singleton.1 q]; exact hn) (by unfold filT; simp; omega) (by unfold filT; omega),zab,hz,if_neg (by simp),if_neg c]
   rfl
 | succ m ih=>
  intro k e hk h0
  have hkl:k<l.length:=by omega
  rw [lget_drop l k hkl,erl] at h0
  have hB:tablet_Put_1_B1 t.Log.Bytes t.Log.Kept t.Files t.Done t.Since (lastT t) l 0 (notT t) (memT t) (filT t) (t,⟨0,0⟩,putN t l,(k:Int))=if (zad l (k:Int)).Time<t.Since then some (.inr (⟨12,k⟩,t.Log.Bytes,t.Log.Kept,t.Files,t.Done,t.Since,notT t,lastT t,memT t,t,0)) else some (.inl (t,⟨0,0⟩,putN t l,((k+1:Nat):Int))):=by
   unfold tablet_Put_1_B1
   dsimp only
   rw [if_pos (d_t (by omega)),zaa (by omega)]
   by_cases c:(zad l (k:Int)).Time<t.Since
   ·rw [if_pos (d_t c),if_pos c]; rfl
   ·rw [if_neg (d_f c),if_neg c]
    have:w64 ((k:Int)+1)=((k+1:Nat):Int):=by rw [zag (by have:=hn.len; simp only [putN] at this; omega) (by have:=hn.len; simp only [putN] at this; omega)]; omega
    rw [this]
  by_cases c:(zad l (k:Int)).Time<t.Since
  ·rw [if_pos c] at h0
   refine zaf ?_
   rw [hB,if_pos c,h0,if_pos (by simp)]
  ·rw [if_neg c] at h0
   exact (zaj (by rw [hB,if_neg c])).trans (ih (k+1) (by omega) (by omega) h0)
theorem loadS_bad {t:Tablet} (h:¬ (headT t).Code=0):loadS t = .inl (headT t):=by unfold loadS; rw [if_pos h]
theorem loadS_ok {t:Tablet} (h:(headT t).Code=0):loadS t = .inr (t.Log.Bytes,t.Log.Kept,t.Files,t.Done,t.Since,notT t,lastT t,memT t,filT t,fillF (memT t) (filT t)):=by unfold loadS; rw [if_neg (not_not_intro h)]
theorem put1_eq (t:Tablet) (l:List Cell) (h:TG t):∃ x,tablet_Put_1 t.Log.Bytes t.Log.Kept t.Files t.Done t.Since (lastT t) l t 0 (notT t) (memT t) (filT t)=some x∧x.1=putF t l∧
  ((putF t l).Code=0→x=(⟨0,0⟩,t.Log.Bytes++frame (encN (putN t l)),t.Log.Kept,t.Files,t.Done,t.Since,notT t++[putN t l],lastT t,memS t.Done (notT t++[putN t l]),t,lastT t+1)):=by
 obtain ⟨b1,b2⟩:=lastT_bd h
 have hw:w64 (lastT t+1)=lastT t+1:=zag (by omega) (by omega)
 unfold tablet_Put_1
 rw [hw,show (⟨lastT t+1,l⟩:Note)=putN t l from rfl,wcheck_eq,zab]
 by_cases c:(noteF (putN t l)).Code=0
 ·have hn:=noteF_good c
  rw [if_neg (n_f c)]
  have:=tput_loop t l h hn l.length 0 (by omega) (by omega) rfl
  refine ⟨_,this,?_,?_⟩
  ·unfold putF
   rw [if_neg (not_not_intro c)]
   by_cases c1:(erl t.Since l 0).Code=0
   ·rw [if_neg (not_not_intro c1),if_neg (not_not_intro c1)]
    by_cases c2:60000<t.Log.Bytes.length+(frame (encN (putN t l))).length
    ·rw [if_pos c2,if_pos c2]
    ·rw [if_neg c2,if_neg c2]
   ·rw [if_pos c1,if_pos c1]
  ·intro hz
   unfold putF at hz
   rw [if_neg (not_not_intro c)] at hz
   by_cases c1:(erl t.Since l 0).Code=0
   ·rw [if_neg (not_not_intro c1)] at hz ⊢
    by_cases c2:60000<t.Log.Bytes.length+(frame (encN (putN t l))).length
    ·rw [if_pos c2] at hz; cases hz
    ·rw [if_neg c2] at hz ⊢
     have:fillF (memS t.Done (notT t++[putN t l])) (filT t)=⟨0,0⟩:=by
      unfold fillF at hz ⊢
      split at hz
      ·cases hz
      ·split at hz
       ·cases hz
       ·rename_i q1 q2; rw [if_neg q1,if_neg q2]
     rw [this]
   ·rw [if_pos c1] at hz; exact absurd hz c1
 ·rw [if_pos (n_t c)]
  refine ⟨_,rfl,?_,fun hz=>?_⟩
  ·unfold putF; rw [if_pos c]
  ·unfold putF at hz
   rw [if_pos c] at hz; exact absurd hz c
theorem tput_eq (t:Tablet) (l:List Cell):tablet_Put_v1 t l=some (putS t l):=by
 have hp:∀ f:Fault,f.Code=f.Code:=fun _=>rfl
 unfold tablet_Put_v1 tablet_with putS
 rw [load_eq,zab]
 by_cases h1:(headT t).Code=0
 ·rw [loadS_ok h1]
  dsimp only [sm]
  by_cases h2:(fillF (memT t) (filT t)).Code=0
  ·have hz:(tabF t).Code=0:=by unfold tabF; rw [if_neg (not_not_intro h1)]; exact h2
   have hT:=tabF_good hz
   obtain ⟨x,hx,hx1,hx2⟩:=put1_eq t l hT
   rw [if_neg (n_f h2),hx,zab,if_neg (not_not_intro hz)]
   by_cases h3:(putF t l).Code=0
   ·have e:=hx2 h3
    subst e
    rw [if_neg (n_f rfl),own_eq _ (by
     show (t.Log.Bytes++frame (encN (putN t l))).length≤1000000
     have hn:NGood (putN t l):=by
      unfold putF at h3
      by_cases c:(noteF (putN t l)).Code=0
      ·exact noteF_good c
      ·rw [if_pos c] at h3; exact absurd h3 c
     have:=encN_len hn
     have:=hT.log.len
     rw [List.length_append,frame_len]; omega) (by show t.Files.length≤1000; have:=hT.few; omega) (fun b hb=>by have:=(hT.fil b hb).2; omega),zab,zab]
    dsimp only
    rw [if_neg (n_f rfl),if_neg (not_not_intro h3)]
   ·rw [if_pos (n_t (by rw [hx1]; exact h3)),zab]
    dsimp only
    rw [if_pos (n_t (by rw [hx1]; exact h3)),if_pos h3,hx1]; rfl
  ·have hf:tabF t=fillF (memT t) (filT t):=by unfold tabF; rw [if_neg (not_not_intro h1)]
   rw [if_pos (n_t h2),zab]
   dsimp only
   rw [if_pos (n_t h2),hf,if_pos h2]; rfl
 ·have hf:tabF t=headT t:=by unfold tabF; rw [if_pos h1]
  rw [loadS_bad h1]
  dsimp only [sm]
  rw [if_pos (n_t h1),zab]
  dsimp only
  rw [if_pos (n_t h1),hf,if_pos h1]; rfl
theorem readS_back {b:List UInt8} (h:(readS b).2.Code=0):encC (readS b).1=b:=by
 unfold readS at h ⊢
 by_cases c:60000<b.length
 ·rw [if_pos c] at h; cases h
 ·rw [if_neg c] at h ⊢
  cases e:rdAll rdC b.length b [] with
  | inr n=>rw [e] at h; cases h
  | inl l=>
   rw [e] at h
   simp only [rcS] at h ⊢
   by_cases c2:(cellF l).Code=0
   ·rw [if_pos c2]
    obtain ⟨m,e1,e2⟩:=wrAll_rdAll (w:=wrC) (fun b x r h=>(rdC_some h).2) b.length b [] l (by omega) (fun b x r h=>(wrC_len (rdC_some h).1).2) e
    rw [List.nil_append] at e1
    rw [e1,e2]; rfl
   ·rw [if_neg c2] at h; exact absurd h c2
theorem noteS_back {b:List UInt8} (h:(noteS b).2.Code=0):encN (noteS b).1=b:=by
 unfold noteS at h ⊢
 by_cases c:60000<b.length
 ·rw [if_pos c] at h; cases h
 ·rw [if_neg c] at h ⊢
  cases e:rdN b with
  | none=>rw [e] at h; cases h
  | some q=>
   obtain ⟨n,r⟩:=q
   rw [e] at h
   dsimp only at h ⊢
   obtain ⟨e1,e2⟩:=rdN_some e
   by_cases c2:(readS r).2.Code=0
   ·rw [if_pos c2] at h ⊢
    have hb:=readS_back c2
    unfold noteR at h ⊢
    by_cases c3:(noteF ⟨n,(readS r).1⟩).Code=0
    ·rw [if_pos c3]
     unfold encN
     dsimp only
     rw [hb,Int.toNat_natCast,e1]
    ·rw [if_neg c3] at h; exact absurd h c3
   ·rw [if_neg c2] at h; exact absurd h c2
def frm:List Note→List UInt8
 | []=>[]
 | n::l=>frame (encN n)++frm l
theorem frm_app:∀ (a b:List Note),frm (a++b)=frm a++frm b
 | [],b=>rfl
 | n::a,b=>by rw [List.cons_append,frm,frm,frm_app a b,List.append_assoc]
theorem nts_frm:∀ (l:List (List UInt8)) (acc:List Note) (g:Nat),(frm (nts acc g l).1).length+g=(frm acc).length+(nts acc g l).2
 | [],acc,g=>by rw [nts]
 | s::l,acc,g=>by
  rw [nts]
  by_cases c:(noteS s).2.Code=0∧nxt acc (noteS s).1
  ·rw [if_pos c]
   have ih:=nts_frm l (acc++[(noteS s).1]) (g+(s.length+6))
   have hb:=noteS_back c.1
   rw [frm_app,frm,frm,List.append_nil,List.length_append,hb,frame_len] at ih
   omega
  ·rw [if_neg c]
theorem frm_logd (b:List UInt8):(frm (logd b).1).length=(logd b).2:=by
 have:=nts_frm (bodies b) [] 0
 unfold logd
 simp only [frm,List.length_nil] at this
 omega
theorem frm_filter (p:Note→Bool):∀ l:List Note,(frm (l.filter p)).length≤(frm l).length
 | []=>Nat.le_refl _
 | n::l=>by
  have:=frm_filter p l
  rw [List.filter_cons]
  split
  ·rw [frm,frm,List.length_append,List.length_append]; omega
  ·rw [frm,List.length_append]; omega
def sizF (size:Int):Fault:=if size<50∨4000<size then ⟨3,-1⟩ else ⟨0,0⟩
theorem sized_eq (size:Int):tablet_sized size=sizF size:=by
 unfold tablet_sized sizF
 by_cases c:size<50∨4000<size
 ·rw [if_pos (or_t c),if_pos c]; rfl
 ·rw [if_neg (or_f c),if_neg c]
noncomputable def flushF (t:Tablet) (size:Int):Fault:=
 if ¬ (sizF size).Code=0 then sizF size else if lastT t=t.Done then ⟨6,0⟩ else if t.Files.length=10 then ⟨2,-2⟩ else makeF (memT t) size
noncomputable def flushS (t:Tablet) (size:Int):Tablet×Fault:=
 if ¬ (tabF t).Code=0 then (T0,tabF t)
 else if ¬ (flushF t size).Code=0 then (T0,flushF t size)
 else (⟨t.Log,fileB (memT t) size::t.Files,lastT t,t.Since⟩,⟨0,0⟩)
theorem makeF_ok {l:List Cell} {size:Int} (h:(makeF l size).Code=0):makeF l size=⟨0,0⟩∧(fileB l size).length≤60000∧Good l∧l.length≤500:=by
 unfold makeF at h ⊢
 by_cases c1:(cellF l).Code=0
 ·rw [if_neg (not_not_intro c1)] at h ⊢
  by_cases c2:500<l.length
  ·rw [if_pos c2] at h; cases h
  ·rw [if_neg c2] at h ⊢
   by_cases c3:size<50∨4000<size
   ·rw [if_pos c3] at h; cases h
   ·rw [if_neg c3] at h ⊢
    by_cases c4:60000<(fileB l size).length
    ·rw [if_pos c4] at h; cases h
    ·rw [if_neg c4]; exact ⟨rfl,by omega,cellF_good c1,by omega⟩
 ·rw [if_pos c1] at h; exact absurd h c1
theorem flush1_eq (t:Tablet) (size:Int) (h:TG t):∃ x,tablet_Flush_1_v1 t.Log.Bytes t.Log.Kept t.Files t.Done t.Since (lastT t) size t (notT t) (memT t) (filT t)=some x∧x.1=flushF t size∧
  ((flushF t size).Code=0→x=(⟨0,0⟩,t.Log.Bytes,t.Log.Kept,fileB (memT t) size::t.Files,lastT t,t.Since,lastT t,memT t)):=by
 have hfew:=h.few
 unfold tablet_Flush_1_v1 flushF
 rw [sized_eq]
 dsimp only [lt]
 by_cases c:(sizF size).Code=0
 ·rw [if_neg (n_f c),if_neg (not_not_intro c)]
  by_cases c1:lastT t=t.Done
  ·rw [if_pos (d_t c1),if_pos c1]
   exact ⟨_,rfl,rfl,fun h=>by cases h⟩
  ·rw [if_neg (d_f c1),if_neg c1]
   by_cases c2:t.Files.length=10
   ·rw [if_pos (d_t (by omega)),if_pos c2]
    exact ⟨_,rfl,rfl,fun h=>by cases h⟩
   ·rw [if_neg (d_f (by omega)),if_neg c2,make_eq,zab,zaa (by simp; omega)]
    refine ⟨_,rfl,?_,fun hz=>?_⟩
    ·unfold makeS
     by_cases c3:(makeF (memT t) size).Code=0
     ·rw [if_pos c3,(makeF_ok c3).1]
     ·rw [if_neg c3]
    ·unfold makeS
     rw [if_pos hz]; rfl
 ·rw [if_pos (n_t c),if_pos c]
  exact ⟨_,rfl,rfl,fun h=>absurd h c⟩
theorem flush_eq (t:Tablet) (size:Int):tablet_Flush_v1 t size=some (flushS t size):=by
 unfold tablet_Flush_v1 tablet_with_v1 flushS
 rw [load_eq,zab]
 by_cases h1:(headT t).Code=0
 ·rw [loadS_ok h1]
  dsimp only [sm]
  by_cases h2:(fillF (memT t) (filT t)).Code=0
  ·have hz:(tabF t).Code=0:=by unfold tabF; rw [if_neg (not_not_intro h1)]; exact h2
   have hT:=tabF_good hz
   obtain ⟨x,hx,hx1,hx2⟩:=flush1_eq t size hT
   rw [if_neg (n_f h2),hx,zab,if_neg (not_not_intro hz)]
   by_cases h3:(flushF t size).Code=0
   ·have e:=hx2 h3
    subst e
    have hmk:(makeF (memT t) size).Code=0:=by
     unfold flushF at h3
     split at h3
     ·exact absurd h3 (by assumption)
     ·split at h3
      ·cases h3
      ·split at h3
       ·cases h3
       ·exact h3
    rw [if_neg (n_f rfl),own_eq _ (by show t.Log.Bytes.length≤1000000; have:=hT.log.len; omega) (by show (fileB (memT t) size::t.Files).length≤1000; have:=hT.few; simp; omega) (fun b hb=>by
     rcases List.mem_cons.1 hb with q | q
     ·rw [q]; have:=(makeF_ok hmk).2.1; omega
     ·have:=(hT.fil b q).2; omega),zab,zab]
    dsimp only
    rw [if_neg (not_not_intro h3)]
   ·rw [if_pos (n_t (by rw [hx1]; exact h3)),zab,if_pos h3,hx1]; rfl
  ·have hf:tabF t=fillF (memT t) (filT t):=by unfold tabF; rw [if_neg (not_not_intro h1)]
   rw [if_pos (n_t h2),zab,hf,if_pos h2]; rfl
 ·have hf:tabF t=headT t:=by unfold tabF; rw [if_pos h1]
  rw [loadS_bad h1]
  dsimp only [sm]
  rw [if_pos (n_t h1),zab,hf,if_pos h1]; rfl
noncomputable def cutB (t:Tablet):List UInt8:=frm ((notT t).filter fun n=>decide (t.Done<n.Seq))
noncomputable def cutS (t:Tablet):Tablet×Fault:=
 if ¬ (tabF t).Code=0 then (T0,tabF t) else (⟨⟨cutB t,((cutB t).length:Int)⟩,t.Files,t.Done,t.Since⟩,⟨0,0⟩)
theorem wframe2_eq (n:Note) (h:NGood n) (row:List UInt8) (hr:row.length≤1000000000):wal_Frame_v2 n row=some (row++frame (encN n)):=by
 have hl:=encN_len h
 unfold wal_Frame_v2
 rw [wbytes_eq n h,zab,addFrame_eq _ _ (by omega) hr,zab]
theorem frm_take_len (t:Tablet) (h:TG t) (k:Nat) (p:Note→Bool):(frm (((notT t).take k).filter p)).length≤60000:=by
 have h1:=frm_filter p ((notT t).take k)
 have h2:(frm ((notT t).take k)).length≤(frm (notT t)).length:=by
  have:frm (notT t)=frm ((notT t).take k)++frm ((notT t).drop k):=by rw [← frm_app,List.take_append_drop]
  rw [this,List.length_append]; omega
 have h3:=frm_logd t.Log.Bytes
 obtain ⟨l1,_,_⟩:=logd_le t.Log.Bytes
 have:=h.log.len
 unfold notT at h2 h1 ⊢
 omega
theorem cut1_eq (t:Tablet) (h:TG t):tablet_Cut_1 t.Log.Bytes t.Log.Kept t.Files t.Done t.Since (lastT t) t (notT t) (memT t) (filT t)=some (⟨0,0⟩,cutB t,((cutB t).length:Int),t.Files,t.Done,t.Since,lastT t,t):=by
 obtain ⟨l1,l2,l3⟩:=logd_le t.Log.Bytes
 have hlen:=h.log.len
 have hnl:(notT t).length≤60000:=by unfold notT; omega
 have key:∀ (m k:Nat),(notT t).length - k=m→k≤(notT t).length→tablet_Cut_1_L1 t.Files t.Done t.Since (lastT t) (notT t) (t,⟨0,0⟩,frm (((notT t).take k).filter fun n=>decide (t.Done<n.Seq)),(k:Int))=some (⟨0,0⟩,cutB t,((cutB t).length:Int),t.Files,t.Done,t.Since,lastT t,t):=by
  intro m
  induction m with
  | zero=>
   intro k e hk
   have:k=(notT t).length:=by omega
   subst this
   refine zaf ?_
   unfold tablet_Cut_1_B1 tablet_Cut_1_J1
   dsimp only
   rw [if_neg (d_f (by omega)),List.take_length]; rfl
  | succ m ih=>
   intro k e hk
   have hkl:k<(notT t).length:=by omega
   have hw:w64 ((k:Int)+1)=((k+1:Nat):Int):=by rw [zag (by omega) (by omega)]; omega
   have hgn:=l3 _ (lget_mem (notT t) (k:Int) (by omega))
   have hfl:=frm_take_len t h k (fun n=>decide (t.Done<n.Seq))
   refine (zaj ?_).trans (ih (k+1) (by omega) (by omega))
   unfold tablet_Cut_1_B1
   dsimp only
   rw [if_pos (d_t (by omega)),zaa (by omega),zaa (by omega),hw,lget_take (notT t) k hkl,List.filter_append]
   by_cases c:t.Done<(zad (notT t) (k:Int)).Seq
   ·rw [if_pos (d_t c),show (⟨(zad (notT t) (k:Int)).Seq,(zad (notT t) (k:Int)).Cells⟩:Note)=zad (notT t) (k:Int) from rfl,wframe2_eq _ hgn _ (by omega),zab,zab,frm_app]
    have:[zad (notT t) (k:Int)].filter (fun n=>decide (t.Done<n.Seq))=[zad (notT t) (k:Int)]:=by simp [c]
    rw [this]
    simp [frm]
   ·rw [if_neg (d_f c),zab,frm_app]
    have:[zad (notT t) (k:Int)].filter (fun n=>decide (t.Done<n.Seq))=[]:=by simp [c]
    rw [this]
    simp [frm]
 exact key (notT t).length 0 (by omega) (by omega)
theorem cut_eq' (t:Tablet):tablet_Cut_v1 t=some (cutS t):=by
 unfold tablet_Cut_v1 tablet_with_v2 cutS
 rw [load_eq,zab]
 by_cases h1:(headT t).Code=0
 ·rw [loadS_ok h1]
  dsimp only [sm]
  by_cases h2:(fillF (memT t) (filT t)).Code=0
  ·have hz:(tabF t).Code=0:=by unfold tabF; rw [if_neg (not_not_intro h1)]; exact h2
   have hT:=tabF_good hz
   rw [if_neg (n_f h2),cut1_eq t hT,zab,if_neg (not_not_intro hz),if_neg (n_f rfl),own_eq _ (by
    show (cutB t).length≤1000000
    have:=frm_take_len t hT (notT t).length (fun n=>decide (t.Done<n.Seq))
    rw [List.take_length] at this
    unfold cutB; omega) (by show t.Files.length≤1000; have:=hT.few; omega) (fun b hb=>by have:=(hT.fil b hb).2; omega),zab,zab]
  ·have hf:tabF t=fillF (memT t) (filT t):=by unfold tabF; rw [if_neg (not_not_intro h1)]
   rw [if_pos (n_t h2),zab,hf,if_pos h2]; rfl
 ·have hf:tabF t=headT t:=by unfold tabF; rw [if_pos h1]
  rw [loadS_bad h1]
  dsimp only [sm]
  rw [if_pos (n_t h1),zab,hf,if_pos h1]; rfl
structure Gw (l:List Cell):Prop where
 len:l.length≤100000
 srt:l.Pairwise ah
theorem Gw.at {l:List Cell} (h:Gw l) {i j:Nat} (hij:i<j) (hj:j<l.length):ah (zad l (i:Int)) (zad l (j:Int)):=by
 rw [zbw l i (by omega),zbw l j hj]
 exact (List.pairwise_iff_getElem.1 h.srt) i j (by omega) hj hij
def at' (row col:List UInt8) (t:Int) (c:Cell):Bool:=decide (c.Row=row)&&decide (c.Col=col)&&decide (c.Time≤t)
theorem at_iff {row col:List UInt8} {t:Int} {c:Cell}:at' row col t c=true↔c.Row=row∧c.Col=col∧c.Time≤t:=by
 unfold at'; simp [and_assoc]
def fnd (l:List Cell) (row col:List UInt8) (t:Int):Option Cell:=l.find? (at' row col t)
theorem fnd_some {l:List Cell} {row col:List UInt8} {t:Int} {i:Nat} (hi:i<l.length) (h:at' row col t (zad l (i:Int))=true) (hn:∀ j<i,at' row col t (zad l (j:Int))=false):fnd l row col t=some (zad l (i:Int)):=by
 unfold fnd
 rw [List.find?_eq_some_iff_getElem]
 refine ⟨h,i,hi,(zbw l i hi).symm,fun j hj=>?_⟩
 have:=hn j hj
 rw [zbw l j (by omega)] at this
 simp [this]
theorem fnd_none {l:List Cell} {row col:List UInt8} {t:Int} (hn:∀ j<l.length,at' row col t (zad l (j:Int))=false):fnd l row col t=none:=by
 unfold fnd
 rw [List.find?_eq_none]
 intro x hx
 obtain ⟨i,hi,rfl⟩:=List.mem_iff_getElem.1 hx
 have:=hn i hi
 rw [zbw l i hi] at this
 simp [this]
def seenS (l:List Cell) (row col:List UInt8) (t:Int):Cell×Bool:=match fnd l row col t with
 | some c=>if c.Gone=true then (cell0,false) else (c,true)
 | none=>(cell0,false)
theorem seen_J1 (l:List Cell) (z:Cell) (n:Nat) (hn:n<l.length) (hl:l.length≤1000000):R_SeenCell_J1 l (z,(n:Int))=some (if (zad l (n:Int)).Gone=true then (cell0,false) else (zad l (n:Int),true)):=by
 unfold R_SeenCell_J1
 have h0:decide ((n:Int)<0)=false:=decide_eq_false (by omega)
 dsimp only
 rw [zaa (fun _=>by omega),h0]
 by_cases c:(zad l (n:Int)).Gone=true
 ·rw [if_pos (by rw [c]; rfl),if_pos c]; rfl
 ·rw [if_neg (by simpa using c),if_neg c,zaa (by omega)]
theorem seen_loop (l:List Cell) (hg:Gw l) (row col:List UInt8) (t:Int) (z:Cell):∀ (m k:Nat) (best:Int),l.length - k=m→k≤l.length→
  ((best = -1∧∀ j<k,at' row col t (zad l (j:Int))=false)∨(∃ n:Nat,best=(n:Int)∧n<k∧at' row col t (zad l (n:Int))=true∧∀ j<n,at' row col t (zad l (j:Int))=false))→
  R_SeenCell_L1 l row col t (z,best,(k:Int))=some (seenS l row col t)
 | 0,k,best,e,hk,hb=>by
  have hlen:=hg.len
  have:k=l.length:=by omega
  subst this
  refine zaf ?_
  simp only [R_SeenCell_B1]
  rw [if_neg (d_f (by omega))]
  rcases hb with ⟨rfl,h⟩ | ⟨n,rfl,h1,h2,h3⟩
  ·have:R_SeenCell_J1 l (z,-1)=some (cell0,false):=by
    unfold R_SeenCell_J1
    dsimp only
    rw [zaa (fun h=>by simp at h),if_pos (by simp)]; rfl
   rw [this]
   unfold seenS
   rw [fnd_none h]; rfl
  ·rw [seen_J1 l z n h1 (by omega)]
   unfold seenS
   rw [fnd_some h1 h2 h3]; rfl
 | m+1,k,best,e,hk,hb=>by
  have hlen:=hg.len
  have hlt:k<l.length:=by omega
  have hw:w64 ((k:Int)+1)=((k+1:Nat):Int):=by rw [zag (by omega) (by omega)]; omega
  have hbr:best<0∨(0≤best∧best<(l.length:Int)):=by
   rcases hb with ⟨rfl,_⟩ | ⟨n,rfl,h1,_⟩
   ·left; omega
   ·right; omega
  have em1:l.length - (k+1)=m:=by clear hb hbr; omega
  have em2:k+1≤l.length:=hlt
  have step:∀ b',(if ((((decide ((zad l (k:Int)).Row=row))&&(decide ((zad l (k:Int)).Col=col)))&&(decide ((zad l (k:Int)).Time≤t)))&&((decide (best<0))||(decide ((zad l best).Time<(zad l (k:Int)).Time))))=true then some (z,(k:Int)) else some (z,best))=some (z,b')→
    R_SeenCell_B1 l row col t (z,best,(k:Int))=some (.inl (z,b',((k+1:Nat):Int))):=by
   intro b' h
   clear hb
   simp only [R_SeenCell_B1]
   rw [if_pos (d_t (by omega)),zaa (by omega),zaa (fun _=>by omega),zaa (fun _=>by omega),zaa (fun _ _=>by omega),zaa (fun h _=>by simp at h; omega),h,zab,hw]
  have hat:(((decide ((zad l (k:Int)).Row=row))&&(decide ((zad l (k:Int)).Col=col)))&&(decide ((zad l (k:Int)).Time≤t)))=at' row col t (zad l (k:Int)):=rfl
  rw [hat] at step
  cases ha:at' row col t (zad l (k:Int)) with
  | false=>
   have ih:=seen_loop l hg row col t z m (k+1) best em1 em2 (by
    rcases hb with ⟨rfl,h⟩ | ⟨n,rfl,h1,h2,h3⟩
    ·refine .inl ⟨rfl,fun j hj=>?_⟩
     by_cases hjk:j=k
     ·subst hjk; exact ha
     ·exact h j (by omega)
    ·exact .inr ⟨n,rfl,by omega,h2,h3⟩)
   exact (zaj (step best (by rw [ha]; simp))).trans ih
  | true=>
   rcases hb with ⟨rfl,h⟩ | ⟨n,rfl,h1,h2,h3⟩
   ·have ih:=seen_loop l hg row col t z m (k+1) (k:Int) em1 em2 (.inr ⟨k,rfl,by omega,ha,h⟩)
    exact (zaj (step (k:Int) (by rw [ha]; simp))).trans ih
   ·have ih:=seen_loop l hg row col t z m (k+1) (n:Int) em1 em2 (.inr ⟨n,rfl,by omega,h2,h3⟩)
    refine (zaj (step (n:Int) ?_)).trans ih
    have h4:=hg.at h1 hlt
    obtain ⟨a1,a2,a3⟩:=at_iff.1 ha
    obtain ⟨b1,b2,b3⟩:=at_iff.1 h2
    unfold ah at h4
    simp only [a1,a2,b1,b2,bl_irr] at h4
    have h5:¬ (zad l (n:Int)).Time<(zad l (k:Int)).Time:=by simp at h4; omega
    rw [ha,if_neg]
    have h0:decide ((n:Int)<0)=false:=decide_eq_false (by omega)
    rw [h0,decide_eq_false h5]; simp
theorem seen_eq (l:List Cell) (hg:Gw l) (row col:List UInt8) (t:Int):R_SeenCell l row col t=some (seenS l row col t):=
 seen_loop l hg row col t _ l.length 0 (-1) (by omega) (by omega) (.inl ⟨rfl,fun j hj=>by omega⟩)
def pl (a b:Cell):Prop:=a.Row=b.Row∧a.Col=b.Col
theorem pl_between {x y z:Cell} (h1:ah x y) (h2:ah y z) (h:pl x z):pl x y:=by
 unfold ah pl at *
 obtain ⟨hr,hc⟩:=h
 rcases h1 with h1 | ⟨e1,h1⟩
 ·exfalso
  rcases h2 with h2 | ⟨e2,h2⟩
  ·have:=bl_trans h1 h2; rw [hr,bl_irr] at this; cases this
  ·rw [hr,e2,bl_irr] at h1; cases h1
 ·refine ⟨e1,?_⟩
  rcases h1 with h1 | ⟨f1,h1⟩
  ·exfalso
   rcases h2 with h2 | ⟨e2,h2⟩
   ·rw [← e1,hr,bl_irr] at h2; cases h2
   ·rcases h2 with h2 | ⟨f2,h2⟩
    ·have:=bl_trans h1 h2; rw [hc,bl_irr] at this; cases this
    ·rw [hc,f2,bl_irr] at h1; cases h1
  ·exact f1
def inA (a:Ask) (c:Cell):Bool:=!((Op.bytesLess c.Row a.From)||((!decide (a.To=([]:List UInt8)))&&(!Op.bytesLess c.Row a.To)))
theorem inA_row {a:Ask} {c d:Cell} (h:c.Row=d.Row):inA a c=inA a d:=by unfold inA; rw [h]
open Classical in
noncomputable def vis (l:List Cell) (a:Ask) (c:Cell):Bool:=inA a c&&decide (fnd l c.Row c.Col a.Time=some c) && !c.Gone
theorem vis_iff {l:List Cell} {a:Ask} {c:Cell}:vis l a c=true↔inA a c=true∧fnd l c.Row c.Col a.Time=some c∧c.Gone=false:=by
 unfold vis; simp [and_assoc]
theorem fnd_at {l:List Cell} {row col:List UInt8} {t:Int} {c:Cell} (h:fnd l row col t=some c):c∈l∧c.Row=row∧c.Col=col∧c.Time≤t:=
 ⟨List.mem_of_find?_eq_some h,at_iff.1 (by unfold fnd at h; exact List.find?_some h)⟩
theorem take_filter_full {α:Type} (p:α→Bool) (l:List α) (k:Nat) (m:Nat) (h:((l.take k).filter p).length=m):(l.filter p).take m=(l.take k).filter p:=by
 have:l.filter p=(l.take k).filter p++(l.drop k).filter p:=by rw [← List.filter_append,List.take_append_drop]
 rw [this,← h]; simp
theorem Gw.inj {l:List Cell} (hg:Gw l) {i j:Nat} (hi:i<l.length) (hj:j<l.length) (h:zad l (i:Int)=zad l (j:Int)):i=j:=by
 by_cases h1:i<j
 ·have:=hg.at h1 hj; rw [h] at this; exact absurd this (ah_irr _)
 ·by_cases h2:j<i
  ·have:=hg.at h2 hi; rw [h] at this; exact absurd this (ah_irr _)
  ·omega
def candA (a:Ask) (c:Cell):Prop:=inA a c=true∧c.Time≤a.Time
def fst' (l:List Cell) (a:Ask) (k:Nat):Prop:=∀ i<k,candA a (zad l (i:Int))→¬ pl (zad l (i:Int)) (zad l (k:Int))
theorem vis_no {l:List Cell} {a:Ask} {c:Cell} (h:¬ candA a c):vis l a c=false:=by
 cases hv:vis l a c with
 | false=>rfl
 | true=>
  obtain ⟨h1,h2,_⟩:=vis_iff.1 hv
  exact absurd ⟨h1,(fnd_at h2).2.2.2⟩ h
theorem vis_fst {l:List Cell} (hg:Gw l) {a:Ask} {k:Nat} (hk:k<l.length) (hc:candA a (zad l (k:Int))) (hf:fst' l a k):vis l a (zad l (k:Int)) = !(zad l (k:Int)).Gone:=by
 have:fnd l (zad l (k:Int)).Row (zad l (k:Int)).Col a.Time=some (zad l (k:Int)):=by
  refine fnd_some hk (at_iff.2 ⟨rfl,rfl,hc.2⟩) fun j hj=>?_
  cases ha:at' (zad l (k:Int)).Row (zad l (k:Int)).Col a.Time (zad l (j:Int)) with
  | false=>rfl
  | true=>
   obtain ⟨h1,h2,h3⟩:=at_iff.1 ha
   exact absurd ⟨h1,h2⟩ (hf j hj ⟨by rw [inA_row h1]; exact hc.1,h3⟩)
 unfold vis
 rw [hc.1,decide_eq_true this]; simp
theorem vis_later {l:List Cell} (hg:Gw l) {a:Ask} {k:Nat} (hk:k<l.length) {i:Nat} (hi:i<k) (hc:candA a (zad l (i:Int))) (hp:pl (zad l (i:Int)) (zad l (k:Int))):vis l a (zad l (k:Int))=false:=by
 cases hv:vis l a (zad l (k:Int)) with
 | false=>rfl
 | true=>
  exfalso
  obtain ⟨h1,h2,_⟩:=vis_iff.1 hv
  unfold fnd at h2
  rw [List.find?_eq_some_iff_getElem] at h2
  obtain ⟨_,j,hj,hje,hjn⟩:=h2
  have e:zad l (j:Int)=zad l (k:Int):=by rw [zbw l j hj]; exact hje
  have hjk:=hg.inj hj hk e
  subst hjk
  have:=hjn i hi
  rw [← zbw l i (by omega)] at this
  have h3:at' (zad l (j:Int)).Row (zad l (j:Int)).Col a.Time (zad l (i:Int))=true:=at_iff.2 ⟨hp.1,hp.2,hc.2⟩
  rw [h3] at this; cases this
theorem filter_succ {α:Type} [Inhabited α] (p:α→Bool) (l:List α) (k:Nat) (hk:k<l.length):(l.take (k+1)).filter p=(l.take k).filter p++(if p (zad l (k:Int))=true then [zad l (k:Int)] else []):=by
 rw [lget_take l k hk,List.filter_append]
 congr 1
 by_cases h:p (zad l (k:Int))=true <;> simp [h]
def rec' (l:List Cell) (a:Ask) (k:Nat) (row col:List UInt8) (done:Bool):Prop:=
 (done=true→∃ i<k,candA a (zad l (i:Int))∧(zad l (i:Int)).Row=row∧(zad l (i:Int)).Col=col)∧
 (∀ i<k,candA a (zad l (i:Int))→(done=true∧(zad l (i:Int)).Row=row∧(zad l (i:Int)).Col=col)∨∀ j,k≤j→j<l.length→¬ pl (zad l (i:Int)) (zad l (j:Int)))
theorem seenL (l:List Cell) (hg:Gw l) (a:Ask) (hm:0≤a.Many):∀ (m k:Nat) (row col:List UInt8) (done:Bool),l.length - k=m→k≤l.length→(((l.take k).filter (vis l a)).length:Int)≤a.Many→rec' l a k row col done→
  cell_Seen_L1 l (a,(l.take k).filter (vis l a),row,col,done,(k:Int))=some ((l.filter (vis l a)).take a.Many.toNat)
 | 0,k,row,col,done,e,hk,ho,hr=>by
  have:k=l.length:=by omega
  subst this
  refine zaf ?_
  simp only [cell_Seen_B1]
  rw [if_neg (d_f (by omega)),List.take_length]
  rw [List.take_length] at ho
  rw [List.take_of_length_le (by omega)]; rfl
 | m+1,k,row,col,done,e,hk,ho,hr=>by
  have hlt:k<l.length:=by omega
  have hlen:=hg.len
  have hw:w64 ((k:Int)+1)=((k+1:Nat):Int):=by rw [zag (by omega) (by omega)]; omega
  have hfs:=filter_succ (vis l a) l k hlt
  have hcond:((Op.bytesLess ((zad l (k:Int)).Row) a.From)||((!decide (a.To=([]:List UInt8)))&&(!Op.bytesLess ((zad l (k:Int)).Row) a.To))||(decide (a.Time<(zad l (k:Int)).Time))) = !(inA a (zad l (k:Int))&&decide ((zad l (k:Int)).Time≤a.Time)):=by
   unfold inA
   by_cases h:(zad l (k:Int)).Time≤a.Time
   ·have:¬ a.Time<(zad l (k:Int)).Time:=by omega
    simp [h,this]
   ·have:a.Time<(zad l (k:Int)).Time:=by omega
    simp [h,this]
  have head:∀ r,(if (inA a (zad l (k:Int))&&decide ((zad l (k:Int)).Time≤a.Time))=false then some (Sum.inl (a,(l.take k).filter (vis l a),row,col,done,((k+1:Nat):Int)))
    else if ((done&&(decide ((zad l (k:Int)).Row=row)))&&(decide ((zad l (k:Int)).Col=col)))=true then some (Sum.inl (a,(l.take k).filter (vis l a),row,col,done,((k+1:Nat):Int)))
    else if (zad l (k:Int)).Gone=true then some (Sum.inl (a,(l.take k).filter (vis l a),(zad l (k:Int)).Row,(zad l (k:Int)).Col,true,((k+1:Nat):Int)))
    else if (((l.take k).filter (vis l a)).length:Int)=a.Many then some (Sum.inr ((l.take k).filter (vis l a)))
    else some (Sum.inl (a,(l.take k).filter (vis l a)++[zad l (k:Int)],(zad l (k:Int)).Row,(zad l (k:Int)).Col,true,((k+1:Nat):Int))))=some r→
    cell_Seen_B1 l (a,(l.take k).filter (vis l a),row,col,done,(k:Int))=some r:=by
   intro r h
   have hfl:((l.take k).filter (vis l a)).length≤k:=Nat.le_trans (List.length_filter_le _ _) (by rw [List.length_take]; omega)
   simp only [cell_Seen_B1,cell_Seen_J2,cell_eta]
   rw [if_pos (d_t (by omega)),zaa (by omega),hcond,hw]
   cases hb:(inA a (zad l (k:Int))&&decide ((zad l (k:Int)).Time≤a.Time)) with
   | false=>rw [hb] at h; rw [if_pos rfl] at h; rw [if_pos (by rfl)]; exact h
   | true=>
    rw [hb,if_neg (by simp)] at h
    rw [if_neg (by simp)]
    by_cases h1:((done&&(decide ((zad l (k:Int)).Row=row)))&&(decide ((zad l (k:Int)).Col=col)))=true
    ·rw [if_pos h1] at h ⊢; exact h
    ·rw [if_neg h1] at h ⊢
     by_cases h2:(zad l (k:Int)).Gone=true
     ·rw [if_pos h2] at h ⊢; exact h
     ·rw [if_neg h2] at h ⊢
      by_cases h3:(((l.take k).filter (vis l a)).length:Int)=a.Many
      ·rw [if_pos h3] at h; rw [if_pos (d_t h3)]; exact h
      ·rw [if_neg h3] at h; rw [if_neg (d_f h3),zaa (by simp; omega)]; exact h
  by_cases hc:candA a (zad l (k:Int))
  ·have hcb:(inA a (zad l (k:Int))&&decide ((zad l (k:Int)).Time≤a.Time))=true:=by rw [hc.1,decide_eq_true hc.2]; rfl
   by_cases hs:done=true∧(zad l (k:Int)).Row=row∧(zad l (k:Int)).Col=col
   ·
    obtain ⟨i,hi,hci,hir,hic⟩:=hr.1 hs.1
    have hv:=vis_later hg hlt hi hci ⟨hir.trans hs.2.1.symm,hic.trans hs.2.2.symm⟩
    rw [hv] at hfs
    simp only [Bool.false_eq_true,if_false,List.append_nil] at hfs
    have ih:=seenL l hg a hm m (k+1) row col done (by omega) (by omega) (by rw [hfs]; exact ho) ⟨fun hd=>⟨i,by omega,hci,hir,hic⟩,fun j hj hcj=>by
     by_cases hjk:j=k
     ·subst hjk; exact .inl hs
     ·rcases hr.2 j (by omega) hcj with h | h
      ·exact .inl h
      ·exact .inr fun n hn=>h n (by omega)⟩
    rw [hfs] at ih
    refine (zaj (head _ ?_)).trans ih
    rw [hcb,if_neg (by simp),if_pos (by simp [hs.1,hs.2.1,hs.2.2])]
   ·have hf:fst' l a k:=fun i hi hci hp=>by
     rcases hr.2 i hi hci with ⟨hd,h1,h2⟩ | h
     ·exact hs ⟨hd,hp.1.symm.trans h1,hp.2.symm.trans h2⟩
     ·exact h k (Nat.le_refl _) hlt hp
    have hv:=vis_fst hg hlt hc hf
    have hrec:rec' l a (k+1) (zad l (k:Int)).Row (zad l (k:Int)).Col true:=by
     refine ⟨fun _=>⟨k,by omega,hc,rfl,rfl⟩,fun i hi hci=>?_⟩
     by_cases hik:i=k
     ·subst hik; exact .inl ⟨rfl,rfl,rfl⟩
     ·refine .inr fun j hj hjl hp=>?_
      exact hf i (by omega) hci (pl_between (hg.at (by omega) hlt) (hg.at (by omega) hjl) hp)
    have hs':¬ ((done&&(decide ((zad l (k:Int)).Row=row)))&&(decide ((zad l (k:Int)).Col=col)))=true:=by
     simp only [Bool.and_eq_true,decide_eq_true_eq]
     exact fun h=>hs ⟨h.1.1,h.1.2,h.2⟩
    by_cases hgn:(zad l (k:Int)).Gone=true
    ·rw [hv,hgn] at hfs
     simp only [Bool.not_true,Bool.false_eq_true,if_false,List.append_nil] at hfs
     have ih:=seenL l hg a hm m (k+1) _ _ true (by omega) (by omega) (by rw [hfs]; exact ho) hrec
     rw [hfs] at ih
     refine (zaj (head _ ?_)).trans ih
     rw [hcb,if_neg (by simp),if_neg hs',if_pos hgn]
    ·rw [hv] at hfs
     simp only [hgn,Bool.not_false,if_true] at hfs
     by_cases hfull:(((l.take k).filter (vis l a)).length:Int)=a.Many
     ·refine zaf (head _ ?_)
      rw [hcb,if_neg (by simp),if_neg hs',if_neg hgn,if_pos hfull,take_filter_full (vis l a) l k a.Many.toNat (by omega)]
     ·have ih:=seenL l hg a hm m (k+1) _ _ true (by omega) (by omega) (by rw [hfs]; simp; omega) hrec
      rw [hfs] at ih
      refine (zaj (head _ ?_)).trans ih
      rw [hcb,if_neg (by simp),if_neg hs',if_neg hgn,if_neg hfull]
  ·have hcb:(inA a (zad l (k:Int))&&decide ((zad l (k:Int)).Time≤a.Time))=false:=by
    cases h1:inA a (zad l (k:Int)) with
    | false=>rfl
    | true=>simp; exact Int.not_le.1 fun h2=>hc ⟨h1,h2⟩
   have hv:=vis_no (l:=l) hc
   rw [hv] at hfs
   simp only [Bool.false_eq_true,if_false,List.append_nil] at hfs
   have ih:=seenL l hg a hm m (k+1) row col done (by omega) (by omega) (by rw [hfs]; exact ho) ⟨fun hd=>by
     obtain ⟨i,hi,h⟩:=hr.1 hd
     exact ⟨i,by omega,h⟩,fun j hj hcj=>by
     by_cases hjk:j=k
     ·subst hjk; exact absurd hcj hc
     ·rcases hr.2 j (by omega) hcj with h | h
      ·exact .inl h
      ·exact .inr fun n hn=>h n (by omega)⟩
   rw [hfs] at ih
   refine (zaj (head _ ?_)).trans ih
   rw [hcb,if_pos rfl]
theorem seenA_eq (l:List Cell) (hg:Gw l) (a:Ask) (hm:0≤a.Many):cell_Seen l a=some ((l.filter (vis l a)).take a.Many.toNat):=by
 have:=seenL l hg a hm l.length 0 [] [] false (by omega) (by omega) (by simpa using hm) ⟨fun h=>(by cases h),fun i hi=>by omega⟩
 rw [show cell_Seen l a=cell_Seen_L1 l (a,[],[],[],false,0) from rfl]
 simpa using this
theorem scanned_loop (l:List Cell) (hg:Gw l) (a:Ask) (hm:0≤a.Many):∀ (m k:Nat),l.length - k=m→k≤l.length→(((l.take k).filter (vis l a)).length:Int)≤a.Many→
  R_Scanned_v1_L1 l (a,(l.take k).filter (vis l a),(k:Int))=some ((l.filter (vis l a)).take a.Many.toNat)
 | m,k,e,hk,ho=>by
  have hlen:=hg.len
  by_cases cs:k<l.length∧(((l.take k).filter (vis l a)).length:Int)<a.Many
  ·match m,e with
   | 0,e=>omega
   | m+1,e=>
   have hlt:=cs.1
   have hw:w64 ((k:Int)+1)=((k+1:Nat):Int):=by rw [zag (by omega) (by omega)]; omega
   have hfs:=filter_succ (vis l a) l k hlt
   have hfl:((l.take k).filter (vis l a)).length≤k:=Nat.le_trans (List.length_filter_le _ _) (by rw [List.length_take]; omega)
   have hin:((Op.bytesLess ((zad l (k:Int)).Row) a.From)||((!decide (a.To=([]:List UInt8)))&&(!Op.bytesLess ((zad l (k:Int)).Row) a.To))) = !(inA a (zad l (k:Int))):=by
    unfold inA; simp
   have ih:=scanned_loop l hg a hm m (k+1) (by omega) (by omega) (by rw [hfs]; split <;> simp <;> omega)
   rw [hfs] at ih
   refine (zaj ?_).trans ih
   simp only [R_Scanned_v1_B1,cell_eta]
   rw [if_pos (an_t (by omega)),zaa (by omega),hin]
   cases h1:inA a (zad l (k:Int)) with
   | false=>
    have hv:vis l a (zad l (k:Int))=false:=vis_no fun h=>by rw [h.1] at h1; cases h1
    rw [if_pos (by rfl),zab,hv,hw]; simp
   | true=>
    rw [if_neg (by simp),seen_eq l hg,zab]
    have ee:∀ x:Cell,(decide (x.Row=(zad l (k:Int)).Row)&&(decide (x.Col=(zad l (k:Int)).Col)&&(decide (x.Time=(zad l (k:Int)).Time)&&((x.Gone == (zad l (k:Int)).Gone)&&(decide (x.Value=(zad l (k:Int)).Value)&&true)))))=true↔x=zad l (k:Int):=by
     intro x; cases x; cases zad l (k:Int); simp
    by_cases hv:vis l a (zad l (k:Int))=true
    ·obtain ⟨_,v2,v3⟩:=vis_iff.1 hv
     have hs:seenS l (zad l (k:Int)).Row (zad l (k:Int)).Col a.Time=(zad l (k:Int),true):=by unfold seenS; rw [v2]; simp [v3]
     rw [hs,if_pos (by rw [Bool.and_eq_true]; exact ⟨rfl,(ee _).2 rfl⟩),zaa (by simp; omega)]
     simp only [lt,zab,hv,if_true,hw]
    ·rw [if_neg,zab,hw]
     ·simp [hv]
     ·rw [Bool.and_eq_true]
      intro ⟨h2,h3⟩
      have h4:=(ee _).1 h3
      apply hv
      refine vis_iff.2 ⟨h1,?_⟩
      unfold seenS at h2 h4
      cases hf:fnd l (zad l (k:Int)).Row (zad l (k:Int)).Col a.Time with
      | none=>rw [hf] at h2; cases h2
      | some d=>
       rw [hf] at h2 h4
       by_cases hgd:d.Gone=true
       ·simp [hgd] at h2
       ·simp only [if_neg hgd] at h4
        rw [← h4]
        exact ⟨rfl,by simpa using hgd⟩
  ·refine zaf ?_
   simp only [R_Scanned_v1_B1]
   rw [if_neg (an_f (by omega))]
   have:(l.filter (vis l a)).take a.Many.toNat=(l.take k).filter (vis l a):=by
    by_cases hkl:k<l.length
    ·exact take_filter_full (vis l a) l k a.Many.toNat (by omega)
    ·have:l.take k=l:=List.take_of_length_le (by omega)
     rw [this] at ho ⊢
     rw [List.take_of_length_le (by omega)]
   rw [this]; rfl
theorem scanned_eq (l:List Cell) (hg:Gw l) (a:Ask) (hm:0≤a.Many):R_Scanned_v1 l a=some ((l.filter (vis l a)).take a.Many.toNat):=by
 have:=scanned_loop l hg a hm l.length 0 (by omega) (by omega) (by simpa using hm)
 rw [show R_Scanned_v1 l a=R_Scanned_v1_L1 l (a,[],0) from rfl]
 simpa using this
def askF (a:Ask):Fault:=if a.Time<0∨1000000000<a.Time then ⟨3,-1⟩ else if a.Many<0∨1000<a.Many then ⟨3,-2⟩ else ⟨0,0⟩
theorem asked_eq (a:Ask):cell_Asked a=askF a:=by
 unfold cell_Asked askF
 by_cases c1:a.Time<0∨1000000000<a.Time
 ·rw [if_pos (or_t c1),if_pos c1]; rfl
 ·rw [if_neg (or_f c1),if_neg c1]
  by_cases c2:a.Many<0∨1000<a.Many
  ·rw [if_pos (or_t c2),if_pos c2]; rfl
  ·rw [if_neg (or_f c2),if_neg c2]
theorem rasked_eq (a:Ask):R_AskFault a=askF a:=asked_eq a
theorem askF_good {a:Ask} (h:(askF a).Code=0):askF a=⟨0,0⟩∧0≤a.Time∧a.Time≤1000000000∧0≤a.Many∧a.Many≤1000:=by
 unfold askF at h ⊢
 by_cases c1:a.Time<0∨1000000000<a.Time
 ·rw [if_pos c1] at h; cases h
 ·by_cases c2:a.Many<0∨1000<a.Many
  ·rw [if_neg c1,if_pos c2] at h; cases h
  ·rw [if_neg c1,if_neg c2]; exact ⟨rfl,by omega⟩
theorem all_gw {t:Tablet} (h:TG t):Gw (allT t):=⟨by have:=h.all; omega,(firsts_ok _).1⟩
theorem filT_len {t:Tablet} (h:TG t):(filT t).length≤1000∧(filT t).flatten.length≤1000000000:=by
 have h1:=fil_flat t.Files
 have h2:=h.few
 unfold filT
 exact ⟨by simp; omega,by omega⟩
noncomputable def scanS (t:Tablet) (a:Ask):List Cell×Fault:=
 if ¬ (tabF t).Code=0 then ([],tabF t)
 else if ¬ (askF a).Code=0 then ([],askF a)
 else if a.Time<t.Since then ([],⟨12,-1⟩)
 else (((allT t).filter (vis (allT t) a)).take a.Many.toNat,⟨0,0⟩)
theorem scan_eq (t:Tablet) (a:Ask):tablet_Scan_v1 t a=some (scanS t a):=by
 unfold tablet_Scan_v1 scanS
 rw [load_eq,zab]
 by_cases h1:(headT t).Code=0
 ·rw [loadS_ok h1]
  dsimp only [sm]
  by_cases h2:(fillF (memT t) (filT t)).Code=0
  ·have hz:(tabF t).Code=0:=by unfold tabF; rw [if_neg (not_not_intro h1)]; exact h2
   have hT:=tabF_good hz
   rw [if_pos (d_t h2),asked_eq]
   dsimp only [lt]
   rw [zab,if_neg (not_not_intro hz)]
   dsimp only
   by_cases h3:(askF a).Code=0
   ·obtain ⟨_,_,_,hm,_⟩:=askF_good h3
    rw [if_pos (d_t h3),if_neg (not_not_intro h3)]
    unfold tablet_tab_early
    by_cases h4:a.Time<t.Since
    ·rw [if_pos (d_t h4),zab,if_pos h4]; rfl
    ·rw [if_neg (d_f h4),zab,if_neg h4]
     dsimp only
     obtain ⟨f1,f2⟩:=filT_len hT
     rw [if_neg (by simp),all_eq _ _ _ _ _ _ _ _ _ (by have:=hT.mem; omega) f1 f2,zab]
     dsimp only
     rw [show allS (memT t) (filT t)=allT t from rfl,seenA_eq _ (all_gw hT) a hm,zab]
   ·rw [if_neg (d_f h3),zab,if_pos h3]
    dsimp only
    rw [if_pos (n_t h3)]
  ·have hf:tabF t=fillF (memT t) (filT t):=by unfold tabF; rw [if_neg (not_not_intro h1)]
   rw [if_neg (d_f h2),zab]
   dsimp only
   rw [if_neg (d_f h2),zab]
   dsimp only
   rw [if_pos (n_t h2),hf,if_pos h2]
 ·have hf:tabF t=headT t:=by unfold tabF; rw [if_pos h1]
  rw [loadS_bad h1]
  dsimp only [sm]
  rw [if_neg (d_f h1),zab]
  dsimp only
  rw [if_neg (d_f h1),zab]
  dsimp only
  rw [if_pos (n_t h1),hf,if_pos h1]
theorem vastT_run (t:Tablet) (hl:t.Files.length≤140737488351232):∃ b,law_vastTablet t=some b∧(b=false→t.Files.length≤100):=by
 have key:∀ (m k:Nat) (v:Int),t.Files.length - k=m→k≤t.Files.length→∃ b,law_vastTablet_L1 (t,v,(k:Int))=some b∧(b=false→t.Files.length≤100):=by
  intro m
  induction m with
  | zero=>
   intro k v e hk
   refine ⟨(decide (20000<v))||(decide (100<(t.Files.length:Int))),zaf ?_,fun h=>?_⟩
   ·unfold law_vastTablet_B1 law_vastTablet_J1
    dsimp only
    rw [if_neg (d_f (by omega))]; rfl
   ·simp only [Bool.or_eq_false_iff,decide_eq_false_iff_not] at h
    omega
  | succ m ih=>
   intro k v e hk
   obtain ⟨b,h1,h2⟩:=ih (k+1) (w64 (v+((zad t.Files (k:Int)).length:Int))) (by omega) (by omega)
   refine ⟨b,(zaj ?_).trans h1,h2⟩
   unfold law_vastTablet_B1
   dsimp only
   have:w64 ((k:Int)+1)=((k+1:Nat):Int):=by rw [zag (by omega) (by omega)]; omega
   rw [if_pos (d_t (by omega)),zaa (by omega),this]
 exact key t.Files.length 0 _ (by omega) (by omega)
theorem lset_midT {α:Type} (a:List α) (x y:α) (b:List α):lset (a++x::b) (a.length:Int) y=a++y::b:=by
 unfold lset
 rw [Int.toNat_natCast,List.set_append_right _ _ (Nat.le_refl _),Nat.sub_self,List.set_cons_zero]
theorem lget_midT (a:List (List UInt8)) (x:List UInt8) (b:List (List UInt8)):zad (a++x::b) (a.length:Int)=x:=by simp [zad]
theorem sT_i (A B C:List (List UInt8)) (x y:List UInt8):zad (A++x::(B++y::C)) (A.length:Int)=x:=lget_midT _ _ _
theorem sT_j (A B C:List (List UInt8)) (x y:List UInt8) {j:Int} (h:j=((A.length+1+B.length:Nat):Int)):zad (A++x::(B++y::C)) j=y:=by
 have e:A++x::(B++y::C)=(A++x::B)++y::C:=by simp
 have e2:j=((A++x::B).length:Int):=by rw [h,List.length_append,List.length_cons]; omega
 rw [e,e2,lget_midT]
noncomputable def dsP:List UInt8→List (List UInt8)→List (List UInt8)
 | _,[]=>[]
 | y,x::l=>if (x=y) then dsP x l else x::dsP x l
noncomputable def dsD:List (List UInt8)→List (List UInt8)
 | []=>[]
 | x::l=>x::dsP x l
theorem scomp_in (row:List (List UInt8)) (v1:Int) (k0:Nat) (hv:v1=(k0:Int)) (hl:row.length≤500000000000):∀ (l D G:List (List UInt8)) (y:List UInt8) (k2:Nat),1≤k2→D.length+G.length+1=k0+k2→(D++(G++y::l)).length=row.length→
  slices_Compact_string_string_v1_L2 row v1 (D++(G++y::l),(D.length:Int),(k2:Int))=some (.inr (D++dsP y l))
 | [],D,G,y,k2,h1,h2,h3=>by
  have h3':=h3
  simp only [List.length_append,List.length_cons,List.length_nil] at h3'
  refine zaf ?_
  unfold zb3
  dsimp only
  rw [hv,Int.toNat_natCast,if_neg (d_f (by omega))]
  unfold slices_Compact_string_string_v1_J2
  dsimp only
  rw [Int.toNat_natCast,zaa (by rw [h3]; omega)]
  dsimp only [lt]
  obtain ⟨c1,c2⟩:=lclear_take (D++(G++[y])) D.length ((D++(G++[y])).length - D.length) ([]:List UInt8) (by rw [h3]; omega)
  rw [zaa (by omega),zaa c2,c1,List.take_left,dsP,List.append_nil]; rfl
 | z::l,D,G,y,k2,h1,h2,h3=>by
  have h3':=h3
  simp only [List.length_append,List.length_cons] at h3'
  have e1:D++(G++y::z::l)=(D++G)++y::([]++z::l):=by simp
  have g1:zad (D++(G++y::z::l)) ((k0+k2:Nat):Int)=z:=by
   rw [e1]; exact sT_j (D++G) [] l y z (by simp only [List.length_append,List.length_nil]; omega)
  have g2:zad (D++(G++y::z::l)) ((k0+(k2 - 1):Nat):Int)=y:=by
   rw [e1]
   have:=sT_i (D++G) [] l y z
   rw [List.length_append] at this
   exact Eq.trans (congrArg _ (by omega)) this
  have w1:w64 ((k2:Int) - 1)=((k2 - 1:Nat):Int):=by rw [zag (by omega) (by omega)]; omega
  have w2:w64 ((k2:Int)+1)=((k2+1:Nat):Int):=by rw [zag (by omega) (by omega)]; omega
  have hB:zb3 row v1 (D++(G++y::z::l),(D.length:Int),(k2:Int))=some (.inl (if (z=y) then (D++(G++y::z::l),(D.length:Int),((k2+1:Nat):Int)) else (lset (D++(G++y::z::l)) (D.length:Int) z,((D.length+1:Nat):Int),((k2+1:Nat):Int)))):=by
   unfold zb3
   dsimp only
   rw [hv,Int.toNat_natCast,Int.toNat_natCast,w1,Int.toNat_natCast,w2,if_pos (d_t (by omega)),zaa (by omega),zaa (by rw [h3]; omega),zaa (by omega),zaa (by rw [h3]; omega),g1,g2]
   by_cases c:(z=y)
   ·rw [if_neg (n_f c),if_pos c]; rfl
   ·rw [if_pos (n_t c),if_neg c,zaa (by omega),zaa (by rw [h3]; omega),zaa (by rw [h3]; omega),zaa (by rw [h3]; omega)]
    dsimp only [lt]
    rw [zab,zag (by omega) (by omega)]; rfl
  by_cases c:(z=y)
  ·rw [if_pos c] at hB
   have ih:=scomp_in row v1 k0 hv hl l D (G++[y]) z (k2+1) (by omega) (by simp only [List.length_append,List.length_cons,List.length_nil]; omega) (by rw [← h3]; simp)
   have e2:D++(G++[y]++z::l)=D++(G++y::z::l):=by simp
   rw [e2] at ih
   rw [dsP,if_pos c]
   exact (zaj hB).trans ih
  ·rw [if_neg c] at hB
   obtain ⟨G',hG'⟩:∃ G',lset (D++(G++y::z::l)) (D.length:Int) z=(D++[z])++(G'++z::l)∧G'.length=G.length:=by
    cases G with
    | nil=>exact ⟨[],by rw [List.nil_append,lset_midT]; simp,rfl⟩
    | cons g G=>exact ⟨G++[y],by rw [List.cons_append,lset_midT]; simp,by simp⟩
   have ih:=scomp_in row v1 k0 hv hl l (D++[z]) G' z (k2+1) (by omega) (by simp only [List.length_append,List.length_cons,List.length_nil]; omega) (by rw [← hG'.1,lset_len]; exact h3)
   rw [hG'.1] at hB
   rw [dsP,if_neg c]
   have e3:(((D++[z]).length:Nat):Int)=((D.length+1:Nat):Int):=by simp
   rw [e3] at ih
   refine (zaj hB).trans (ih.trans ?_)
   simp
theorem scomp_out (row:List (List UInt8)) (hl:row.length≤500000000000):∀ (l D:List (List UInt8)) (y:List UInt8),row=D++y::l→slices_Compact_string_string_v1_L1 row ((D.length+1:Nat):Int)=some (D++y::dsP y l)
 | [],D,y,h=>by
  refine zaf ?_
  unfold zb6
  rw [if_neg (d_f (by rw [h]; simp))]
  unfold slices_Compact_string_string_v1_J1
  rw [h,dsP]; rfl
 | x::l,D,y,h=>by
  have hlen:row.length=D.length+2+l.length:=by rw [h]; simp; omega
  have e1:row=D++y::([]++x::l):=h
  have g1:zad row ((D.length+1:Nat):Int)=x:=by rw [e1]; exact sT_j D [] l y x rfl
  have g2:zad row (D.length:Int)=y:=by rw [e1]; exact sT_i D [] l y x
  have w1:w64 (((D.length+1:Nat):Int) - 1)=(D.length:Int):=by rw [zag (by omega) (by omega)]; omega
  have w2:w64 (((D.length+1:Nat):Int)+1)=(((D++[y]).length+1:Nat):Int):=by rw [zag (by omega) (by omega)]; simp
  by_cases c:(x=y)
  ·rw [dsP,if_pos c]
   refine zaf ?_
   unfold zb6
   rw [w1,if_pos (d_t (by omega)),zaa (by omega),zaa (by omega),zaa (by omega),zaa (by omega),g1,g2]
   rw [if_pos (d_t c),zaa (by omega)]
   have:=scomp_in row ((D.length+1:Nat):Int) (D.length+1) rfl hl l (D++[y]) [] x 1 (by omega) (by simp) (by rw [h]; simp)
   have e4:D++[y]++([]++x::l)=row:=by rw [h]; simp
   have e5:(((D++[y]).length:Nat):Int)=((D.length+1:Nat):Int):=by simp
   rw [e4,e5] at this
   refine Eq.trans (b:=slices_Compact_string_string_v1_L2 row ((D.length+1:Nat):Int) (row,((D.length+1:Nat):Int),((1:Nat):Int))) rfl (this.trans ?_)
   simp
  ·rw [dsP,if_neg c]
   have ih:=scomp_out row hl l (D++[y]) x (by rw [h]; simp)
   refine (zaj ?_).trans (ih.trans (by simp))
   unfold zb6
   rw [w1,w2,if_pos (d_t (by omega)),zaa (by omega),zaa (by omega),zaa (by omega),zaa (by omega),g1,g2]
   rw [if_neg (d_f c)]
theorem scomp_eq (l:List (List UInt8)) (hl:l.length≤500000000000):slices_Compact_string_string_v1 l=some (dsD l):=by
 unfold slices_Compact_string_string_v1
 match l with
 | []=>rw [if_pos (by simp)]; rfl
 | [x]=>rw [if_pos (by simp)]; rfl
 | x::y::l=>
  rw [if_neg (d_f (by simp only [List.length_cons]; omega))]
  exact scomp_out (x::y::l) hl (y::l) [] x rfl
noncomputable def rowsT (t:Tablet):List (List UInt8):=dsD ((allT t).map fun c=>c.Row)
noncomputable def halveS (t:Tablet):List UInt8×Fault:=
 if ¬ (tabF t).Code=0 then ([],tabF t)
 else if (rowsT t).length<2 then ([],⟨6,0⟩)
 else (zad (rowsT t) (((rowsT t).length / 2:Nat):Int),⟨0,0⟩)
theorem dsP_len:∀ (l:List (List UInt8)) (y:List UInt8),(dsP y l).length≤l.length
 | [],_=>Nat.le_refl _
 | x::l,y=>by
  rw [dsP]
  have:=dsP_len l x
  split
  ·simp; omega
  ·simp; omega
theorem dsD_len (l:List (List UInt8)):(dsD l).length≤l.length:=by
 cases l with
 | nil=>exact Nat.le_refl _
 | cons x l=>rw [dsD]; have:=dsP_len l x; simp; omega
theorem halve_loop (x1:List Cell×List Cell) (f:Fault) (hl:x1.1.length≤100000):∀ (m k:Nat),x1.1.length - k=m→k≤x1.1.length→
  tablet_Halve_L1 x1 (⟨0,0⟩,f,(x1.1.take k).map (fun c=>c.Row),(k:Int))=some (if (dsD (x1.1.map fun c=>c.Row)).length<2 then ([],⟨6,0⟩) else (zad (dsD (x1.1.map fun c=>c.Row)) (((dsD (x1.1.map fun c=>c.Row)).length / 2:Nat):Int),f)):=by
 intro m
 induction m with
 | zero=>
  intro k e hk
  have:k=x1.1.length:=by omega
  subst this
  have hd:=dsD_len (x1.1.map fun c=>c.Row)
  rw [List.length_map] at hd
  refine zaf ?_
  unfold tablet_Halve_B1 tablet_Halve_J1
  dsimp only
  rw [if_neg (d_f (by omega)),List.take_length,scomp_eq _ (by simp; omega),zab]
  by_cases c:(dsD (x1.1.map fun c=>c.Row)).length<2
  ·rw [if_pos (d_t (by omega)),if_pos c]; rfl
  ·have hw:w64 (Int.tdiv ((dsD (x1.1.map fun c=>c.Row)).length:Int) 2)=(((dsD (x1.1.map fun c=>c.Row)).length / 2:Nat):Int):=by
    have:Int.tdiv ((dsD (x1.1.map fun c=>c.Row)).length:Int) 2=(((dsD (x1.1.map fun c=>c.Row)).length / 2:Nat):Int):=by
     rw [Int.tdiv_eq_ediv_of_nonneg (by omega)]; omega
    rw [this,zag (by omega) (by omega)]
   rw [if_neg (d_f (by omega)),if_neg c,hw,zaa (by omega),zaa (by omega)]; rfl
 | succ m ih=>
  intro k e hk
  have hkl:k<x1.1.length:=by omega
  have hw:w64 ((k:Int)+1)=((k+1:Nat):Int):=by rw [zag (by omega) (by omega)]; omega
  refine (zaj ?_).trans (ih (k+1) (by omega) (by omega))
  unfold tablet_Halve_B1
  dsimp only
  rw [if_pos (d_t (by omega)),zaa (by omega),zaa (by omega),zaa (by simp; omega),hw,lget_take x1.1 k hkl,List.map_append]; rfl
theorem halve_eq (t:Tablet):tablet_Halve t=some (halveS t):=by
 unfold tablet_Halve halveS
 rw [load_eq,zab]
 by_cases h1:(headT t).Code=0
 ·rw [loadS_ok h1]
  dsimp only [sm]
  by_cases h2:(fillF (memT t) (filT t)).Code=0
  ·have hz:(tabF t).Code=0:=by unfold tabF; rw [if_neg (not_not_intro h1)]; exact h2
   have hT:=tabF_good hz
   obtain ⟨f1,f2⟩:=filT_len hT
   have hf:fillF (memT t) (filT t)=⟨0,0⟩:=by
    have:=hT.f
    unfold tabF at this
    rwa [if_neg (not_not_intro h1)] at this
   have hal:=hT.all
   rw [if_neg (n_f h2),all_eq _ _ _ _ _ _ _ _ _ (by have:=hT.mem; omega) f1 f2,zab,if_neg (not_not_intro hz),show allS (memT t) (filT t)=allT t from rfl]
   have:=halve_loop (allT t,memT t) (fillF (memT t) (filT t)) (by show (allT t).length≤100000; omega) (allT t).length 0 (by simp) (by simp)
   refine this.trans ?_
   rw [hf]; rfl
  ·have hf:tabF t=fillF (memT t) (filT t):=by unfold tabF; rw [if_neg (not_not_intro h1)]
   rw [if_pos (n_t h2),hf,if_pos h2]
 ·have hf:tabF t=headT t:=by unfold tabF; rw [if_pos h1]
  rw [loadS_bad h1]
  dsimp only [sm]
  rw [if_pos (n_t h1),hf,if_pos h1]
theorem encN_len' {n:Note} (h:NGood n):(encN n).length≤7000:=by
 have h1:=h.lo
 have h2:=h.hi
 have h3:=h.len
 have h5:=num_len5 (n:=n.Seq.toNat) (by omega)
 have h6:=encC_len n.Cells h.cells.code
 unfold encN
 rw [List.length_append]; omega
theorem readS_enc {l:List Cell} (hg:Good l) (hl:l.length≤20):readS (encC l)=(l,⟨0,0⟩):=by
 have h6:=encC_len l hg.code
 have:=rdAll_wrAll (f:=rdC) (w:=wrC) (fun x=>zav x=0) (fun x r h=>rdC_wrC h r) (fun x h=>(wrC_len h).2) l (encC l).length [] hg.code (Nat.le_refl _)
 have e:rdAll rdC (encC l).length (encC l) [] = .inl l:=by simpa [encC] using this
 unfold readS
 rw [if_neg (by omega),e]
 unfold rcS
 dsimp only
 rw [hg.f]
 rfl
theorem noteS_enc {n:Note} (h:NGood n):noteS (encN n)=(n,⟨0,0⟩):=by
 have hl:=encN_len' h
 have h1:=h.lo
 have h2:=h.hi
 have e:((n.Seq.toNat:Nat):Int)=n.Seq:=by omega
 unfold noteS
 rw [if_neg (by omega)]
 unfold encN
 rw [rdN_num (by omega)]
 dsimp only
 rw [readS_enc h.cells h.len,e,if_pos rfl,note_eta]
 unfold noteR
 rw [h.f,if_pos rfl]
def seqs (a:Int) (ns:List Note):Prop:=∀ k:Nat,k<ns.length→(zad ns (k:Int)).Seq=a+k
def encL (ns:List Note):List UInt8:=encF (ns.map encN)
theorem encL_cons (n:Note) (l:List Note):encL (n::l)=frame (encN n)++encL l:=by unfold encL; rw [List.map_cons,encF_cons]
theorem encL_one (n:Note):encL [n]=frame (encN n):=by rw [encL_cons]; simp [encL,encF,wrAll]
theorem seqs_take {a:Int} {ns:List Note} (h:seqs a ns) (w:Nat):seqs a (ns.take w):=by
 intro k hk
 rw [List.length_take] at hk
 have e:zad (ns.take w) (k:Int)=zad ns (k:Int):=by
  have:=lget_ltake ns (w:Int) (k:Int) (by omega)
  rwa [ltake_nat] at this
 rw [e]; exact h k (by omega)
theorem nts_run (a:Int):∀ (ms acc:List Note) (g:Nat),(∀ n∈acc++ms,NGood n)→seqs a (acc++ms)→nts acc g (ms.map encN)=(acc++ms,g+(encL ms).length)
 | [],acc,g,_,_=>by simp [nts,encL,encF,wrAll]
 | m::ms,acc,g,hg,hs=>by
  have hm:=hg m (by simp)
  have hx:nxt acc m:=by
   by_cases c:acc.length=0
   ·exact .inl c
   ·right
    have h1:=hs acc.length (by simp)
    have h2:=hs (acc.length - 1) (by simp; omega)
    rw [lget_app_r _ _ _ (by omega),Int.sub_self] at h1
    rw [lget_app_l _ _ _ (by omega)] at h2
    have e:((acc.length - 1:Nat):Int)=(acc.length:Int) - 1:=by omega
    rw [e] at h2
    have h1:m.Seq=a+acc.length:=h1
    unfold lastN
    rw [h2,h1]; omega
  rw [List.map_cons,nts,noteS_enc hm,if_pos ⟨rfl,hx⟩]
  dsimp only
  rw [nts_run a ms (acc++[m]) _ (by simpa using hg) (by simpa using hs),encL_cons,List.length_append,frame_len]
  simp; omega
theorem wh_ge:∀ (l:List (List UInt8)) (c s:Nat),s≤l.length→(encF (l.take s)).length≤c→s≤wh l c
 | _,_,0,_,_=>Nat.zero_le _
 | [],_,s+1,h,_=>by simp at h
 | x::l,c,s+1,h,hc=>by
  rw [List.take_succ_cons,encF_cons,List.length_append,frame_len] at hc
  rw [wh,if_pos (by omega)]
  have:=wh_ge l (c - (x.length+6)) s (by simpa using h) (by omega)
  omega
theorem encF_take_le (l:List (List UInt8)) (w:Nat):(encF (l.take w)).length≤(encF l).length:=by
 have e:encF l=encF (l.take w)++encF (l.drop w):=by
  unfold encF wrAll
  rw [← List.flatMap_append,List.take_append_drop]
 rw [e,List.length_append]; omega
theorem logd_cut {a:Int} {ns:List Note} (hg:∀ n∈ns,NGood n) (hs:seqs a ns) (c:Nat) :
  logd ((encL ns).take c)=(ns.take (wh (ns.map encN) c),(encL (ns.take (wh (ns.map encN) c))).length):=by
 have hl:∀ s∈ns.map encN,s.length≤65535:=by
  intro s h
  obtain ⟨n,hn,rfl⟩:=List.mem_map.1 h
  have:=encN_len' (hg n hn)
  omega
 have e:=opn_cut (ns.map encN) c ((encL ns).take c).length [] 0 hl (Nat.le_refl _)
 unfold logd bodies
 have e2:(opn ((encL ns).take c).length ((encL ns).take c) [] 0).1=(ns.take (wh (ns.map encN) c)).map encN:=by
  have:opn ((encL ns).take c).length ((encL ns).take c) [] 0=_:=e
  rw [this,List.nil_append,List.map_take]
 rw [e2,nts_run a _ [] 0 (fun n hn=>hg n (List.mem_of_mem_take (by simpa using hn))) (by rw [List.nil_append]; exact seqs_take hs _)]
 simp
theorem logd_enc {a:Int} {ns:List Note} (hg:∀ n∈ns,NGood n) (hs:seqs a ns):logd (encL ns)=(ns,(encL ns).length):=by
 have h:=logd_cut hg hs (encL ns).length
 have hw:wh (ns.map encN) (encL ns).length=ns.length:=by
  have h1:=wh_le (ns.map encN) (encL ns).length
  have h2:=wh_ge (ns.map encN) (encL ns).length ns.length (by simp) (by unfold encL; exact encF_take_le _ _)
  rw [List.length_map] at h1; omega
 rw [List.take_length,hw,List.take_length] at h
 exact h
theorem fileB_small {l:List Cell} (hg:∀ c∈l,zav c=0) (hl:l.length≤1000) (size:Int):(fileB l size).length≤367*l.length+13:=by
 obtain ⟨h1,h2,h3,h4,h5,h6,h7⟩:=blk_bd hg hl size l.length (Nat.le_refl _)
 have hN:=filN_bd l
 have hfl:(filF l).length≤l.length+1:=by unfold filF; rw [bytesOf_len]; omega
 unfold fileB zcb
 rw [encF_app,encF_cons,encF_one,List.length_append,List.length_append,frame_len,frame_len]
 omega
def c1:Cell:=⟨[114],[99],7,false,[97]⟩
theorem one_cells:law_oneNote.Cells=[c1]:=rfl
theorem one_good:NGood law_oneNote:=noteF_good (by rw [note1F])
theorem c1_good:Good [c1]:=one_good.cells
theorem firsts_c1:firsts [c1]=[c1]:=firsts_self c1_good.srt
theorem firsts_nil':firsts ([]:List Cell)=[]:=firsts_self (l:=[]) .nil
theorem mem_none (d:Int):memS d []=[]:=by
 unfold memS
 rw [show abv d []=[] from rfl,show allC []=[] from rfl,firsts_nil']
theorem mem_one:memS 0 [law_oneNote]=[c1]:=by
 unfold memS
 have:abv 0 [law_oneNote]=[law_oneNote]:=by rw [abv,if_pos (by decide)]
 rw [this]
 have:allC [law_oneNote]=[c1]:=by simp [allC,one_cells]
 rw [this,firsts_c1]
theorem mem_one1:memS 1 [law_oneNote]=[]:=by
 unfold memS
 have:abv 1 [law_oneNote]=[]:=by rw [abv,if_neg (by decide)]; rfl
 rw [this,show allC []=[] from rfl,firsts_nil']
theorem logd_none:logd []=([],0):=by
 have:=logd_enc (a:=0) (ns:=[]) (fun n h=>by cases h) (fun k h=>by simp at h)
 simpa [encL,encF,wrAll] using this
theorem logd_one:logd (frame (encN law_oneNote))=([law_oneNote],(frame (encN law_oneNote)).length):=by
 have:=logd_enc (a:=1) (ns:=[law_oneNote]) (fun n h=>by rw [List.mem_singleton.1 h]; exact one_good) (fun k h=>by
  have:k=0:=by simp at h; omega
  subst this; rfl)
 rwa [encL_one] at this
theorem enc_one_len:(frame (encN law_oneNote)).length≤7006:=by
 have:=encN_len one_good
 rw [frame_len]; omega
noncomputable def t1:Tablet:=⟨⟨frame (encN law_oneNote),0⟩,[],0,0⟩
noncomputable def t2:Tablet:=⟨⟨frame (encN law_oneNote),0⟩,[fileB [c1] 50],1,0⟩
theorem fill_small {a:List Cell} {b:List (List Cell)} (h1:a.length≤500) (h2:(allS a b).length≤1000):fillF a b=⟨0,0⟩:=by
 unfold fillF
 rw [if_neg (by omega),if_neg (by omega)]
theorem allS_small (a:List Cell) (b:List (List Cell)) (h:a.length+b.flatten.length≤1000):(allS a b).length≤1000:=by
 have:=firsts_len (a++b.flatten)
 rw [List.length_append] at this
 unfold allS; omega
theorem T0_log:notT T0=[]:=by unfold notT; rw [show T0.Log.Bytes=[] from rfl,logd_none]
theorem T0_ok:tabF T0=⟨0,0⟩:=by
 have hh:headT T0=⟨0,0⟩:=by
  unfold headT
  have hb:¬ badT T0:=by
   unfold badT
   rw [T0_log,show T0.Log.Bytes=[] from rfl,logd_none]
   simp
  rw [if_neg (by simp [T0]),if_neg (by simp [T0]),if_neg (by simp [T0,dF]),if_neg hb]; rfl
 unfold tabF
 rw [hh,if_neg (by simp)]
 refine fill_small ?_ (allS_small _ _ ?_)
 ·unfold memT; rw [T0_log,mem_none]; simp
 ·unfold memT filT; rw [T0_log,mem_none]; simp [T0]
theorem put_one:putS T0 law_oneNote.Cells=(t1,1,⟨0,0⟩):=by
 have hl:lastT T0=0:=by unfold lastT; rw [T0_log,if_neg (by simp)]; rfl
 have hn:putN T0 law_oneNote.Cells=law_oneNote:=by unfold putN; rw [hl]; rfl
 have he:erl T0.Since law_oneNote.Cells 0=⟨0,0⟩:=by
  rw [one_cells,erl,if_neg (by decide)]; rfl
 have hf:putF T0 law_oneNote.Cells=⟨0,0⟩:=by
  unfold putF
  have hlen:=enc_one_len
  rw [hn,note1F,if_neg (by simp),he,if_neg (by simp),if_neg (by show ¬ 60000<0+_; omega),T0_log]
  show fillF (memS 0 [law_oneNote]) _=_
  rw [mem_one]
  exact fill_small (by simp) (allS_small _ _ (by simp [filT,T0]))
 unfold putS
 rw [T0_ok,if_neg (by simp),hf,if_neg (by simp),hn,hl]; rfl
theorem t1_log:notT t1=[law_oneNote]:=by unfold notT; rw [show t1.Log.Bytes=frame (encN law_oneNote) from rfl,logd_one]
theorem t1_ok:tabF t1=⟨0,0⟩:=by
 have hlen:=enc_one_len
 have hh:headT t1=⟨0,0⟩:=by
  unfold headT
  have hb:¬ badT t1:=by
   unfold badT
   rw [t1_log,show t1.Log.Bytes=frame (encN law_oneNote) from rfl,logd_one]
   rintro (h | ⟨_,h⟩)
   ·exact h rfl
   ·revert h; decide
  have hd:dF t1.Log=⟨0,0⟩:=dF_zero ⟨by show (frame (encN law_oneNote)).length≤60000; omega,Int.le_refl 0,by show (0:Int)≤((frame (encN law_oneNote)).length:Int); omega⟩
  rw [if_neg (by simp [t1]),if_neg (by simp [t1]),if_neg (by rw [hd]; simp),if_neg hb]; rfl
 unfold tabF
 rw [hh,if_neg (by simp)]
 refine fill_small ?_ (allS_small _ _ ?_)
 ·unfold memT; rw [t1_log,show t1.Done=0 from rfl,mem_one]; simp
 ·unfold memT filT; rw [t1_log,show t1.Done=0 from rfl,mem_one]; simp [t1]
theorem c1_file:(fileB [c1] 50).length≤60000:=by
 have:=fileB_small c1_good.code (by simp) 50
 simp only [List.length_singleton] at this
 omega
theorem flush_one:flushS t1 50=(t2,⟨0,0⟩):=by
 have hm:memT t1=[c1]:=by unfold memT; rw [t1_log,show t1.Done=0 from rfl,mem_one]
 have hl:lastT t1=1:=by unfold lastT; rw [t1_log,if_pos (by simp)]; rfl
 have hk:makeF [c1] 50=⟨0,0⟩:=by
  unfold makeF
  have:=c1_file
  rw [if_neg (not_not_intro (by rw [c1_good.f])),if_neg (by simp),if_neg (by decide),if_neg (by omega)]
 have hf:flushF t1 50=⟨0,0⟩:=by
  unfold flushF
  rw [if_neg (not_not_intro (by decide)),hl,if_neg (by decide),if_neg (by decide),hm,hk]
 unfold flushS
 rw [t1_ok,if_neg (by simp),hf,if_neg (by simp),hl,hm]; rfl
theorem t2_log:notT t2=[law_oneNote]:=by unfold notT; rw [show t2.Log.Bytes=frame (encN law_oneNote) from rfl,logd_one]
theorem file_one:(fileO (fileB [c1] 50)).1=[c1]∧(fileO (fileB [c1] 50)).2.2=⟨0,0⟩:=by
 have h1:=open_any (fileB [c1] 50)
 have h2:=open_made c1_good 50 c1_file (by simp)
 rw [h1] at h2
 simp only [Option.some.injEq,Prod.mk.injEq] at h2
 exact h2
theorem t2_ok:tabF t2=⟨0,0⟩:=by
 have hlen:=enc_one_len
 have hh:headT t2=⟨0,0⟩:=by
  unfold headT
  have hb:¬ badT t2:=by
   unfold badT
   rw [t2_log,show t2.Log.Bytes=frame (encN law_oneNote) from rfl,logd_one]
   rintro (h | ⟨_,h⟩)
   ·exact h rfl
   ·revert h; show ¬ ((1:Int)+1<law_oneNote.Seq∨law_oneNote.Seq<1); decide
  have hd:dF t2.Log=⟨0,0⟩:=dF_zero ⟨by show (frame (encN law_oneNote)).length≤60000; omega,Int.le_refl 0,by show (0:Int)≤((frame (encN law_oneNote)).length:Int); omega⟩
  rw [if_neg (by simp [t2]),if_neg (by simp [t2]),if_neg (by rw [hd]; simp),if_neg hb]
  show ldF [fileB [c1] 50] 0=_
  rw [ldF,if_pos (by rw [file_one.2])]; rfl
 unfold tabF
 rw [hh,if_neg (by simp)]
 refine fill_small ?_ (allS_small _ _ ?_)
 ·unfold memT; rw [t2_log,show t2.Done=1 from rfl,mem_one1]; simp
 ·unfold memT filT; rw [t2_log,show t2.Done=1 from rfl,mem_one1]; simp [t2,file_one.1]
theorem cut_one:cutS t2=(⟨⟨[],0⟩,[fileB [c1] 50],1,0⟩,⟨0,0⟩):=by
 have hb:cutB t2=[]:=by
  unfold cutB
  rw [t2_log,show t2.Done=1 from rfl]
  have:[law_oneNote].filter (fun n=>decide (1<n.Seq))=[]:=by decide
  rw [this]; rfl
 unfold cutS
 rw [t2_ok,if_neg (by simp),hb]; rfl
theorem tabBegun:law_tabletBegun=some true:=by
 unfold law_tabletBegun
 dsimp only [lt]
 rw [show (⟨(⟨([]:List UInt8),0⟩:Disk),([]:List (List UInt8)),0,0⟩:Tablet)=T0 from rfl,tput_eq,zab,put_one]
 dsimp only
 rw [flush_eq,zab,flush_one]
 dsimp only
 rw [cut_eq',zab,cut_one]
 dsimp only
 rw [zaa (fun _=>by simp),if_pos (by simp),one_cells,rfile_eq c1_good.code (by simp) 50,zab]
 simp [R_Same,zad]
def up (a b:Note):Prop:=a.Seq<b.Seq
theorem lastN_app (l:List Note) (m:Note):lastN (l++[m])=m:=by
 unfold lastN
 have:(((l++[m]).length:Nat):Int) - 1=(l.length:Int):=by simp
 rw [this,zbw _ l.length (by simp)]; simp
theorem nts_up:∀ (l:List (List UInt8)) (acc:List Note) (g:Nat),acc.Pairwise up→(∀ n∈acc,n.Seq≤(lastN acc).Seq)→(nts acc g l).1.Pairwise up∧∀ n∈(nts acc g l).1,n.Seq≤(lastN (nts acc g l).1).Seq
 | [],acc,g,h1,h2=>⟨h1,h2⟩
 | s::l,acc,g,h1,h2=>by
  rw [nts]
  split
  ·rename_i c
   have hlt:∀ n∈acc,n.Seq<(noteS s).1.Seq:=fun n hn=>by
    rcases c.2 with q | q
    ·rw [List.eq_nil_of_length_eq_zero q] at hn; cases hn
    ·have:=h2 n hn; omega
   refine nts_up l _ _ ?_ ?_
   ·rw [List.pairwise_append]
    exact ⟨h1,List.pairwise_singleton ..,fun a ha b hb=>by rw [List.mem_singleton] at hb; subst hb; exact hlt a ha⟩
   ·intro n hn
    rw [lastN_app]
    rcases List.mem_append.1 hn with q | q
    ·exact Int.le_of_lt (hlt n q)
    ·rw [List.mem_singleton] at q; subst q; exact Int.le_refl _
  ·exact ⟨h1,h2⟩
theorem logd_up (b:List UInt8):(logd b).1.Pairwise up:=(nts_up (bodies b) [] 0 .nil (by simp)).1
theorem abv_filter (done:Int):∀ l:List Note,l.Pairwise up→abv done l=l.filter fun n=>decide (done<n.Seq)
 | [],_=>rfl
 | n::l,h=>by
  obtain ⟨h1,h2⟩:=List.pairwise_cons.1 h
  rw [abv]
  by_cases c:done<n.Seq
  ·rw [if_pos c,List.filter_cons_of_pos (by simpa using c)]
   congr 1
   exact (List.filter_eq_self.2 fun m hm=>by have:n.Seq<m.Seq:=h1 m hm; simp; omega).symm
  ·rw [if_neg c,List.filter_cons_of_neg (by simpa using c)]
   exact abv_filter done l h2
theorem above_eq (l:List Note) (done:Int) (hl:l.length≤1000000):R_Above l done=some (l.filter fun n=>decide (done<n.Seq)):=by
 have key:∀ (m k:Nat),l.length - k=m→k≤l.length→R_Above_L1 l done ((l.take k).filter (fun n=>decide (done<n.Seq)),(k:Int))=some (l.filter fun n=>decide (done<n.Seq)):=by
  intro m
  induction m with
  | zero=>
   intro k e hk
   have:k=l.length:=by omega
   subst this
   refine zaf ?_
   unfold R_Above_B1 R_Above_J1
   dsimp only
   rw [if_neg (d_f (by omega)),List.take_length]; rfl
  | succ m ih=>
   intro k e hk
   have hkl:k<l.length:=by omega
   have hw:w64 ((k:Int)+1)=((k+1:Nat):Int):=by rw [zag (by omega) (by omega)]; omega
   have hfl:=List.length_filter_le (fun n:Note=>decide (done<n.Seq)) (l.take k)
   have htl:(l.take k).length≤k:=by simp; omega
   refine (zaj ?_).trans (ih (k+1) (by omega) (by omega))
   unfold R_Above_B1
   dsimp only
   rw [if_pos (d_t (by omega)),zaa (by omega),hw,filter_succ _ l k hkl]
   by_cases c:done<(zad l (k:Int)).Seq
   ·rw [if_pos (d_t c),zaa (by omega),zaa (by rw [List.length_append,List.length_singleton]; omega),zab,if_pos (by simpa using c)]
   ·rw [if_neg (d_f c),zab,if_neg (by simpa using c),List.append_nil]
 exact key l.length 0 (by omega) (by omega)
theorem above_abv (t:Tablet) (hl:(notT t).length≤1000000):R_Above (notT t) t.Done=some (abv t.Done (notT t)):=by
 rw [above_eq _ _ hl,abv_filter t.Done (notT t) (logd_up t.Log.Bytes)]
theorem togethr_loop (l:List (List Cell)) (hs:∀ g∈l,g.Pairwise ah) (hl:l.length≤1000) (hf:l.flatten.length≤100000000):∀ (n:Nat),n≤l.length→R_Together_L1 l (firsts (l.drop n).flatten,(n:Int))=some (firsts l.flatten)
 | 0,_=>by
  refine zaf ?_
  unfold R_Together_B1
  dsimp only
  rw [if_neg (d_f (by simp))]; rfl
 | n+1,hn=>by
  have hw:w64 (((n+1:Nat):Int) - 1)=(n:Int):=by rw [zag (by omega) (by omega)]; omega
  have hm:=lget_mem l (n:Int) (by omega)
  have hgl:(zad l (n:Int)).length≤l.flatten.length:=(List.sublist_flatten_of_mem hm).length_le
  have hfl:=firsts_len (l.drop (n+1)).flatten
  have hdl:(l.drop (n+1)).flatten.length≤l.flatten.length:=by
   have e:l.flatten=(l.take (n+1)).flatten++(l.drop (n+1)).flatten:=by rw [← List.flatten_append,List.take_append_drop]
   rw [e,List.length_append]; omega
  have hp:=rputs_eq (firsts (l.drop (n+1)).flatten) (zad l (n:Int)) (l.drop (n+1)).flatten (firsts_ok _) (by omega)
  have he:firsts ((zad l (n:Int)).reverse++(l.drop (n+1)).flatten)=firsts (l.drop n).flatten:=by
   rw [lget_drop l n (by omega),List.flatten_cons]
   exact (firsts_congr (Stab.app (stab_rev (hs _ hm)) (Stab.refl _))).symm
  refine (zaj ?_).trans (togethr_loop l hs hl hf n (by omega))
  unfold R_Together_B1
  dsimp only
  rw [if_pos (d_t (by omega)),hw,zaa (by omega),hp,zab,he]
theorem togethr_eq {l:List (List Cell)} (hs:∀ g∈l,g.Pairwise ah) (hl:l.length≤1000) (hf:l.flatten.length≤100000000):R_Together l=some (firsts l.flatten):=by
 have:=togethr_loop l hs hl hf l.length (Nat.le_refl _)
 rw [List.drop_length] at this
 unfold R_Together
 rw [← this]
 congr 2
 rw [show ([]:List (List Cell)).flatten=[] from rfl,firsts_self .nil]
noncomputable def insS (t:Tablet):Inside×Fault:=
 if ¬ (headT t).Code=0 then (⟨[],0,[],[],[]⟩,headT t) else (⟨notT t,lastT t,memT t,filT t,allT t⟩,fillF (memT t) (filT t))
theorem insS_f (t:Tablet):(insS t).2=tabF t:=by
 unfold insS tabF
 split <;> rfl
theorem heavy_eq (n:List Note) (k:Int) (mem:List Cell) (f:List (List Cell)):R_Heavy ⟨n,k,mem,f,allS mem f⟩=fillF mem f:=by
 unfold R_Heavy fillF R_F
 dsimp only [lt]
 by_cases c1:500<mem.length
 ·rw [if_pos (d_t (by omega)),if_pos c1]
 ·rw [if_neg (d_f (by omega)),if_neg c1]
  by_cases c2:1000<(allS mem f).length
  ·rw [if_pos (d_t (by omega)),if_pos c2]
  ·rw [if_neg (d_f (by omega)),if_neg c2]
theorem ins_loop (t:Tablet) (k0:Nat) (z:Inside) (zf:Fault) (hL:t.Files.length≤10) (hn:(notT t).length≤1000000) (hg:∀ n∈notT t,NGood n):∀ (m k:Nat),t.Files.length - k=m→k≤t.Files.length→ldF t.Files 0=ldF (t.Files.drop k) k→(∀ b∈t.Files.take k,(fileO b).2.2.Code=0)→
  R_InsideOf_v1_L1 (notT t,(k0:Int)) (t,z,zf,lastT t) (t,z,zf,(t.Files.take k).map (fun b=>(fileO b).1),(k:Int)) =
   some (if ¬ (ldF t.Files 0).Code=0 then (⟨[],0,[],[],[]⟩,ldF t.Files 0) else (⟨notT t,lastT t,memT t,filT t,allT t⟩,fillF (memT t) (filT t))):=by
 intro m
 induction m with
 | zero=>
  intro k e hk h0 hgd
  have hkl:k=t.Files.length:=by omega
  subst hkl
  rw [List.drop_length] at h0
  have hz:ldF t.Files 0=⟨0,0⟩:=h0
  have hfl:=fil_flat t.Files
  rw [List.take_length] at hgd
  have hm0:=allC_len (abv t.Done (notT t)) fun n h=>(hg n (abv_sub t.Done _ n h)).len
  have ha:=abv_len t.Done (notT t)
  have hml:(memT t).length≤100000000 - 5000:=by
   unfold memT memS
   have:=firsts_len (allC (abv t.Done (notT t)))
   omega
  have hts:([memT t]++filT t).flatten=memT t++(filT t).flatten:=by simp
  have htg:=togethr_eq (l:=[memT t]++filT t) (fun g hgm=>by
   rcases List.mem_append.1 hgm with q | q
   ·rw [List.mem_singleton] at q; subst q; exact (firsts_ok _).1
   ·obtain ⟨b,hb,rfl⟩:=List.mem_map.1 q
    exact (fileO_good (hgd b hb)).1.srt) (by unfold filT; simp; omega) (by rw [hts,List.length_append]; unfold filT; omega)
  rw [hts] at htg
  refine zaf ?_
  unfold R_InsideOf_v1_B1 R_InsideOf_v1_J2
  dsimp only
  rw [if_neg (d_f (by omega)),List.take_length,above_abv t hn,zab,puts_eq [] _ .nil (by simp) (by omega) (fun n h=>hg n (abv_sub t.Done _ n h)),zab,List.append_nil]
  have e1:firsts (allC (abv t.Done (notT t)))=memT t:=rfl
  have e2:t.Files.map (fun b=>(fileO b).1)=filT t:=rfl
  rw [e1,e2,zaa (by unfold filT; simp; omega),htg,zab]
  dsimp only [lt]
  have e3:firsts (memT t++(filT t).flatten)=allS (memT t) (filT t):=rfl
  rw [e3,heavy_eq,hz,if_neg (by simp)]; rfl
 | succ m ih=>
  intro k e hk h0 hgd
  have hkl:k<t.Files.length:=by omega
  have hw:w64 ((k:Int)+1)=((k+1:Nat):Int):=by rw [zag (by omega) (by omega)]; omega
  rw [lget_drop t.Files k hkl,ldF] at h0
  have hop:=ropen_eq (zad t.Files (k:Int))
  by_cases c:(fileO (zad t.Files (k:Int))).2.2.Code=0
  ·rw [if_pos c] at h0
   refine (zaj ?_).trans (ih (k+1) (by omega) (by omega) h0 (fun b hb=>by
    rw [lget_take t.Files k hkl] at hb
    rcases List.mem_append.1 hb with q | q
    ·exact hgd b q
    ·rw [List.mem_singleton] at q; subst q; exact c))
   unfold R_InsideOf_v1_B1
   dsimp only
   rw [if_pos (d_t (by omega)),zaa (by omega),hop,zab,if_neg (n_f c),zaa (by simp; omega),hw,lget_take t.Files k hkl,List.map_append]; rfl
  ·rw [if_neg c] at h0
   refine zaf ?_
   unfold R_InsideOf_v1_B1
   dsimp only
   rw [if_pos (d_t (by omega)),zaa (by omega),hop,zab,if_pos (n_t c),h0,if_pos c]; rfl
theorem rlogd0_eq (b:List UInt8) (h:b.length≤60000):R_Logged b=some ((logd b).1,(((logd b).2:Nat):Int)):=rlogd_eq b h
theorem inside_eq (t:Tablet):R_InsideOf_v1 t=some (insS t):=by
 unfold R_InsideOf_v1 insS headT R_F
 by_cases c1:t.Done<0∨1000000000<t.Done∨t.Since<0∨1000000000<t.Since
 ·rw [if_pos (by simp; omega),if_pos c1,if_pos (by simp)]; rfl
 ·rw [if_neg (by simp; omega),if_neg c1]
  by_cases c2:10<t.Files.length
  ·rw [if_pos (d_t (by omega)),if_pos c2,if_pos (by simp)]; rfl
  ·rw [if_neg (d_f (by omega)),if_neg c2,rdisk_eq]
   dsimp only [lt]
   by_cases c3:(dF t.Log).Code=0
   ·have hd:=dF_good.1 c3
    have hlen:=hd.len
    obtain ⟨l1,l2,l3⟩:=logd_le t.Log.Bytes
    rw [if_neg (n_f c3),if_neg (not_not_intro c3),rlogd0_eq t.Log.Bytes hlen,zab]
    dsimp only
    have e1:(logd t.Log.Bytes).1=notT t:=rfl
    rw [e1] at l2 l3 ⊢
    have hwn:w64 (((notT t).length:Int) - 1)=((notT t).length:Int) - 1:=zag (by omega) (by omega)
    rw [hwn]
    have go:¬ badT t→R_InsideOf_v1_J1 (notT t,(((logd t.Log.Bytes).2:Nat):Int)) (t,⟨[],0,[],[],[]⟩,⟨0,0⟩,lastT t)=some (if ¬ (ldF t.Files 0).Code=0 then (⟨[],0,[],[],[]⟩,ldF t.Files 0) else (⟨notT t,lastT t,memT t,filT t,allT t⟩,fillF (memT t) (filT t))):=fun _=>
     ins_loop t _ _ _ (by omega) (by omega) l3 t.Files.length 0 (by omega) (by omega) rfl (by simp)
    by_cases c4:(logd t.Log.Bytes).2=t.Log.Bytes.length
    ·rw [if_neg (n_f (by omega))]
     by_cases c5:0<(notT t).length
     ·have g0:=l3 _ (lget_mem (notT t) 0 (by omega))
      have hws:w64 ((zad (notT t) 0).Seq - 1)=(zad (notT t) 0).Seq - 1:=zag (by have:=g0.lo; omega) (by have:=g0.hi; omega)
      rw [if_pos (d_t (by omega)),zaa (by omega),zaa (by omega),zaa (by omega),zaa (by omega),hws]
      by_cases c6:t.Done+1<(zad (notT t) 0).Seq∨(zad (notT t) (((notT t).length:Int) - 1)).Seq<t.Done
      ·have hb:badT t:=.inr ⟨c5,c6⟩
       rw [if_pos (by simp only [Bool.or_eq_true,decide_eq_true_eq]; omega),if_pos hb,if_pos (by simp)]
      ·have hb:¬ badT t:=by unfold badT; rintro (q | ⟨_,q⟩) <;> contradiction
       rw [if_neg (by simp only [Bool.or_eq_true,decide_eq_true_eq]; omega),if_neg hb]
       have:=go hb
       unfold lastT at this ⊢
       rw [if_pos c5] at this ⊢
       exact this
     ·have hb:¬ badT t:=by unfold badT; rintro (q | ⟨q,_⟩) <;> contradiction
      rw [if_neg (d_f (by omega)),if_neg hb]
      have:=go hb
      unfold lastT at this ⊢
      rw [if_neg c5] at this ⊢
      exact this
    ·have hb:badT t:=.inl c4
     rw [if_pos (n_t (by omega)),if_pos hb,if_pos (by simp)]
   ·rw [if_pos (n_t c3),if_pos c3,if_pos c3]
theorem sameBodies_loop (a b:List (List UInt8)) (hl:a.length=b.length) (hb:a.length≤1000000):∀ (m k:Nat),a.length - k=m→k≤a.length→R_SameBodies_L1 a b (k:Int)=some (decide (a.drop k=b.drop k))
 | 0,k,e,hk=>by
  have:k=a.length:=by omega
  refine zaf ?_
  simp only [R_SameBodies_B1]
  rw [if_neg (d_f (by omega))]
  have e1:a.drop k=[]:=List.drop_eq_nil_of_le (by omega)
  have e2:b.drop k=[]:=List.drop_eq_nil_of_le (by omega)
  simp [inrO,R_SameBodies_J1,e1,e2]
 | m+1,k,e,hk=>by
  have hw:w64 ((k:Int)+1)=((k+1:Nat):Int):=by rw [zag (by omega) (by omega)]; omega
  have ih:=sameBodies_loop a b hl hb m (k+1) (by omega) (by omega)
  rw [lget_drop a k (by omega),lget_drop b k (by omega)]
  by_cases c:zad a (k:Int)=zad b (k:Int)
  ·refine (zaj (y:=((k+1:Nat):Int)) ?_).trans (ih.trans (by simp [c]))
   dsimp only [R_SameBodies_B1,R_Same,lt]
   rw [if_pos (d_t (by omega)),zaa (by omega),zaa (by omega),if_neg (by simp [c]),hw]
  ·refine zaf ?_
   dsimp only [R_SameBodies_B1,R_Same,lt]
   rw [if_pos (d_t (by omega)),zaa (by omega),zaa (by omega),if_pos (by simp [c])]
   simp [c]
theorem sameBodies_eq (a b:List (List UInt8)) (hb:a.length≤1000000):R_SameBodies a b=some (decide (a=b)):=by
 unfold R_SameBodies
 by_cases c:a.length=b.length
 ·rw [if_neg (by simp [c])]
  have:=sameBodies_loop a b c hb a.length 0 (by omega) (by omega)
  simpa using this
 ·rw [if_pos (by simp; omega)]
  have:a≠b:=fun h=>c (by rw [h])
  simp [this]
theorem sameT_eq (a b:Tablet) (hb:a.Files.length≤1000000):R_SameTablet a b=some (decide (a=b)):=by
 unfold R_SameTablet
 rw [sameDisk_iff]
 dsimp only [lt]
 obtain ⟨l,f,d,s⟩:=a
 obtain ⟨l',f',d',s'⟩:=b
 dsimp only at hb ⊢
 by_cases c:l=l'
 ·rw [decide_eq_true c,if_pos rfl,sameBodies_eq _ _ hb,zab]
  subst c
  by_cases c2:f=f' <;> by_cases c3:d=d' <;> by_cases c4:s=s' <;> simp [c2,c3,c4]
 ·rw [decide_eq_false c,if_neg (by simp),zab]
  simp [c]
def sumL (l:List (List UInt8)):Nat:=(l.map List.length).sum
theorem sumL_cons (s:List UInt8) (l:List (List UInt8)):sumL (s::l)=s.length+sumL l:=by simp [sumL]
theorem sumL_mem:∀ (l:List (List UInt8)) (b:List UInt8),b∈l→b.length≤sumL l
 | s::l,b,h=>by
  rw [sumL_cons]
  rcases List.mem_cons.1 h with e | e
  ·rw [e]; omega
  ·have:=sumL_mem l b e; omega
theorem sumL_le:∀ (l:List (List UInt8)),(∀ b∈l,b.length≤140737488351232)→sumL l≤140737488351232*l.length
 | [],_=>by simp [sumL]
 | s::l,h=>by
  have h1:=sumL_le l fun b hb=>h b (List.mem_cons_of_mem _ hb)
  have h2:=h s (List.mem_cons_self ..)
  rw [sumL_cons,List.length_cons]; omega
theorem vast_val (t:Tablet) (hf:t.Files.length≤100) (hb:∀ b∈t.Files,b.length≤140737488351232):∀ (m k v:Nat),t.Files.length - k=m→k≤t.Files.length→v+sumL (t.Files.drop k)≤100000000000000000→
  law_vastTablet_L1 (t,(v:Int),(k:Int))=some (decide (20000<v+sumL (t.Files.drop k)))
 | 0,k,v,e,hk,hv=>by
  have:k=t.Files.length:=by omega
  subst this
  refine zaf ?_
  unfold law_vastTablet_B1 law_vastTablet_J1
  dsimp only
  rw [if_neg (d_f (by omega)),List.drop_length]
  have:sumL []=0:=rfl
  rw [this,decide_eq_false (show ¬ (100<(t.Files.length:Int)) by omega),Bool.or_false,decide_eq_decide.2 (show 20000<(v:Int)↔20000<v+0 by omega)]; rfl
 | m+1,k,v,e,hk,hv=>by
  have hkl:k<t.Files.length:=by omega
  rw [lget_drop t.Files k hkl,sumL_cons] at hv ⊢
  have h1:w64 ((k:Int)+1)=((k+1:Nat):Int):=by rw [zag (by omega) (by omega)]; omega
  have h2:w64 ((v:Int)+((zad t.Files (k:Int)).length:Int))=((v+(zad t.Files (k:Int)).length:Nat):Int):=by rw [zag (by omega) (by omega)]; omega
  refine (zaj ?_).trans ((vast_val t hf hb m (k+1) (v+(zad t.Files (k:Int)).length) (by omega) (by omega) (by omega)).trans (by rw [Nat.add_assoc]))
  unfold law_vastTablet_B1
  dsimp only
  rw [if_pos (d_t (by omega)),zaa (by omega),h1,h2]
structure Few (t:Tablet):Prop where
 log:t.Log.Bytes.length≤20000
 files:t.Files.length≤100
 each:∀ b∈t.Files,b.length≤20000
theorem vast_eq (t:Tablet) (h0:t.Log.Bytes.length≤140737488351232) (hl:t.Files.length≤140737488351232) (hb:∀ b∈t.Files,b.length≤140737488351232):∃ b,law_vastTablet t=some b∧(b=false→Few t):=by
 obtain ⟨b,h1,h2⟩:=vastT_run t hl
 refine ⟨b,h1,fun hbf=>?_⟩
 have hf:=h2 hbf
 have hs:=sumL_le t.Files hb
 have:=vast_val t hf hb t.Files.length 0 t.Log.Bytes.length (by omega) (by omega) (by rw [List.drop_zero]; omega)
 have h3:law_vastTablet t=law_vastTablet_L1 (t,(t.Log.Bytes.length:Int),((0:Nat):Int)):=rfl
 rw [h3,this,hbf,List.drop_zero] at h1
 have h4:¬ 20000<t.Log.Bytes.length+sumL t.Files:=by simpa using h1
 exact ⟨by omega,hf,fun x hx=>by have:=sumL_mem _ _ hx; omega⟩
theorem ownB_eq (l:List (List UInt8)) (hl:l.length≤1000) (hb:∀ b∈l,b.length≤1000000):law_ownBodies_v1 l=some l:=by
 have key:∀ (m k:Nat),l.length - k=m→k≤l.length→law_ownBodies_v1_L1 l (l.take k,(k:Int))=some l:=by
  intro m
  induction m with
  | zero=>
   intro k e hk
   have:k=l.length:=by omega
   subst this
   refine zaf ?_
   unfold law_ownBodies_v1_B1 law_ownBodies_v1_J1
   dsimp only
   rw [if_neg (d_f (by omega)),List.take_length]; rfl
  | succ m ih=>
   intro k e hk
   have hkl:k<l.length:=by omega
   have hw:w64 ((k:Int)+1)=((k+1:Nat):Int):=by rw [zag (by omega) (by omega)]; omega
   have hx:=hb _ (lget_mem l (k:Int) (by omega))
   refine (zaj ?_).trans (ih (k+1) (by omega) (by omega))
   unfold law_ownBodies_v1_B1 law_ownBytes_v1
   dsimp only
   rw [if_pos (d_t (by omega)),zaa (by omega),zaa (by omega),zab,zaa (by simp; omega),hw,lget_take l k hkl]
 exact key l.length 0 (by omega) (by omega)
theorem ownT_eq {t:Tablet} (h:Few t):law_ownTablet t=some t:=by
 unfold law_ownTablet law_ownDisk law_ownBytes_v1
 have:=h.log
 rw [zaa (by omega),zab,zab,ownB_eq _ (by have:=h.files; omega) (fun b hb=>by have:=h.each b hb; omega),zab]
theorem bsearchg_loop (l:List Cell) (hg:Gw l) (t:Cell):∀ (m i j:Nat),j - i=m→i≤j→j≤l.length→(∀ n<i,zbt (zad l (n:Int)) t=true)→(∀ n,j≤n→n<l.length→zbt (zad l (n:Int)) t=false)→
  ∃ (n:Nat) (b:Bool),zbo l (t,(i:Int),(j:Int))=some ((n:Int),b)∧n≤l.length∧(∀ k<n,zbt (zad l (k:Int)) t=true)∧(∀ k,n≤k→k<l.length→zbt (zad l (k:Int)) t=false):=by
 intro m
 induction m using Nat.strongRecOn with
 | _ m ih=>
  intro i j e hij hjl h1 h2
  have hlen:=hg.len
  by_cases c:i<j
  ·have hw:w64 (Int.fdiv (IntKind.u64.wrap (w64 ((i:Int)+(j:Int)))) (2 ^ (min (1:Int).toNat 64)))=(((i+j) / 2:Nat):Int):=by
    have e2:(2:Int) ^ (min (1:Int).toNat 64)=((2:Nat):Int):=by decide
    have e1:IntKind.u64.wrap (w64 ((i:Int)+(j:Int)))=((i+j:Nat):Int):=by
     rw [zag (by omega) (by omega)]
     unfold IntKind.wrap
     simp only [IntKind.signed,IntKind.bits]
     simp
     omega
    rw [e1,e2,fdiv_nat',zag (by omega) (by omega)]
   generalize hh:(i+j) / 2=h at hw
   have hi1:i≤h:=by omega
   have hj1:h<j:=by omega
   have hw1:w64 ((h:Int)+1)=((h+1:Nat):Int):=by rw [zag (by omega) (by omega)]; omega
   by_cases ca:zbt (zad l (h:Int)) t=true
   ·obtain ⟨n,b,r1,r2⟩:=ih (j - (h+1)) (by omega) (h+1) j rfl (by omega) hjl (fun n hn=>by
     by_cases hnh:n=h
     ·subst hnh; exact ca
     ·exact (za1 _ _).2 (ah_trans (hg.at (by omega) (by omega)) ((za1 _ _).1 ca))) h2
    refine ⟨n,b,(zaj (y:=(t,((h+1:Nat):Int),(j:Int))) ?_).trans r1,r2⟩
    simp only [zax]
    rw [if_pos (d_t (by omega)),hw]
    dsimp only [lt]
    rw [zaa (by omega),cell_eta,order_eq,zab,if_pos (d_t ((ord_neg _ _).2 ca)),hw1]
   ·obtain ⟨n,b,r1,r2⟩:=ih (h - i) (by omega) i h rfl (by omega) (by omega) h1 (fun n hn hnl=>by
     by_cases hnh:n=h
     ·subst hnh; simpa using ca
     ·refine ahead_f.2 fun hh2=>ca ((za1 _ _).2 (ah_trans (hg.at (i:=h) (j:=n) (by omega) hnl) hh2)))
    refine ⟨n,b,(zaj (y:=(t,(i:Int),(h:Int))) ?_).trans r1,r2⟩
    simp only [zax]
    rw [if_pos (d_t (by omega)),hw]
    dsimp only [lt]
    rw [zaa (by omega),cell_eta,order_eq,zab,if_neg (d_f (fun hn=>ca ((ord_neg _ _).1 hn)))]
  ·have:i=j:=by omega
   subst this
   have hJ:∃ b,zaw l (t,(i:Int))=some ((i:Int),b):=by
    unfold zaw
    dsimp only
    by_cases ci:(i:Int)<(l.length:Int)
    ·rw [zaa (fun _=>by omega),if_pos (d_t ci),order_eq,zab]
     exact ⟨_,rfl⟩
    ·rw [zaa (fun h=>absurd (of_decide_eq_true h) ci),if_neg (d_f ci),zab]
     exact ⟨_,rfl⟩
   obtain ⟨b,hb⟩:=hJ
   refine ⟨i,b,zaf ?_,hjl,h1,h2⟩
   simp only [zax]
   rw [if_neg (d_f (by omega)),hb]; rfl
def newS (l:List Cell) (row col:List UInt8) (t:Int):Cell×Bool:=match fnd l row col t with
 | some c=>(c,true)
 | none=>(cell0,false)
theorem newest_gw (l:List Cell) (hg:Gw l) (row col:List UInt8) (t:Int):cell_Newest l row col t=some (newS l row col t):=by
 have hlen:=hg.len
 obtain ⟨n,b,r1,r2,r3,r4⟩:=bsearchg_loop l hg ⟨row,col,t,false,[]⟩ l.length 0 l.length (by omega) (by omega) (by omega) (fun n hn=>by omega) (fun n h1 h2=>by omega)
 have r1':za6 l ⟨row,col,t,false,[]⟩=some ((n:Int),b):=r1
 have early:∀ j<n,at' row col t (zad l (j:Int))=false:=fun j hj=>by
  have:=(za1 _ _).1 (r3 j hj)
  cases ha:at' row col t (zad l (j:Int)) with
  | false=>rfl
  | true=>
   obtain ⟨a1,a2,a3⟩:=at_iff.1 ha
   unfold ah at this
   simp only [a1,a2,bl_irr] at this
   simp at this; omega
 unfold cell_Newest
 rw [r1',zab]
 dsimp only
 by_cases cn:n<l.length
 ·have hlt:(n:Int)<(l.length:Int):=by omega
  have hnb:=ahead_f.1 (r4 n (Nat.le_refl _) cn)
  rw [zaa (fun _=>by omega),zaa (fun _=>by omega)]
  by_cases cp:(zad l (n:Int)).Row=row∧(zad l (n:Int)).Col=col
  ·have hat:at' row col t (zad l (n:Int))=true:=at_iff.2 ⟨cp.1,cp.2,by
    by_cases ht:(zad l (n:Int)).Time≤t
    ·exact ht
    ·exact absurd (.inr ⟨cp.1,.inr ⟨cp.2,by dsimp only; omega⟩⟩) hnb⟩
   have hf:=fnd_some cn hat early
   rw [if_pos (by simp [hlt,cp.1,cp.2]),zaa (by omega)]
   unfold newS
   rw [hf]
  ·have hf:fnd l row col t=none:=fnd_none fun j hj=>by
    by_cases hjn:j<n
    ·exact early j hjn
    ·cases ha:at' row col t (zad l (j:Int)) with
     | false=>rfl
     | true=>
      exfalso
      obtain ⟨a1,a2,a3⟩:=at_iff.1 ha
      by_cases hjn2:j=n
      ·subst hjn2; exact cp ⟨a1,a2⟩
      ·have h3:=hg.at (i:=n) (j:=j) (by omega) hj
       unfold ah at h3 hnb
       rw [a1,a2] at h3
       dsimp only at hnb
       refine cp ?_
       rcases h3 with h3 | ⟨h3,h4⟩
       ·exact absurd (.inl h3) hnb
       ·refine ⟨h3,?_⟩
        rcases h4 with h4 | ⟨h4,_⟩
        ·exact absurd (.inr ⟨h3,.inl h4⟩) hnb
        ·exact h4
   rw [if_neg (by simp; exact fun _ h1 h2=>cp ⟨h1,h2⟩)]
   unfold newS
   rw [hf]; rfl
 ·have hlt:¬ (n:Int)<(l.length:Int):=by omega
  have hf:fnd l row col t=none:=fnd_none fun j hj=>early j (by omega)
  rw [zaa (fun h=>absurd (of_decide_eq_true h) hlt),zaa (fun h=>by simp [hlt] at h),if_neg (by simp [hlt])]
  unfold newS
  rw [hf]; rfl
noncomputable def getF (t:Tablet) (time:Int):Fault:=
 if ¬ (tabF t).Code=0 then tabF t else if time<0∨1000000000<time then ⟨3,-1⟩ else if time<t.Since then ⟨12,-1⟩ else ⟨0,0⟩
noncomputable def getS (t:Tablet) (row col:List UInt8) (time:Int):List UInt8×Bool×Fault:=
 if ¬ (getF t time).Code=0 then ([],false,getF t time) else ((newS (allT t) row col time).1.Value,(newS (allT t) row col time).2 && !(newS (allT t) row col time).1.Gone,⟨0,0⟩)
theorem get_eq (t:Tablet) (row col:List UInt8) (time:Int):tablet_Get t row col time=some (getS t row col time):=by
 unfold tablet_Get getS getF
 rw [load_eq,zab]
 by_cases h1:(headT t).Code=0
 ·rw [loadS_ok h1]
  dsimp only [sm]
  have hf:tabF t=fillF (memT t) (filT t):=by unfold tabF; rw [if_neg (not_not_intro h1)]
  rw [hf]
  by_cases h2:(fillF (memT t) (filT t)).Code=0
  ·have hz:(tabF t).Code=0:=by rw [hf]; exact h2
   have hT:=tabF_good hz
   have h00:fillF (memT t) (filT t)=⟨0,0⟩:=by rw [← hf]; exact hT.f
   rw [h00]
   by_cases h3:time<0∨1000000000<time
   ·rw [if_pos (by simp only [Bool.and_eq_true,Bool.or_eq_true,decide_eq_true_eq]; exact ⟨trivial,h3⟩),if_pos h3]
    dsimp only [lt,zbq]
    rw [zab]
    dsimp only
    rw [if_neg (by simp),zab]
    dsimp only
    rw [if_pos (by simp),if_neg (show ¬ ¬ (0:Int)=0 by simp),if_pos (by simp)]
   ·rw [if_neg (by simp only [Bool.and_eq_true,Bool.or_eq_true,decide_eq_true_eq]; exact fun q=>h3 q.2),zab,if_neg h3]
    dsimp only [lt]
    rw [if_pos (d_t rfl)]
    unfold tablet_tab_early zbq
    by_cases h4:time<t.Since
    ·rw [if_pos (d_t h4),zab,if_pos h4]
     dsimp only [lt]
     simp
    ·rw [if_neg (d_f h4),zab,if_neg h4]
     dsimp only
     obtain ⟨f1,f2⟩:=filT_len hT
     rw [if_neg (by simp),all_eq _ _ _ _ _ _ _ _ _ (by have:=hT.mem; omega) f1 f2,zab]
     dsimp only
     rw [show allS (memT t) (filT t)=allT t from rfl,newest_gw _ (all_gw hT),zab]
     simp
  ·rw [if_neg (by simp [h2]),zab]
   dsimp only
   rw [if_neg (d_f h2),zab]
   dsimp only
   rw [if_pos (n_t h2),if_pos h2,if_pos h2]
 ·have hf:tabF t=headT t:=by unfold tabF; rw [if_pos h1]
  rw [loadS_bad h1,hf]
  dsimp only [sm]
  rw [if_neg (by simp [h1]),zab]
  dsimp only
  rw [if_neg (d_f h1),zab]
  dsimp only
  rw [if_pos (n_t h1),if_pos h1,if_pos h1]
theorem tcheck_eq (t:Tablet):tablet_Check t=some (tabF t):=by
 unfold tablet_Check tabF
 rw [load_eq,zab]
 by_cases h1:(headT t).Code=0
 ·rw [loadS_ok h1,if_neg (not_not_intro h1)]; rfl
 ·rw [loadS_bad h1,if_pos h1]; rfl
theorem dsP_app (x:List UInt8):∀ (l:List (List UInt8)) (y:List UInt8),dsP y (l++[x])=if x=(y::l).getLast (by simp) then dsP y l else dsP y l++[x]
 | [],y=>by by_cases c:x=y <;> simp [dsP,c]
 | z::l,y=>by
  rw [List.cons_append,dsP,dsP,dsP_app x l z]
  simp only [List.getLast_cons (List.cons_ne_nil z l)]
  by_cases c:z=y <;> by_cases d:x=(z::l).getLast (by simp) <;> simp [c,d]
theorem rows_ds (l:List Cell):∀ k,k≤l.length→rowsK l k=dsD ((l.take k).map fun c=>c.Row)
 | 0,_=>by simp [rowsK,dsD]
 | 1,h=>by
  rw [rowsK,if_pos (.inl rfl),lget_take l 0 h]; rfl
 | k+2,h=>by
  obtain ⟨h1,h2,_⟩:=rowsK_last l k
  have ih:=rows_ds l (k+1) (by omega)
  rw [rowsK,h2,lget_take l (k+1) (by omega),List.map_append]
  have hm:(l.take (k+1)).map (fun c=>c.Row)=(l.take k).map (fun c=>c.Row)++[(zad l (k:Int)).Row]:=by rw [lget_take l k (by omega),List.map_append]; rfl
  cases e:(l.take (k+1)).map (fun c=>c.Row) with
  | nil=>rw [hm] at e; simp at e
  | cons y t=>
   have hl:(y::t).getLast (by simp)=(zad l (k:Int)).Row:=by
    have:∀ (m:List (List UInt8)) (hne:m≠[]),m=(l.take k).map (fun c=>c.Row)++[(zad l (k:Int)).Row]→m.getLast hne=(zad l (k:Int)).Row:=fun m hne hh=>by subst hh; simp
    exact this _ _ (e▸hm)
   rw [ih,e,List.cons_append,dsD,dsD]
   show _=y::dsP y (t++[(zad l ((k+1:Nat):Int)).Row])
   rw [dsP_app,hl]
   by_cases c:(zad l (k:Int)).Row=(zad l ((k+1:Nat):Int)).Row
   ·rw [if_neg (by rw [← dsD,← e,← ih]; exact fun q=>q.elim h1 (fun w=>w c)),if_pos c.symm]
   ·rw [if_pos (.inr c),if_neg (fun q=>c q.symm)]; rfl
theorem rrows_ds (l:List Cell) (hl:l.length≤100000):R_RowsOf_v1 l=some (dsD (l.map fun c=>c.Row)):=by
 have:R_RowsOf_v1 l=some (rowsK l l.length):=rrows_eq l hl
 rw [this,rows_ds l _ (Nat.le_refl _),List.take_length]
theorem f_same (f:Fault):(!(decide (f.Code=f.Code)&&(decide (f.At=f.At)&&true)))=false:=by simp
theorem head_few {t:Tablet} (h:(headT t).Code=0):t.Files.length≤10:=by
 apply Nat.le_of_not_lt
 intro q
 unfold headT at h
 by_cases c1:t.Done<0∨1000000000<t.Done∨t.Since<0∨1000000000<t.Since
 ·rw [if_pos c1] at h; cases h
 ·rw [if_neg c1,if_pos q] at h; cases h
theorem few_all {t:Tablet} (h:Few t) (hh:(headT t).Code=0):(allT t).length≤100000:=by
 have hk:=head_few hh
 have hs:=bodies_size t.Log.Bytes
 have hl:=sizeF_len (bodies t.Log.Bytes)
 obtain ⟨_,h2,_⟩:=nts_le (bodies t.Log.Bytes) [] 0
 have hg:=(logd_le t.Log.Bytes).2.2
 have hlog:=h.log
 have hn:(notT t).length≤3500:=by
  show (nts [] 0 (bodies t.Log.Bytes)).1.length≤3500
  rw [List.length_nil] at h2; omega
 have ha:=abv_len t.Done (notT t)
 have hm0:=allC_len (abv t.Done (notT t)) fun n h=>(hg n (abv_sub t.Done _ n h)).len
 have hf:=fil_flat t.Files
 have h3:=firsts_len (allC (abv t.Done (notT t)))
 have h4:=firsts_len (memT t++(filT t).flatten)
 have h5:=h.files
 have h6:(memT t).length≤(allC (abv t.Done (notT t))).length:=h3
 rw [List.length_append] at h4
 have h7:(filT t).flatten.length≤500*t.Files.length:=hf
 show (firsts (memT t++(filT t).flatten)).length≤100000
 omega
theorem code_val {c:Cell} (h:zav c=0) (hg:c.Gone=true):c.Value=[]:=by
 unfold zav at h
 split at h
 ·cases h
 ·split at h
  ·cases h
  ·split at h
   ·cases h
   ·rename_i h3
    rw [hg] at h3
    simpa using h3
theorem all_code {t:Tablet} (h:TG t):∀ c∈allT t,zav c=0:=fun c hc=>by
 rcases List.mem_append.1 (firsts_mem hc) with q | q
 ·obtain ⟨n,h1,h2⟩:=allC_mem.1 (firsts_mem q)
  exact ((logd_le t.Log.Bytes).2.2 n (abv_sub t.Done _ n h1)).cells.code c h2
 ·obtain ⟨l,h1,h2⟩:=List.mem_flatten.1 q
  obtain ⟨b,hb,rfl⟩:=List.mem_map.1 h1
  exact (h.fil b hb).1.code c h2
theorem asks_rows (t:Tablet) (hA:(insS t).1.All.length≤100000):(ob (R_RowsOf_v1 (insS t).1.All) fun x15=>
      ob (
       if ((decide ((tabF t).Code=0))&&(decide ((x15.length:Int)<2)))=true then
        lt (R_F 6 0) fun x16=>
        some ((halveS t).2,x16)
       else
        some ((halveS t).2,tabF t)) fun (v5:Fault×Fault)=>
      if (!decide (v5.2.Code=0))=true then
       lt ((decide (v5.1.Code=v5.2.Code)&&(decide (v5.1.At=v5.2.At)&&true))&&(decide ((halveS t).1=([]:List UInt8)))) fun (v6:Bool)=>
       some v6
      else
       zan ((decide (v5.1.Code=0))=true→0≤w64 (Int.tdiv (x15.length:Int) 2)∧w64 (Int.tdiv (x15.length:Int) 2)<(x15.length:Int)) <|
       lt ((decide (v5.1.Code=0))&&(decide ((halveS t).1=(zad x15 (w64 (Int.tdiv (x15.length:Int) 2)))))) fun (v7:Bool)=>
       some v7)=some true:=by
 rw [rrows_ds _ hA,zab]
 by_cases c1:(tabF t).Code=0
 ·have hT:=tabF_good c1
  have hi:(insS t).1.All=allT t:=by unfold insS; rw [hT.head,if_neg (by simp)]
  rw [hi] at hA ⊢
  have hz:=hT.f
  have hr:dsD ((allT t).map fun c=>c.Row)=rowsT t:=rfl
  have hh:halveS t=if (rowsT t).length<2 then ([],⟨6,0⟩) else (zad (rowsT t) (((rowsT t).length / 2:Nat):Int),⟨0,0⟩):=by
   unfold halveS; rw [if_neg (not_not_intro c1)]
  rw [hr,hz,hh]
  have hrl:(rowsT t).length≤(allT t).length:=by have:=dsD_len ((allT t).map fun c=>c.Row); rw [List.length_map] at this; exact this
  by_cases c2:(rowsT t).length<2
  ·have e:((decide ((⟨0,0⟩:Fault).Code=0))&&(decide (((rowsT t).length:Int)<2)))=true:=by simp; omega
   rw [if_pos c2,if_pos e]
   dsimp only [lt,R_F]
   rw [zab]
   simp
  ·have hw:w64 (Int.tdiv ((rowsT t).length:Int) 2)=(((rowsT t).length / 2:Nat):Int):=by
    have:Int.tdiv ((rowsT t).length:Int) 2=(((rowsT t).length / 2:Nat):Int):=by
     rw [Int.tdiv_eq_ediv_of_nonneg (by omega)]; omega
    rw [this,zag (by omega) (by omega)]
   have e:¬ ((decide ((⟨0,0⟩:Fault).Code=0))&&(decide (((rowsT t).length:Int)<2)))=true:=by simp; omega
   rw [if_neg c2,if_neg e,zab]
   dsimp only
   rw [if_neg (by simp),hw,zaa (fun _=>by omega)]
   dsimp only [lt]
   simp
 ·have hh:halveS t=([],tabF t):=by unfold halveS; rw [if_pos c1]
  rw [if_neg (by simp [c1]),zab,hh]
  dsimp only [lt]
  rw [if_pos (n_t c1)]
  simp
theorem asks_tail (t:Tablet) (a:Ask) (hA:(insS t).1.All.length≤100000) :
     (ob (
      if (decide ((tabF t).Code=0))=true then
       lt (R_AskFault a) fun x12=>
       some (t,a,(scanS t a).2,(halveS t).2,(insS t).1,tabF t,x12)
      else
       some (t,a,(scanS t a).2,(halveS t).2,(insS t).1,tabF t,tabF t)) fun (v3:Tablet×Ask×Fault×Fault×Inside×Fault×Fault)=>
     ob (
      if ((decide (v3.2.2.2.2.2.2.Code=0))&&(decide (v3.2.1.Time<v3.1.Since)))=true then
       lt (R_F 12 (-1)) fun x13=>
       some (v3.2.1,v3.2.2.1,v3.2.2.2.1,v3.2.2.2.2.1,v3.2.2.2.2.2.1,x13)
      else
       some (v3.2.1,v3.2.2.1,v3.2.2.2.1,v3.2.2.2.2.1,v3.2.2.2.2.2.1,v3.2.2.2.2.2.2)) fun (v4:Ask×Fault×Fault×Inside×Fault×Fault)=>
     ob (law_cellsAs (scanS t a).1 v4.2.1 v4.2.2.2.2.2 v4.2.2.2.1 v4.1) fun x14=>
     if (!x14)=true then
      some false
     else
      ob (R_RowsOf_v1 v4.2.2.2.1.All) fun x15=>
      ob (
       if ((decide (v4.2.2.2.2.1.Code=0))&&(decide ((x15.length:Int)<2)))=true then
        lt (R_F 6 0) fun x16=>
        some (v4.2.2.1,x16)
       else
        some (v4.2.2.1,v4.2.2.2.2.1)) fun (v5:Fault×Fault)=>
      if (!decide (v5.2.Code=0))=true then
       lt ((decide (v5.1.Code=v5.2.Code)&&(decide (v5.1.At=v5.2.At)&&true))&&(decide ((halveS t).1=([]:List UInt8)))) fun (v6:Bool)=>
       some v6
      else
       zan ((decide (v5.1.Code=0))=true→0≤w64 (Int.tdiv (x15.length:Int) 2)∧w64 (Int.tdiv (x15.length:Int) 2)<(x15.length:Int)) <|
       lt ((decide (v5.1.Code=0))&&(decide ((halveS t).1=(zad x15 (w64 (Int.tdiv (x15.length:Int) 2)))))) fun (v7:Bool)=>
       some v7)=some true:=by
 have hr:=asks_rows t hA
 have hbad:∀ w:Fault,¬ w.Code=0→law_cellsAs [] w w (insS t).1 a=some true:=fun w hw=>by
  unfold law_cellsAs
  rw [f_same,if_neg (by simp),if_pos (n_t hw)]; simp
 by_cases c1:(tabF t).Code=0
 ·have hT:=tabF_good c1
  have hi:(insS t).1.All=allT t:=by unfold insS; rw [hT.head,if_neg (by simp)]
  rw [if_pos (d_t c1),rasked_eq]
  dsimp only [lt]
  rw [zab]
  dsimp only
  by_cases c2:(askF a).Code=0
  ·obtain ⟨e2,_,_,hm,hm2⟩:=askF_good c2
   by_cases c3:a.Time<t.Since
   ·have hs:scanS t a=([],⟨12,-1⟩):=by unfold scanS; rw [if_neg (not_not_intro c1),if_neg (not_not_intro c2),if_pos c3]
    rw [if_pos (by simp [c2,c3]),hs]
    dsimp only [R_F]
    rw [zab]
    dsimp only
    rw [hbad _ (by simp),zab,if_neg (by simp)]
    exact hr
   ·have hs:scanS t a=(((allT t).filter (vis (allT t) a)).take a.Many.toNat,⟨0,0⟩):=by unfold scanS; rw [if_neg (not_not_intro c1),if_neg (not_not_intro c2),if_neg c3]
    rw [if_neg (by simp [c3]),hs,zab]
    dsimp only
    rw [e2]
    have hcs:law_cellsAs (((allT t).filter (vis (allT t) a)).take a.Many.toNat) ⟨0,0⟩ ⟨0,0⟩ (insS t).1 a=some true:=by
     unfold law_cellsAs law_TabletAsks_1
     rw [f_same,if_neg (by simp),if_neg (by simp),hi,scanned_eq _ (all_gw hT) a hm,zab,zab,sameCells_self _ (by
      have h1:=List.length_filter_le (vis (allT t) a) (allT t)
      have h2:=hT.all
      rw [List.length_take]; omega),zab]
    rw [hcs,zab,if_neg (by simp)]
    exact hr
  ·have hs:scanS t a=([],askF a):=by unfold scanS; rw [if_neg (not_not_intro c1),if_pos c2]
   rw [if_neg (by simp [c2]),hs,zab]
   dsimp only
   rw [hbad _ c2,zab,if_neg (by simp)]
   exact hr
 ·have hs:scanS t a=([],tabF t):=by unfold scanS; rw [if_pos c1]
  rw [if_neg (d_f c1),zab]
  dsimp only
  rw [if_neg (by simp [c1]),hs,zab]
  dsimp only
  rw [hbad _ c1,zab,if_neg (by simp)]
  exact hr
theorem TabletAsks_eq (t:Tablet) (row col:List UInt8) (time:Int) (a:Ask) (h0:t.Log.Bytes.length≤140737488351232) (hl:t.Files.length≤140737488351232) (hb:∀ b∈t.Files,b.length≤140737488351232):law_TabletAsks t row col time a=some true:=by
 obtain ⟨b,hv,hfew⟩:=vast_eq t h0 hl hb
 unfold law_TabletAsks
 rw [tabBegun,zab,if_neg (by decide),hv,zab]
 cases b with
 | true=>rw [if_pos rfl]
 | false=>
  have hF:=hfew rfl
  rw [if_neg (by decide),ownT_eq hF,zab,tcheck_eq,zab,get_eq,zab,scan_eq,zab,halve_eq,zab,inside_eq,zab,insS_f]
  rw [f_same,if_pos (by simp),sameT_eq t t (by have:=hF.files; omega),zab,if_neg (by simp)]
  have hgw:Gw (insS t).1.All:=by
   unfold insS
   by_cases c:(headT t).Code=0
   ·rw [if_neg (not_not_intro c)]; exact ⟨few_all hF c,(firsts_ok _).1⟩
   ·rw [if_pos c]; exact ⟨by simp,.nil⟩
  have ht:=asks_tail t a hgw.len
  by_cases c1:(tabF t).Code=0
  ·have hT:=tabF_good c1
   have hi:(insS t).1.All=allT t:=by unfold insS; rw [hT.head,if_neg (by simp)]
   by_cases c2:time<0∨1000000000<time
   ·have hg:getS t row col time=([],false,⟨3,-1⟩):=by unfold getS getF; rw [if_neg (not_not_intro c1),if_pos c2,if_pos (by simp)]
    rw [if_pos (by simp only [Bool.and_eq_true,Bool.or_eq_true,decide_eq_true_eq]; exact ⟨c1,c2⟩),hg]
    dsimp only [lt,R_F]
    rw [zab]
    dsimp only
    rw [if_neg (by simp),zab]
    dsimp only
    rw [seen_eq _ hgw,zab,if_pos (by simp),zab]
    dsimp only
    rw [if_neg (by simp)]
    exact ht
   ·rw [if_neg (by simp only [Bool.and_eq_true,Bool.or_eq_true,decide_eq_true_eq]; exact fun q=>c2 q.2),zab]
    dsimp only
    by_cases c3:time<t.Since
    ·have hg:getS t row col time=([],false,⟨12,-1⟩):=by unfold getS getF; rw [if_neg (not_not_intro c1),if_neg c2,if_pos c3,if_pos (by simp)]
     rw [if_pos (by simp [c1,c3]),hg]
     dsimp only [lt,R_F]
     rw [zab]
     dsimp only
     rw [seen_eq _ hgw,zab,if_pos (by simp),zab]
     dsimp only
     rw [if_neg (by simp)]
     exact ht
    ·have hg:getS t row col time=((newS (allT t) row col time).1.Value,(newS (allT t) row col time).2 && !(newS (allT t) row col time).1.Gone,⟨0,0⟩):=by unfold getS getF; rw [if_neg (not_not_intro c1),if_neg c2,if_neg c3,if_neg (by simp)]
     rw [if_neg (by simp [c3]),hg,zab]
     dsimp only
     rw [seen_eq _ hgw,zab,if_neg (n_f c1),zab,hi]
     dsimp only
     have hs:(newS (allT t) row col time).1.Value=(seenS (allT t) row col time).1.Value∧((newS (allT t) row col time).2 && !(newS (allT t) row col time).1.Gone)=(seenS (allT t) row col time).2:=by
      unfold newS seenS
      cases hfd:fnd (allT t) row col time with
      | none=>exact ⟨rfl,rfl⟩
      | some c=>
       dsimp only
       have hc:=(fnd_at hfd).1
       cases hcg:c.Gone with
       | true=>exact ⟨code_val (all_code hT c hc) hcg,by simp [hcg]⟩
       | false=>exact ⟨by simp,by simp [hcg]⟩
     rw [hs.1,hs.2,if_neg (by simp [hT.f])]
     exact ht
  ·have hg:getS t row col time=([],false,tabF t):=by unfold getS getF; rw [if_pos c1,if_pos c1]
   rw [if_neg (by simp [c1]),hg,zab]
   dsimp only
   rw [if_neg (by simp [c1]),zab]
   dsimp only
   rw [seen_eq _ hgw,zab,if_pos (n_t c1),zab]
   dsimp only
   rw [if_neg (by simp)]
   exact ht
end G
end Go.Proofs.YticbfakiihfgmaaGreat
