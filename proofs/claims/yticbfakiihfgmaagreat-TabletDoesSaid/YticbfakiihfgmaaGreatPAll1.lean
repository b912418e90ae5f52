/- The plain law. -/
import Derived.Test.YticbfakiihfgmaaGreatPAll0
namespace Go.Proofs.YticbfakiihfgmaaGreat
open Go Go.Dm
set_option linter.unusedVariables false
set_option linter.unusedSimpArgs false
set_option linter.unusedSectionVars false
namespace G
def badC (x:List Cell×Fault) (row:List UInt8):Prop:=¬ x.2.Code=0∨x.1.length=0∨¬ (zaf x.1 0).Row=row
instance (x:List Cell×Fault) (row:List UInt8):Decidable (badC x row):=inferInstanceAs (Decidable (_∨_))
noncomputable def celP (L rows:List (List UInt8)):Nat→Nat→List Cell→List Int→Option (List Cell×List Int)
 | 0,_,acc,es=>some (acc,es)
 | m+1,k,acc,es=>if badC (readS (zaf L (k:Int))) (zaf rows (k:Int)) then none else celP L rows m (k+1) (acc++(readS (zaf L (k:Int))).1) (es++[((readS (zaf L (k:Int))).1.length:Int)])
theorem badC_iff (x:List Cell×Fault) (row:List UInt8):(((!decide (x.2.Code=0))||(decide ((x.1.length:Int)=0)))||(!decide (((zaf x.1 0).Row)=row)))=decide (badC x row):=by
 rw [Bool.eq_iff_iff,decide_eq_true_iff]
 unfold badC
 simp only [Bool.or_eq_true,decide_eq_true_eq,Bool.not_eq_true',decide_eq_false_iff_not]
 constructor
 ·rintro ((q | q) | q)
  ·exact .inl q
  ·exact .inr (.inl (by omega))
  ·exact .inr (.inr q)
 ·rintro (q | q | q)
  ·exact .inl (.inl q)
  ·exact .inl (.inr (by omega))
  ·exact .inr q
theorem goodC {x:List Cell×Fault} (q:(!((!decide (x.2.Code=0))||(decide ((x.1.length:Int)=0))))=true):0<x.1.length:=by
 simp only [Bool.not_eq_true',Bool.or_eq_false_iff,decide_eq_false_iff_not,Bool.not_eq_false'] at q
 omega
noncomputable def cellsO:Option (List Cell×List Int)→List Cell×Bool
 | some q=>(q.1,decide ((cellF q.1).Code=0))
 | none=>([],false)
theorem cells_loop (L rows:List (List UInt8)) (o2:List UInt8) (to:Nat) (ht:to≤L.length) (hr:to≤rows.length) (hL:to≤100000):∀ (m k:Nat) (acc:List Cell) (es:List Int),to - k=m→k≤to→acc.length≤60000*k→
  file_opened_cells_L1 (to:Int) (⟨L,rows,o2⟩,acc,(k:Int))=some (cellsO (celP L rows m k acc es))
 | 0,k,acc,es,e,hk,ha=>by
  refine zah ?_
  unfold zbw
  dsimp only
  rw [if_neg (d_f (by omega))]
  unfold zet
  rw [check_eq,zab,celP]; rfl
 | m+1,k,acc,es,e,hk,ha=>by
  have hw:w64 ((k:Int)+1)=((k+1:Nat):Int):=by rw [zai (by omega) (by omega)]; omega
  have hl:=readS_len (zaf L (k:Int))
  rw [celP]
  by_cases c:badC (readS (zaf L (k:Int))) (zaf rows (k:Int))
  ·rw [if_pos c]
   refine zah ?_
   unfold zbw
   dsimp only
   rw [if_pos (d_t (by omega)),zaa (by omega),read_eq,zab,zaa (fun q=>by have:=goodC q; omega),zaa (fun q=>by have:=goodC q; omega),zaa (fun q=>by omega),badC_iff,if_pos (d_t c)]
   rfl
  ·rw [if_neg c]
   refine (zam ?_).trans (cells_loop L rows o2 to ht hr hL m (k+1) (acc++(readS (zaf L (k:Int))).1) (es++[((readS (zaf L (k:Int))).1.length:Int)]) (by omega) (by omega) (by rw [List.length_append]; omega))
   unfold zbw
   dsimp only
   rw [if_pos (d_t (by omega)),zaa (by omega),read_eq,zab,zaa (fun q=>by have:=goodC q; omega),zaa (fun q=>by have:=goodC q; omega),zaa (fun q=>by omega),badC_iff,if_neg (d_f c),zaa (by rw [List.length_append]; omega),hw]
theorem rcells_loop (L rows:List (List UInt8)) (z:Int) (f:Fault) (x:List UInt8) (h2:2≤L.length) (hr:L.length - 2≤rows.length) (hL:L.length≤100000):∀ (m k:Nat) (acc:List Cell) (es:List Int),L.length - 2 - k=m→k≤L.length - 2→acc.length≤60000*k→es.length≤k→
  R_OpenedFile_L1 (L,z) (f,x,rows) (f,acc,es,(k:Int))=match celP L rows m k acc es with
   | some q=>ze8 (L,z) (f,q.1,q.2)
   | none=>some ([],[],⟨5,2⟩)
 | 0,k,acc,es,e,hk,ha,he=>by
  have hw1:w64 ((L.length:Int) - 2)=(L.length:Int) - 2:=zai (by omega) (by omega)
  have hB:R_OpenedFile_B1 (L,z) (f,x,rows) (f,acc,es,(k:Int))=zem (ze8 (L,z) (f,acc,es)):=by
   unfold R_OpenedFile_B1
   dsimp only
   rw [hw1,if_neg (d_f (by omega))]
  unfold R_OpenedFile_L1
  rw [loopO_eq,hB,celP]
  dsimp only
  cases ze8 (L,z) (f,acc,es) <;> rfl
 | m+1,k,acc,es,e,hk,ha,he=>by
  have hw1:w64 ((L.length:Int) - 2)=(L.length:Int) - 2:=zai (by omega) (by omega)
  have hw:w64 ((k:Int)+1)=((k+1:Nat):Int):=by rw [zai (by omega) (by omega)]; omega
  have hl:=readS_len (zaf L (k:Int))
  rw [celP]
  by_cases c:badC (readS (zaf L (k:Int))) (zaf rows (k:Int))
  ·rw [if_pos c]
   refine zah ?_
   unfold R_OpenedFile_B1
   dsimp only
   rw [hw1,if_pos (d_t (by omega)),zaa (by omega),zaa (by omega),cellsOf_eq,zab,zaa (fun q=>by have:=goodC q; omega),zaa (fun q=>by have:=goodC q; omega),zaa (fun q=>by omega),zaa (fun q=>by omega),badC_iff,if_pos (d_t c)]
   rfl
  ·rw [if_neg c]
   refine (zam ?_).trans (rcells_loop L rows z f x h2 hr hL m (k+1) (acc++(readS (zaf L (k:Int))).1) (es++[((readS (zaf L (k:Int))).1.length:Int)]) (by omega) (by omega) (by rw [List.length_append]; omega) (by rw [List.length_append,List.length_singleton]; omega))
   unfold R_OpenedFile_B1
   dsimp only
   rw [hw1,if_pos (d_t (by omega)),zaa (by omega),zaa (by omega),cellsOf_eq,zab,zaa (fun q=>by have:=goodC q; omega),zaa (fun q=>by have:=goodC q; omega),zaa (fun q=>by omega),zaa (fun q=>by omega),badC_iff,if_neg (d_f c),zaa (by rw [List.length_append]; omega),zaa (by rw [List.length_append,List.length_singleton]; omega),hw]
noncomputable def endO (flt:List UInt8):Option (List Cell×List Int)→List Cell×List Int×Fault
 | none=>([],[],⟨5,2⟩)
 | some q=>if ¬ (cellF q.1).Code=0∨500<q.1.length then ([],[],⟨5,2⟩) else if filF q.1=flt then (q.1,q.2,⟨0,0⟩) else ([],[],⟨5,3⟩)
noncomputable def fileO (b:List UInt8):List Cell×List Int×Fault:=
 if 60000<b.length then ([],[],⟨8,0⟩)
 else if badO b then ([],[],⟨5,0⟩)
 else match idxO (opn b.length b [] 0).1 with
  | none=>([],[],⟨5,1⟩)
  | some rows=>endO (zaf (opn b.length b [] 0).1 (((opn b.length b [] 0).1.length:Int) - 1)) (celP (opn b.length b [] 0).1 rows ((opn b.length b [] 0).1.length - 2) 0 [] [])
theorem idxP_len (L:List (List UInt8)):∀ (m k:Nat) (x:List UInt8) (rows rs:List (List UInt8)),idxP L m k x rows=some rs→rs.length=rows.length+m
 | 0,k,x,rows,rs,h=>by
  rw [idxP] at h
  split at h
  ·cases h; rfl
  ·cases h
 | m+1,k,x,rows,rs,h=>by
  rw [idxP] at h
  split at h
  ·cases h
  ·split at h
   ·cases h
   ·split at h
    ·have:=idxP_len L m _ _ _ _ h
     rw [List.length_append,List.length_singleton] at this; omega
    ·cases h
theorem celP_take (L rows:List (List UInt8)) (n:Nat) (hn:n≤L.length):∀ (m k:Nat) (acc:List Cell) (es:List Int),k+m=n→celP (L.take n) rows m k acc es=celP L rows m k acc es
 | 0,k,acc,es,_=>rfl
 | m+1,k,acc,es,e=>by
  have hg:zaf (L.take n) (k:Int)=zaf L (k:Int):=by
   have:=lget_ltake L (n:Int) (k:Int) (by omega)
   rwa [zce] at this
  rw [celP,celP,hg]
  split
  ·rfl
  ·exact celP_take L rows n hn m (k+1) _ _ (by omega)
theorem rfil_small {l:List Cell} (h:(cellF l).Code=0):R_FilterOf l=some (filF l)∧file_filter l=some (filF l):=by
 have hG:=cellF_good h
 have hl:=hG.len
 have hr:∀ c∈l,c.Row.length≤140737488351232:=fun c hc=>by have:=(code_len (hG.code c hc)).1; omega
 exact ⟨rfilter_eq l (by omega) hr,filter_eq l (by omega) hr⟩
theorem ropen_eq (b:List UInt8):R_OpenedFile b=some (fileO b):=by
 unfold R_OpenedFile fileO
 by_cases c:60000<b.length
 ·rw [if_pos (d_t (by omega)),if_pos c]; rfl
 ·have hlen:=opn_len b.length b [] 0
  have hmem:=fun s h=>opn_mem b.length b [] 0 s h
  obtain ⟨L,n,hop⟩:∃ L n,opn b.length b [] 0=(L,n):=⟨_,_,rfl⟩
  have hb:badO b↔(n≠b.length∨L.length<2∨(zaf L ((L.length:Int) - 1)).length=0):=by unfold badO; rw [hop]
  rw [if_neg (d_f (by omega)),if_neg c,unframed_eq _ (by omega),zab,hop]
  rw [hop] at hlen hmem
  dsimp only at hlen hmem ⊢
  have hL:L.length≤60000:=by have:=hlen.1; simp at this; omega
  have hw1:w64 ((L.length:Int) - 2)=(L.length:Int) - 2:=zai (by omega) (by omega)
  have hw2:w64 ((L.length:Int) - 2+1)=(L.length:Int) - 1:=by rw [zai (by omega) (by omega)]; omega
  rw [hw1,hw2]
  have hcond:(((!decide ((n:Int)=(b.length:Int)))||(decide ((L.length:Int) - 2<0)))||(decide (((zaf L ((L.length:Int) - 1)).length:Int)=0)))=decide (n≠b.length∨L.length<2∨(zaf L ((L.length:Int) - 1)).length=0):=by
   rw [Bool.eq_iff_iff]
   simp only [Bool.or_eq_true,decide_eq_true_eq,Bool.not_eq_true',decide_eq_false_iff_not]
   omega
  have ha:(!((!decide ((n:Int)=(b.length:Int)))||(decide ((L.length:Int) - 2<0))))=true→0≤(L.length:Int) - 1∧(L.length:Int) - 1<(L.length:Int):=fun q=>by
   simp only [Bool.not_eq_true',Bool.or_eq_false_iff,decide_eq_false_iff_not,Bool.not_eq_false'] at q
   omega
  rw [hcond,zaa ha,zaa ha]
  by_cases cb:n≠b.length∨L.length<2∨(zaf L ((L.length:Int) - 1)).length=0
  ·rw [if_pos (d_t cb),if_pos (hb.2 cb)]; rfl
  ·rw [if_neg (d_f cb),if_neg (fun q=>cb (hb.1 q)),zaa (by omega),zaa (by omega)]
   have hs:∀ s∈L,s.length≤100000:=fun s h=>by
    rcases hmem s h with q | q
    ·cases q
    ·omega
   have h0:=ridx (L:=L) (by omega) (by omega) hs (n:Int) ⟨0,0⟩ (L.length - 2) 0 (zaf L ((L.length:Int) - 2)) [] (by omega) (by omega) (by simp) (hs _ (zcy L _ (by omega)))
   refine h0.trans ?_
   unfold idxO
   cases hi:idxP L (L.length - 2) 0 (zaf L ((L.length:Int) - 2)) [] with
   | none=>rfl
   | some rows=>
    have hrl:=idxP_len L _ _ _ _ _ hi
    dsimp only
    refine (rcells_loop L rows (n:Int) ⟨0,0⟩ [] (by omega) (by simp at hrl; omega) (by omega) (L.length - 2) 0 [] [] (by omega) (by omega) (by simp) (by simp)).trans ?_
    cases celP L rows (L.length - 2) 0 [] [] with
    | none=>rfl
    | some q=>
     dsimp only
     unfold ze8 endO
     dsimp only
     rw [rcheck_eq,zab,hw1,hw2]
     by_cases cc:¬ (cellF q.1).Code=0∨500<q.1.length
     ·rw [if_pos (by simp only [Bool.or_eq_true,decide_eq_true_eq,Bool.not_eq_true',decide_eq_false_iff_not]; omega),if_pos cc]; rfl
     ·have hz:(cellF q.1).Code=0:=Decidable.not_not.1 (fun x=>cc (.inl x))
      rw [if_neg (by simp only [Bool.or_eq_true,decide_eq_true_eq,Bool.not_eq_true',decide_eq_false_iff_not]; omega),if_neg cc,(rfil_small hz).1,zab,zaa (by omega),zaa (by omega)]
      dsimp only [lt,R_Same]
      by_cases cf:filF q.1=zaf L ((L.length:Int) - 1)
      ·rw [if_neg (by simp [cf]),if_pos cf]
      ·rw [if_pos (by simp [cf]),if_neg cf]; rfl
theorem badO_f {b:List UInt8} (h:¬ badO b):2≤(opn b.length b [] 0).1.length:=by
 apply Decidable.byContradiction
 intro q
 exact h (.inr (.inl (by omega)))
theorem open_any (b:List UInt8):file_Open b=some ((fileO b).1,(fileO b).2.2):=by
 unfold file_Open
 rw [open_all,zab]
 unfold openS fileO
 by_cases c:60000<b.length
 ·rw [if_pos c,if_pos c]
  dsimp only
  rw [if_pos (by simp)]
 ·rw [if_neg c,if_neg c]
  by_cases cb:badO b
  ·rw [if_pos cb,if_pos cb]
   dsimp only
   rw [if_pos (by simp)]
  ·have h2:=badO_f cb
   have hlen:=opn_len b.length b [] 0
   rw [if_neg cb,if_neg cb]
   unfold idxO
   generalize (opn b.length b [] 0).1=L at *
   have hL:L.length≤60000:=by have:=hlen.1; simp at this; omega
   cases hi:idxP L (L.length - 2) 0 (zaf L ((L.length:Int) - 2)) [] with
   | none=>
    unfold opI
    dsimp only
    rw [if_pos (by simp)]
   | some rows=>
    have hrl:=idxP_len L _ _ _ _ _ hi
    have hrl:rows.length=L.length - 2:=by simpa using hrl
    have htl:(L.take (L.length - 2)).length=L.length - 2:=by rw [List.length_take]; omega
    unfold opI
    dsimp only
    rw [if_neg (by simp),zaa rfl]
    have hcl:ze3 (L.take (L.length - 2)) rows (zaf L ((L.length:Int) - 1)) 0 ((L.take (L.length - 2)).length:Int)=some (cellsO (celP L rows (L.length - 2) 0 [] [])):=by
     rw [htl]
     have:=cells_loop (L.take (L.length - 2)) rows (zaf L ((L.length:Int) - 1)) (L.length - 2) (by omega) (by omega) (by omega) (L.length - 2) 0 [] [] (by omega) (by omega) (by simp)
     rw [celP_take L rows (L.length - 2) (by omega) _ _ _ _ (by omega)] at this
     exact this
    rw [hcl,zab]
    cases hq:celP L rows (L.length - 2) 0 [] [] with
    | none=>
     unfold cellsO endO
     dsimp only
     rw [if_pos (by simp)]; rfl
    | some q=>
     unfold cellsO endO
     dsimp only
     by_cases cc:¬ (cellF q.1).Code=0∨500<q.1.length
     ·rw [if_pos (by simp only [Bool.or_eq_true,decide_eq_true_eq,Bool.not_eq_true',decide_eq_false_iff_not]; omega),if_pos cc]; rfl
     ·have hz:(cellF q.1).Code=0:=Decidable.not_not.1 (fun x=>cc (.inl x))
      have hl:=(cellF_good hz).len
      have hN:=filN_bd q.1
      rw [if_neg (by simp only [Bool.or_eq_true,decide_eq_true_eq,Bool.not_eq_true',decide_eq_false_iff_not]; omega),if_neg cc,(rfil_small hz).2,zab,equal_eq _ _ (by unfold filF; rw [zea]; omega),zab]
      by_cases cf:filF q.1=zaf L ((L.length:Int) - 1)
      ·rw [if_neg (by simp [cf]),if_pos cf]
      ·rw [if_pos (by simp [cf]),if_neg cf]; rfl
def allC (l:List Note):List Cell:=(l.reverse.map (fun x=>x.Cells)).flatten
theorem allC_cons (n:Note) (l:List Note):allC (n::l)=allC l++n.Cells:=by simp [allC]
theorem allC_append (a b:List Note):allC (a++b)=allC b++allC a:=by simp [allC]
theorem allC_mem {l:List Note} {c:Cell}:c∈allC l↔∃ n∈l,c∈n.Cells:=by
 simp only [allC,List.mem_flatten,List.mem_map,List.mem_reverse]
 exact ⟨fun ⟨x,⟨n,h1,h2⟩,h3⟩=>⟨n,h1,by rw [h2]; exact h3⟩,fun ⟨n,h1,h2⟩=>⟨n.Cells,⟨n,h1,rfl⟩,h2⟩⟩
theorem allC_len:∀ (l:List Note),(∀ n∈l,n.Cells.length≤20)→(allC l).length≤20*l.length
 | [],_=>by simp [allC]
 | n::l,h=>by
  have h1:=allC_len l fun m hm=>h m (List.mem_cons_of_mem _ hm)
  have h2:=h n (List.mem_cons_self ..)
  rw [allC_cons,List.length_append,List.length_cons]
  omega
theorem put_eq (l:List Cell) (ns:List Note) (hl:l.length≤1000000) (hn:ns.length≤1000000) (hc:(allC ns).length≤100000000):wal_Put l ns=some (firsts (allC ns++l)):=by
 have hf:(ns.reverse.map (fun x=>x.Cells)++[l]).flatten=allC ns++l:=by simp [allC]
 unfold wal_Put
 rw [zaa (by omega),merge_eq _ (by rw [hf,List.length_append]; omega) (by simp; omega),hf]
theorem stab_all:∀ (l:List Note),(∀ n∈l,n.Cells.Pairwise ah)→Stab (l.map (fun x=>x.Cells)).flatten.reverse (allC l)
 | [],_=>fun _=>rfl
 | n::l,h=>by
  have h1:=stab_all l fun m hm=>h m (List.mem_cons_of_mem _ hm)
  rw [List.map_cons,List.flatten_cons,List.reverse_append,allC_cons]
  exact h1.app (stab_rev (h n (List.mem_cons_self ..))).symm
theorem puts_eq (l:List Cell) (ns:List Note) (hs:l.Pairwise ah) (hl:l.length≤1000000) (hn:ns.length≤1000000) (hg:∀ n∈ns,NGood n):R_PutNotes l ns=some (firsts (allC ns++l)):=by
 have hcl:∀ n∈ns,n.Cells.length≤20:=fun n h=>(hg n h).len
 have hal:=allC_len ns hcl
 have e:firsts (allC ns++l)=firsts ((ns.map (fun x=>x.Cells)).flatten.reverse++l):=firsts_congr (Stab.app (stab_all ns fun n h=>(hg n h).cells.srt).symm (Stab.refl l))
 rw [e]
 have key:∀ (R D:List Note) (m x:List Cell),ns=D++R→Firsts m x→x.length≤1000000+20*D.length→R_PutNotes_L1 ns (x,(D.length:Int))=some (firsts ((R.map (fun x=>x.Cells)).flatten.reverse++m)):=by
  intro R
  induction R with
  | nil=>
   intro D m x h hF hx
   refine zah ?_
   unfold R_PutNotes_B1
   dsimp only
   rw [if_neg (d_f (by rw [h]; simp))]
   show some (Sum.inr x)=some (Sum.inr (firsts m))
   rw [firsts_is hF]
  | cons n R ih=>
   intro D m x h hF hx
   have hnl:n.Cells.length≤20:=hcl n (by rw [h]; simp)
   have hDl:D.length+(R.length+1)=ns.length:=by rw [h]; simp
   have hp:=rputs_eq x n.Cells m hF (by omega)
   have hget:zaf ns (D.length:Int)=n:=by rw [h,zb3 _ D.length (by simp)]; simp
   have h2:ns=(D++[n])++R:=by rw [h]; simp
   have hfl:(firsts (n.Cells.reverse++m)).length≤1000000+20*(D++[n]).length:=by
    obtain ⟨y,hy,hF2,hyl⟩:=rputs_loop n.Cells n.Cells [] m x rfl hF (by omega) (by omega)
    rw [← firsts_is hF2,List.length_append]
    simp only [List.length_cons,List.length_nil]
    omega
   have:=ih (D++[n]) (n.Cells.reverse++m) _ h2 (firsts_ok _) hfl
   refine (zam ?_).trans (this.trans (by simp))
   unfold R_PutNotes_B1
   dsimp only
   rw [if_pos (d_t (by omega)),zaa (by omega),hget,hp,zab]
   have:w64 ((D.length:Int)+1)=(((D++[n]).length:Nat):Int):=by rw [zai (by omega) (by omega)]; simp
   rw [this]
 exact key ns [] l l rfl (by have:=firsts_ok l; rw [firsts_self hs] at this; exact this) (by simp; omega)
def ixN (done:Int):List Note→Int→Int
 | [],_=>-1
 | n::l,i=>if done<n.Seq then i else ixN done l (i+1)
def abv (done:Int):List Note→List Note
 | []=>[]
 | n::l=>if done<n.Seq then n::l else abv done l
theorem ixN_abv (done:Int):∀ (l:List Note) (i:Int),(ixN done l i = -1∧abv done l=[])∨∃ j:Nat,j<l.length∧ixN done l i=i+j∧abv done l=l.drop j
 | [],_=>.inl ⟨rfl,rfl⟩
 | n::l,i=>by
  rw [ixN,abv]
  by_cases c:done<n.Seq
  ·rw [if_pos c,if_pos c]; exact .inr ⟨0,by simp,by simp,rfl⟩
  ·rw [if_neg c,if_neg c]
   rcases ixN_abv done l (i+1) with h | ⟨j,h1,h2,h3⟩
   ·exact .inl h
   ·exact .inr ⟨j+1,by simp; omega,by rw [h2]; omega,by rw [h3]; rfl⟩
theorem abv_sub (done:Int):∀ l:List Note,∀ n∈abv done l,n∈l
 | [],n,h=>h
 | m::l,n,h=>by
  rw [abv] at h
  split at h
  ·exact h
  ·exact List.mem_cons_of_mem _ (abv_sub done l n h)
theorem abv_len (done:Int):∀ l:List Note,(abv done l).length≤l.length
 | []=>Nat.le_refl _
 | m::l=>by
  rw [abv]
  split
  ·exact Nat.le_refl _
  ·have:=abv_len done l; simp; omega
theorem indexN_eq (a:List UInt8) (b:Int) (c:List (List UInt8)) (done d e:Int) (l:List Note) (f:List (List Cell)) (hl:l.length≤1000000):zcu a b c done d e l f=some (ixN done l 0):=by
 have key:∀ (m k:Nat),l.length - k=m→k≤l.length→zdf a b c done d e l f (k:Int)=some (ixN done (l.drop k) k):=by
  intro m
  induction m with
  | zero=>
   intro k hm hk
   have:k=l.length:=by omega
   subst this
   refine zah ?_
   unfold zbf
   rw [if_neg (d_f (by omega)),List.drop_length]; rfl
  | succ m ih=>
   intro k hm hk
   rw [zcp l k (by omega),ixN]
   have hB:zbf a b c done d e l f (k:Int)=if done<(zaf l (k:Int)).Seq then some (.inr (k:Int)) else some (.inl ((k+1:Nat):Int)):=by
    unfold zbf tablet_tab_fill_1
    rw [if_pos (d_t (by omega)),zaa (by omega),zaa (by omega)]
    dsimp only [lt]
    by_cases q:done<(zaf l (k:Int)).Seq
    ·rw [if_pos (d_t q),if_pos q]
    ·rw [if_neg (d_f q),if_neg q]
     have:w64 ((k:Int)+1)=((k+1:Nat):Int):=by rw [zai (by omega) (by omega)]; omega
     rw [this]
   by_cases q:done<(zaf l (k:Int)).Seq
   ·rw [if_pos q]
    exact zah (by rw [hB,if_pos q])
   ·rw [if_neg q]
    exact (zam (by rw [hB,if_neg q])).trans (ih (k+1) (by omega) (by omega))
 exact key l.length 0 (by omega) (by omega)
noncomputable def memS (done:Int) (l:List Note):List Cell:=firsts (allC (abv done l))
noncomputable def allS (mem:List Cell) (files:List (List Cell)):List Cell:=firsts (mem++files.flatten)
noncomputable def fillF (mem:List Cell) (files:List (List Cell)):Fault:=if 500<mem.length then ⟨9,-2⟩ else if 1000<(allS mem files).length then ⟨9,-1⟩ else ⟨0,0⟩
theorem all_eq (a:List UInt8) (b:Int) (c:List (List UInt8)) (done d e:Int) (l:List Note) (mem:List Cell) (files:List (List Cell)) (hm:mem.length≤1000000000) (hf:files.length≤1000) (hfl:files.flatten.length≤1000000000) :
  tablet_tab_all a b c done d e l mem files=some (allS mem files,mem):=by
 unfold tablet_tab_all tablet_tab_lists
 rw [zaa (by simp; omega),zab]
 dsimp only
 rw [merge_eq _ (by simp only [List.flatten_append,List.flatten_cons,List.flatten_nil,List.append_nil,List.length_append]; omega) (by simp; omega),zab]
 simp [allS]
theorem fill_eq (a:List UInt8) (b:Int) (c:List (List UInt8)) (done d e:Int) (l:List Note) (files:List (List Cell)) (hl:l.length≤1000000) (hg:∀ n∈l,NGood n) (hf:files.length≤1000) (hfl:files.flatten.length≤1000000000) :
  tablet_tab_fill a b c done d e l files=some (fillF (memS done l) files,a,b,c,done,d,l,e,memS done l):=by
 have hal:=allC_len (abv done l) fun n h=>(hg n (abv_sub done l n h)).len
 have hbl:=abv_len done l
 have hml:(memS done l).length≤1000000000:=by
  have:=firsts_len (allC (abv done l))
  unfold memS; omega
 unfold tablet_tab_fill
 rw [indexN_eq a b c done d e l files hl,zab]
 have hmem:(ob (if (decide (0≤ixN done l 0))=true then
   zaq (0≤ixN done l 0∧ixN done l 0≤(l.length:Int)) <|
   ob (wal_Put ([]:List Cell) (zdu l (ixN done l 0))) fun x1=>
   some (x1,(⟨0,0⟩:Fault))
  else
   some (([]:List Cell),(⟨0,0⟩:Fault))) fun (v:List Cell×Fault)=>some v)=some (memS done l,⟨0,0⟩):=by
  rcases ixN_abv done l 0 with ⟨h1,h2⟩ | ⟨j,h1,h2,h3⟩
  ·rw [h1,if_neg (by decide)]
   unfold memS
   rw [h2,zab]
   have:firsts (allC [])=[]:=firsts_self (l:=[]) .nil
   rw [this]
  ·rw [h2,if_pos (d_t (by omega)),zaa (by omega)]
   have e1:zdu l (0+(j:Int))=l.drop j:=by rw [Int.zero_add,zb0]
   rw [e1,put_eq [] _ (by simp) (by simp; omega) (by rw [← h3]; omega),zab,zab,List.append_nil]
   unfold memS
   rw [h3]
 have hmem':(if (decide (0≤ixN done l 0))=true then
   zaq (0≤ixN done l 0∧ixN done l 0≤(l.length:Int)) <|
   ob (wal_Put ([]:List Cell) (zdu l (ixN done l 0))) fun x1=>
   some (x1,(⟨0,0⟩:Fault))
  else
   some (([]:List Cell),(⟨0,0⟩:Fault)))=some (memS done l,⟨0,0⟩):=by
  rw [← hmem]
  generalize (if (decide (0≤ixN done l 0))=true then _ else _:Option (List Cell×Fault))=z
  cases z <;> rfl
 rw [hmem',zab]
 dsimp only
 unfold fillF
 by_cases c1:500<(memS done l).length
 ·rw [if_pos (d_t (by omega)),if_pos c1]; rfl
 ·rw [if_neg (d_f (by omega)),if_neg c1,all_eq a b c done d e l _ files hml hf hfl,zab]
  dsimp only
  by_cases c2:1000<(allS (memS done l) files).length
  ·rw [if_pos (d_t (by omega)),if_pos c2]; rfl
  ·rw [if_neg (d_f (by omega)),if_neg c2]
noncomputable def zc4 (t:Tablet):List Note:=(logd t.Log.Bytes).1
noncomputable def zdr (t:Tablet):Int:=if 0<(zc4 t).length then (zaf (zc4 t) (((zc4 t).length:Int) - 1)).Seq else t.Done
noncomputable def filT (t:Tablet):List (List Cell):=t.Files.map fun b=>(fileO b).1
noncomputable def memT (t:Tablet):List Cell:=memS t.Done (zc4 t)
noncomputable def allT (t:Tablet):List Cell:=allS (memT t) (filT t)
def badT (t:Tablet):Prop:=(logd t.Log.Bytes).2≠t.Log.Bytes.length∨(0<(zc4 t).length∧(t.Done+1<(zaf (zc4 t) 0).Seq∨(zaf (zc4 t) (((zc4 t).length:Int) - 1)).Seq<t.Done))
noncomputable def ldF:List (List UInt8)→Int→Fault
 | [],_=>⟨0,0⟩
 | b::l,i=>if (fileO b).2.2.Code=0 then ldF l (i+1) else ⟨(fileO b).2.2.Code,i⟩
open Classical in
noncomputable def headT (t:Tablet):Fault:=
 if t.Done<0∨1000000000<t.Done∨t.Since<0∨1000000000<t.Since then ⟨3,0⟩
 else if 10<t.Files.length then ⟨2,-1⟩
 else if ¬ (dF t.Log).Code=0 then ⟨(dF t.Log).Code,-2⟩
 else if badT t then ⟨11,-2⟩
 else ldF t.Files 0
noncomputable def loadS (t:Tablet):Fault⊕(List UInt8×Int×List (List UInt8)×Int×Int×List Note×Int×List Cell×List (List Cell)×Fault):=
 if ¬ (headT t).Code=0 then .inl (headT t) else .inr (t.Log.Bytes,t.Log.Kept,t.Files,t.Done,t.Since,zc4 t,zdr t,memT t,filT t,fillF (memT t) (filT t))
theorem fileO_good {b:List UInt8} (h:(fileO b).2.2.Code=0):Good (fileO b).1∧(fileO b).1.length≤500:=by
 unfold fileO at h ⊢
 split at h
 ·cases h
 ·split at h
  ·cases h
  ·rename_i c1 c2
   rw [if_neg c1,if_neg c2]
   split at h
   ·cases h
   ·rename_i rows e
    generalize celP _ _ _ _ _ _=z at h ⊢
    cases z with
    | none=>cases h
    | some q=>
     simp only [endO] at h ⊢
     split at h
     ·cases h
     ·rename_i c3
      rw [if_neg c3]
      split at h
      ·rename_i c4
       rw [if_pos c4]
       have c5:(cellF q.1).Code=0∧¬ 500<q.1.length:=⟨Classical.byContradiction fun w=>c3 (.inl w),fun w=>c3 (.inr w)⟩
       exact ⟨cellF_good c5.1,Nat.le_of_not_lt c5.2⟩
      ·cases h
theorem fileO_len (b:List UInt8):(fileO b).1.length≤500:=by
 by_cases h:(fileO b).2.2.Code=0
 ·exact (fileO_good h).2
 ·unfold fileO at h ⊢
  split
  ·simp
  ·split
   ·simp
   ·split
    ·simp
    ·rename_i c1 c2 _ rows e
     rw [if_neg c1,if_neg c2,e] at h
     dsimp only at h
     generalize celP _ _ _ _ _ _=z at h ⊢
     cases z with
     | none=>simp [endO]
     | some q=>
      simp only [endO] at h ⊢
      split
      ·simp
      ·rename_i c3
       rw [if_neg c3] at h
       split
       ·rename_i c4
        rw [if_pos c4] at h
        exact absurd rfl h
       ·simp
theorem fil_flat:∀ (l:List (List UInt8)),(l.map fun b=>(fileO b).1).flatten.length≤500*l.length
 | []=>by simp
 | b::l=>by
  have h1:=fil_flat l
  have h2:=fileO_len b
  rw [List.map_cons,List.flatten_cons,List.length_append,List.length_cons]
  omega
theorem load_loop (x4:List Note×Int) (v:Tablet×Fault×List UInt8×Int×List (List UInt8)×Int×Int×Int) (L:List (List UInt8)) (z:Fault) (hL:L.length≤10) (hn:x4.1.length≤1000000) (hg:∀ n∈x4.1,NGood n):∀ (m k:Nat),L.length - k=m→k≤L.length→ldF L 0=ldF (L.drop k) k→
  tablet_load_L1 x4 v (z,(L.take k).map (fun b=>(fileO b).1),L,(L.length:Int),(k:Int)) =
   some (if ¬ (ldF L 0).Code=0 then .inl (ldF L 0) else .inr (v.2.2.1,v.2.2.2.1,v.2.2.2.2.1,v.2.2.2.2.2.1,v.2.2.2.2.2.2.1,x4.1,v.2.2.2.2.2.2.2,memS v.2.2.2.2.2.1 x4.1,L.map (fun b=>(fileO b).1),fillF (memS v.2.2.2.2.2.1 x4.1) (L.map fun b=>(fileO b).1))):=by
 intro m
 induction m with
 | zero=>
  intro k e hk h0
  have hkl:k=L.length:=by omega
  subst hkl
  rw [List.drop_length] at h0
  have hz:ldF L 0=⟨0,0⟩:=h0
  have hfl:=fil_flat L
  refine zah ?_
  unfold tablet_load_B1 tablet_load_J1
  dsimp only
  rw [if_neg (d_f (by omega)),List.take_length,fill_eq _ _ _ _ _ _ _ _ hn hg (by simp; omega) (by omega),zab,hz,if_neg (by simp)]; rfl
 | succ m ih=>
  intro k e hk h0
  have hkl:k<L.length:=by omega
  have hw:w64 ((k:Int)+1)=((k+1:Nat):Int):=by rw [zai (by omega) (by omega)]; omega
  rw [zcp L k hkl,ldF] at h0
  have hop:=open_any (zaf L (k:Int))
  by_cases c:(fileO (zaf L (k:Int))).2.2.Code=0
  ·rw [if_pos c] at h0
   refine (zam ?_).trans (ih (k+1) (by omega) (by omega) h0)
   unfold tablet_load_B1
   dsimp only
   rw [if_pos (d_t (by omega)),zaa (by omega),hop,zab]
   dsimp only
   rw [if_neg (n_f c),zaa (by simp; omega),hw,lget_take L k hkl,List.map_append]; rfl
  ·rw [if_neg c] at h0
   refine zah ?_
   unfold tablet_load_B1
   dsimp only
   rw [if_pos (d_t (by omega)),zaa (by omega),hop,zab]
   dsimp only
   rw [if_pos (n_t c),h0,if_pos c]; rfl
theorem ldF_good:∀ (l:List (List UInt8)) (i:Int),(ldF l i).Code=0→ldF l i=⟨0,0⟩∧∀ b∈l,Good (fileO b).1
 | [],_,_=>⟨rfl,fun b h=>by cases h⟩
 | b::l,i,h=>by
  rw [ldF] at h ⊢
  by_cases c:(fileO b).2.2.Code=0
  ·rw [if_pos c] at h ⊢
   obtain ⟨h1,h2⟩:=ldF_good l (i+1) h
   exact ⟨h1,fun x hx=>(List.mem_cons.1 hx).elim (fun e=>by rw [e]; exact (fileO_good c).1) (h2 x)⟩
  ·rw [if_neg c] at h; exact absurd h c
theorem load_eq (t:Tablet):tablet_load t=some (loadS t):=by
 unfold tablet_load loadS headT
 by_cases c1:t.Done<0∨1000000000<t.Done∨t.Since<0∨1000000000<t.Since
 ·rw [if_pos (by simp; omega),if_pos c1,if_pos (by simp)]; rfl
 ·rw [if_neg (by simp; omega),if_neg c1]
  by_cases c2:10<t.Files.length
  ·rw [if_pos (d_t (by omega)),if_pos c2,if_pos (by simp)]; rfl
  ·rw [if_neg (d_f (by omega)),if_neg c2,dcheck_eq]
   dsimp only [lt]
   by_cases c3:(dF t.Log).Code=0
   ·have hd:=dF_good.1 c3
    have hlen:=hd.len
    obtain ⟨l1,l2,l3⟩:=logd_le t.Log.Bytes
    have hwn:w64 (((zc4 t).length:Int) - 1)=((zc4 t).length:Int) - 1:=zai (by omega) (by unfold zc4; omega)
    have hwd:w64 (t.Done+1)=t.Done+1:=zai (by omega) (by omega)
    rw [if_neg (n_f c3),if_neg (not_not_intro c3),wnotes_eq t.Log hlen,zab]
    dsimp only
    show zaq _ _=_
    have e1:(logd t.Log.Bytes).1=zc4 t:=rfl
    rw [e1] at l2 l3 ⊢
    rw [hwn,hwd]
    rw [zaa (fun h _=>⟨by omega,of_decide_eq_true h⟩),zaa (fun h _=>⟨by omega,of_decide_eq_true h⟩),zaa (fun _ h _=>by have:=of_decide_eq_true h; omega),zaa (fun _ h _=>by have:=of_decide_eq_true h; omega)]
    by_cases c4:badT t
    ·have hc:((!decide ((((logd t.Log.Bytes).2:Nat):Int)=(t.Log.Bytes.length:Int)))||((decide (0<((zc4 t).length:Int)))&&((decide (t.Done+1<(zaf (zc4 t) 0).Seq))||(decide ((zaf (zc4 t) (((zc4 t).length:Int) - 1)).Seq<t.Done)))))=true:=by
      unfold badT at c4
      simp only [Bool.or_eq_true,Bool.and_eq_true,decide_eq_true_eq,Bool.not_eq_true',decide_eq_false_iff_not]
      rcases c4 with h | ⟨h1,h2⟩
      ·exact .inl (by omega)
      ·exact .inr ⟨by omega,h2⟩
     rw [if_pos hc,if_pos c4,if_pos (by simp)]; rfl
    ·have hc:¬ ((!decide ((((logd t.Log.Bytes).2:Nat):Int)=(t.Log.Bytes.length:Int)))||((decide (0<((zc4 t).length:Int)))&&((decide (t.Done+1<(zaf (zc4 t) 0).Seq))||(decide ((zaf (zc4 t) (((zc4 t).length:Int) - 1)).Seq<t.Done)))))=true:=by
      intro h
      simp only [Bool.or_eq_true,Bool.and_eq_true,decide_eq_true_eq,Bool.not_eq_true',decide_eq_false_iff_not] at h
      refine c4 ?_
      unfold badT
      rcases h with h | ⟨h1,h2⟩
      ·exact .inl (by omega)
      ·exact .inr ⟨by omega,h2⟩
     rw [if_neg hc,if_neg c4]
     have hv:(if (decide (0<((zc4 t).length:Int)))=true then
       zaq (0≤((zc4 t).length:Int) - 1∧((zc4 t).length:Int) - 1<((zc4 t).length:Int)) <|
       zaq (0≤((zc4 t).length:Int) - 1∧((zc4 t).length:Int) - 1<((zc4 t).length:Int)) <|
       some (t,(⟨0,0⟩:Fault),t.Log.Bytes,t.Log.Kept,t.Files,t.Done,t.Since,(zaf (zc4 t) (((zc4 t).length:Int) - 1)).Seq)
      else
       some (t,(⟨0,0⟩:Fault),t.Log.Bytes,t.Log.Kept,t.Files,t.Done,t.Since,t.Done))=some (t,(⟨0,0⟩:Fault),t.Log.Bytes,t.Log.Kept,t.Files,t.Done,t.Since,zdr t):=by
      unfold zdr
      by_cases q:0<(zc4 t).length
      ·rw [if_pos (d_t (by omega)),zaa (by omega),zaa (by omega),if_pos q]
      ·rw [if_neg (d_f (by omega)),if_neg q]
     rw [hv,zab]
     dsimp only
     exact load_loop (zc4 t,(((logd t.Log.Bytes).2:Nat):Int)) (t,⟨0,0⟩,t.Log.Bytes,t.Log.Kept,t.Files,t.Done,t.Since,zdr t) t.Files ⟨0,0⟩ (by omega) (by show (zc4 t).length≤1000000; omega) l3 t.Files.length 0 (by omega) (by omega) rfl
   ·rw [if_pos (n_t c3),if_pos c3,if_pos c3]; rfl
theorem own_eq (t:Tablet) (hd:t.Log.Bytes.length≤1000000) (hf:t.Files.length≤1000) (hb:∀ b∈t.Files,b.length≤1000000):tablet_own t=some (t.Log.Bytes,t.Log.Kept,t.Files,t.Done,t.Since):=by
 unfold tablet_own disk_Copy
 rw [clone_eq _ hd,zab,zab,zaa (by omega)]
 have key:∀ (m k:Nat) (z:Tablet),t.Files.length - k=m→k≤t.Files.length→tablet_own_L1 (t.Log.Bytes,t.Log.Kept) (t.Files,t.Done,t.Since,z,t.Files.take k,t.Files,(t.Files.length:Int),(k:Int))=some (t.Log.Bytes,t.Log.Kept,t.Files,t.Done,t.Since):=by
  intro m
  induction m with
  | zero=>
   intro k z e hk
   have:k=t.Files.length:=by omega
   subst this
   refine zah ?_
   unfold tablet_own_B1 tablet_own_J1
   dsimp only
   rw [if_neg (d_f (by omega)),List.take_length]; rfl
  | succ m ih=>
   intro k z e hk
   have hkl:k<t.Files.length:=by omega
   have hw:w64 ((k:Int)+1)=((k+1:Nat):Int):=by rw [zai (by omega) (by omega)]; omega
   refine (zam ?_).trans (ih (k+1) z (by omega) (by omega))
   unfold tablet_own_B1
   dsimp only
   rw [if_pos (d_t (by omega)),zaa (by omega),clone_eq _ (hb _ (zcy t.Files (k:Int) (by omega))),zab,zaa (by simp; omega),hw,lget_take t.Files k hkl]
 exact key t.Files.length 0 _ (by omega) (by omega)
noncomputable def tabF (t:Tablet):Fault:=if ¬ (headT t).Code=0 then headT t else fillF (memT t) (filT t)
structure TG (t:Tablet):Prop where
 f:tabF t=⟨0,0⟩
 head:headT t=⟨0,0⟩
 d0:0≤t.Done
 d1:t.Done≤1000000000
 s0:0≤t.Since
 s1:t.Since≤1000000000
 few:t.Files.length≤10
 log:DGood t.Log
 fit:¬ badT t
 fil:∀ b∈t.Files,Good (fileO b).1∧b.length≤60000
 mem:(memT t).length≤500
 all:(allT t).length≤1000
theorem ldF_small:∀ (l:List (List UInt8)) (i:Int),(ldF l i).Code=0→∀ b∈l,b.length≤60000
 | [],_,_,b,h=>by cases h
 | b::l,i,h,x,hx=>by
  rw [ldF] at h
  by_cases c:(fileO b).2.2.Code=0
  ·rw [if_pos c] at h
   rcases List.mem_cons.1 hx with e | e
   ·rw [e]
    apply Nat.le_of_not_lt
    intro q
    unfold fileO at c
    rw [if_pos q] at c; cases c
   ·exact ldF_small l (i+1) h x e
  ·rw [if_neg c] at h; exact absurd h c
theorem tabF_good {t:Tablet} (h:(tabF t).Code=0):TG t:=by
 have hh:(headT t).Code=0:=by
  unfold tabF at h
  by_cases c:(headT t).Code=0
  ·exact c
  ·rw [if_pos c] at h; exact absurd h c
 have hf:(fillF (memT t) (filT t)).Code=0:=by
  unfold tabF at h
  rw [if_neg (not_not_intro hh)] at h; exact h
 have hm:¬ 500<(memT t).length:=by
  intro q
  unfold fillF at hf
  rw [if_pos q] at hf; cases hf
 have ha:¬ 1000<(allS (memT t) (filT t)).length:=by
  intro q
  unfold fillF at hf
  rw [if_neg hm,if_pos q] at hf; cases hf
 have hfz:fillF (memT t) (filT t)=⟨0,0⟩:=by unfold fillF; rw [if_neg hm,if_neg ha]
 unfold headT at hh
 by_cases c1:t.Done<0∨1000000000<t.Done∨t.Since<0∨1000000000<t.Since
 ·rw [if_pos c1] at hh; cases hh
 ·rw [if_neg c1] at hh
  by_cases c2:10<t.Files.length
  ·rw [if_pos c2] at hh; cases hh
  ·rw [if_neg c2] at hh
   by_cases c3:(dF t.Log).Code=0
   ·rw [if_neg (not_not_intro c3)] at hh
    by_cases c4:badT t
    ·rw [if_pos c4] at hh; cases hh
    ·rw [if_neg c4] at hh
     obtain ⟨hz,hg⟩:=ldF_good t.Files 0 hh
     have hs:=ldF_small t.Files 0 hh
     have hd:headT t=⟨0,0⟩:=by unfold headT; rw [if_neg c1,if_neg c2,if_neg (not_not_intro c3),if_neg c4,hz]
     exact ⟨by unfold tabF; rw [hd,if_neg (by simp),hfz],hd,by omega,by omega,by omega,by omega,by omega,dF_good.1 c3,c4,fun b hb=>⟨hg b hb,hs b hb⟩,by omega,Nat.le_of_not_lt ha⟩
   ·rw [if_pos c3] at hh; exact absurd hh c3
theorem fill1_eq (a:List UInt8) (m0:List Cell) (b:Int) (c:List (List UInt8)) (done d e:Int) (l:List Note) (files:List (List Cell)) (hl:l.length≤1000000) (hg:∀ n∈l,NGood n) (hf:files.length≤1000) (hfl:files.flatten.length≤1000000000) :
  tablet_tab_fill_v1 b c done d e a l m0 files=some (fillF (memS done l) files,b,c,done,d,l,e,memS done l):=by
 have hal:=allC_len (abv done l) fun n h=>(hg n (abv_sub done l n h)).len
 have hbl:=abv_len done l
 have hml:(memS done l).length≤1000000000:=by
  have:=firsts_len (allC (abv done l))
  unfold memS; omega
 unfold tablet_tab_fill_v1
 rw [show zb8 b c done d e l a m0 files=some (ixN done l 0) from indexN_eq a b c done d e l files hl,zab]
 have hmem:(ob (if (decide (0≤ixN done l 0))=true then
   zaq (0≤ixN done l 0∧ixN done l 0≤(l.length:Int)) <|
   ob (wal_Put ([]:List Cell) (zdu l (ixN done l 0))) fun x1=>
   some (x1,(⟨0,0⟩:Fault))
  else
   some (([]:List Cell),(⟨0,0⟩:Fault))) fun (v:List Cell×Fault)=>some v)=some (memS done l,⟨0,0⟩):=by
  rcases ixN_abv done l 0 with ⟨h1,h2⟩ | ⟨j,h1,h2,h3⟩
  ·rw [h1,if_neg (by decide)]
   unfold memS
   rw [h2,zab]
   have:firsts (allC [])=[]:=firsts_self (l:=[]) .nil
   rw [this]
  ·rw [h2,if_pos (d_t (by omega)),zaa (by omega)]
   have e1:zdu l (0+(j:Int))=l.drop j:=by rw [Int.zero_add,zb0]
   rw [e1,put_eq [] _ (by simp) (by simp; omega) (by rw [← h3]; omega),zab,zab,List.append_nil]
   unfold memS
   rw [h3]
 have hmem':(if (decide (0≤ixN done l 0))=true then
   zaq (0≤ixN done l 0∧ixN done l 0≤(l.length:Int)) <|
   ob (wal_Put ([]:List Cell) (zdu l (ixN done l 0))) fun x1=>
   some (x1,(⟨0,0⟩:Fault))
  else
   some (([]:List Cell),(⟨0,0⟩:Fault)))=some (memS done l,⟨0,0⟩):=by
  rw [← hmem]
  generalize (if (decide (0≤ixN done l 0))=true then _ else _:Option (List Cell×Fault))=z
  cases z <;> rfl
 rw [hmem',zab]
 dsimp only
 unfold fillF
 by_cases c1:500<(memS done l).length
 ·rw [if_pos (d_t (by omega)),if_pos c1]; rfl
 ·rw [if_neg (d_f (by omega)),if_neg c1,show tablet_tab_all_v1 b c done d e a l (memS done l) files=some (allS (memS done l) files,memS done l) from all_eq a b c done d e l _ files hml hf hfl,zab]
  dsimp only
  by_cases c2:1000<(allS (memS done l) files).length
  ·rw [if_pos (d_t (by omega)),if_pos c2]; rfl
  ·rw [if_neg (d_f (by omega)),if_neg c2]
theorem lastT_bd {t:Tablet} (h:TG t):0≤zdr t∧zdr t≤1000000000:=by
 obtain ⟨_,_,l3⟩:=logd_le t.Log.Bytes
 unfold zdr
 by_cases c:0<(zc4 t).length
 ·rw [if_pos c]
  have:=l3 _ (zcy (zc4 t) (((zc4 t).length:Int) - 1) (by omega))
  have h1:=this.lo
  have h2:=this.hi
  omega
 ·rw [if_neg c]
  have:=h.d0
  have:=h.d1
  omega
noncomputable def putN (t:Tablet) (l:List Cell):Note:=⟨zdr t+1,l⟩
def erl (since:Int):List Cell→Int→Fault
 | [],_=>⟨0,0⟩
 | c::l,i=>if c.Time<since then ⟨12,i⟩ else erl since l (i+1)
noncomputable def putF (t:Tablet) (l:List Cell):Fault:=
 if ¬ (noteF (putN t l)).Code=0 then noteF (putN t l)
 else if ¬ (erl t.Since l 0).Code=0 then erl t.Since l 0
 else if 60000<t.Log.Bytes.length+(frame (encN (putN t l))).length then ⟨9,0⟩
 else fillF (memS t.Done (zc4 t++[putN t l])) (filT t)
def T0:Tablet:=⟨⟨[],0⟩,[],0,0⟩
noncomputable def putS (t:Tablet) (l:List Cell):Tablet×Int×Fault:=
 if ¬ (tabF t).Code=0 then (T0,0,tabF t)
 else if ¬ (putF t l).Code=0 then (T0,0,putF t l)
 else (⟨⟨t.Log.Bytes++frame (encN (putN t l)),t.Log.Kept⟩,t.Files,t.Done,t.Since⟩,zdr t+1,⟨0,0⟩)
theorem encN_len {n:Note} (h:NGood n):(encN n).length≤7000:=by
 have h1:=h.lo
 have h2:=h.hi
 have h3:=h.len
 have h5:=num_len5 (n:=n.Seq.toNat) (by omega)
 have h6:=encC_len n.Cells h.cells.code
 unfold encN
 rw [List.length_append]; omega
theorem wframe_eq (n:Note) (h:NGood n):wal_Frame_v1 n=some (frame (encN n)):=by
 have hl:=encN_len h
 unfold wal_Frame_v1
 rw [wbytes_eq n h,zab,addFrameW_eq _ (by omega),zab]
theorem tput_loop (t:Tablet) (l:List Cell) (h:TG t) (hn:NGood (putN t l)):∀ (m k:Nat),l.length - k=m→k≤l.length→erl t.Since l 0=erl t.Since (l.drop k) k→
  tablet_Put_1_L1 t.Log.Bytes t.Log.Kept t.Files t.Done t.Since (zdr t) l 0 (zc4 t) (memT t) (filT t) (t,⟨0,0⟩,putN t l,(k:Int)) =
   some (if ¬ (erl t.Since l 0).Code=0 then (erl t.Since l 0,t.Log.Bytes,t.Log.Kept,t.Files,t.Done,t.Since,zc4 t,zdr t,memT t,t,0)
    else if 60000<t.Log.Bytes.length+(frame (encN (putN t l))).length then (⟨9,0⟩,t.Log.Bytes,t.Log.Kept,t.Files,t.Done,t.Since,zc4 t,zdr t,memT t,t,0)
    else (fillF (memS t.Done (zc4 t++[putN t l])) (filT t),t.Log.Bytes++frame (encN (putN t l)),t.Log.Kept,t.Files,t.Done,t.Since,zc4 t++[putN t l],zdr t,memS t.Done (zc4 t++[putN t l]),t,zdr t+1)):=by
 obtain ⟨l1,l2,l3⟩:=logd_le t.Log.Bytes
 have hll:=h.log.len
 have hfr:=encN_len hn
 have hflat:=fil_flat t.Files
 have hfew:=h.few
 intro m
 induction m with
 | zero=>
  intro k e hk h0
  have hkl:k=l.length:=by omega
  subst hkl
  rw [List.drop_length] at h0
  have hz:erl t.Since l 0=⟨0,0⟩:=h0
  refine zah ?_
  unfold tablet_Put_1_B1 tablet_Put_1_J1
  dsimp only
  rw [if_neg (d_f (by omega)),wframe_eq _ hn,zab,append_eq h.log _ (by rw [zcc]; omega),zab]
  by_cases c:60000<t.Log.Bytes.length+(frame (encN (putN t l))).length
  ·rw [if_pos c]
   dsimp only
   rw [if_pos (by decide),hz,if_neg (by simp),if_pos c]; rfl
  ·rw [if_neg c]
   dsimp only
   have hl2:(zc4 t).length≤60000:=by unfold zc4; omega
   rw [if_neg (by simp),zaa (by simp; omega),fill1_eq _ _ _ _ _ _ _ _ _ (by simp; omega) (fun n hm=>by
    rcases List.mem_append.1 hm with q | q
    ·exact l3 n q
    ·rw [List.mem_singleton.1 q]; exact hn) (by unfold filT; simp; omega) (by unfold filT; omega),zab,hz,if_neg (by simp),if_neg c]
   rfl
 | succ m ih=>
  intro k e hk h0
  have hkl:k<l.length:=by omega
  rw [zcp l k hkl,erl] at h0
  have hB:tablet_Put_1_B1 t.Log.Bytes t.Log.Kept t.Files t.Done t.Since (zdr t) l 0 (zc4 t) (memT t) (filT t) (t,⟨0,0⟩,putN t l,(k:Int))=if (zaf l (k:Int)).Time<t.Since then some (.inr (⟨12,k⟩,t.Log.Bytes,t.Log.Kept,t.Files,t.Done,t.Since,zc4 t,zdr t,memT t,t,0)) else some (.inl (t,⟨0,0⟩,putN t l,((k+1:Nat):Int))):=by
   unfold tablet_Put_1_B1
   dsimp only
   rw [if_pos (d_t (by omega)),zaa (by omega)]
   by_cases c:(zaf l (k:Int)).Time<t.Since
   ·rw [if_pos (d_t c),if_pos c]; rfl
   ·rw [if_neg (d_f c),if_neg c]
    have:w64 ((k:Int)+1)=((k+1:Nat):Int):=by rw [zai (by have:=hn.len; simp only [putN] at this; omega) (by have:=hn.len; simp only [putN] at this; omega)]; omega
    rw [this]
  by_cases c:(zaf l (k:Int)).Time<t.Since
  ·rw [if_pos c] at h0
   refine zah ?_
   rw [hB,if_pos c,h0,if_pos (by simp)]
  ·rw [if_neg c] at h0
   exact (zam (by rw [hB,if_neg c])).trans (ih (k+1) (by omega) (by omega) h0)
theorem loadS_bad {t:Tablet} (h:¬ (headT t).Code=0):loadS t = .inl (headT t):=by unfold loadS; rw [if_pos h]
theorem loadS_ok {t:Tablet} (h:(headT t).Code=0):loadS t = .inr (t.Log.Bytes,t.Log.Kept,t.Files,t.Done,t.Since,zc4 t,zdr t,memT t,filT t,fillF (memT t) (filT t)):=by unfold loadS; rw [if_neg (not_not_intro h)]
theorem put1_eq (t:Tablet) (l:List Cell) (h:TG t):∃ x,tablet_Put_1 t.Log.Bytes t.Log.Kept t.Files t.Done t.Since (zdr t) l t 0 (zc4 t) (memT t) (filT t)=some x∧x.1=putF t l∧
  ((putF t l).Code=0→x=(⟨0,0⟩,t.Log.Bytes++frame (encN (putN t l)),t.Log.Kept,t.Files,t.Done,t.Since,zc4 t++[putN t l],zdr t,memS t.Done (zc4 t++[putN t l]),t,zdr t+1)):=by
 obtain ⟨b1,b2⟩:=lastT_bd h
 have hw:w64 (zdr t+1)=zdr t+1:=zai (by omega) (by omega)
 unfold tablet_Put_1
 rw [hw,show (⟨zdr t+1,l⟩:Note)=putN t l from rfl,wcheck_eq,zab]
 by_cases c:(noteF (putN t l)).Code=0
 ·have hn:=noteF_good c
  rw [if_neg (n_f c)]
  have:=tput_loop t l h hn l.length 0 (by omega) (by omega) rfl
  refine ⟨_,this,?_,?_⟩
  ·unfold putF
   rw [if_neg (not_not_intro c)]
   by_cases c1:(erl t.Since l 0).Code=0
   ·rw [if_neg (not_not_intro c1),if_neg (not_not_intro c1)]
    by_cases c2:60000<t.Log.Bytes.length+(frame (encN (putN t l))).length
    ·rw [if_pos c2,if_pos c2]
    ·rw [if_neg c2,if_neg c2]
   ·rw [if_pos c1,if_pos c1]
  ·intro hz
   unfold putF at hz
   rw [if_neg (not_not_intro c)] at hz
   by_cases c1:(erl t.Since l 0).Code=0
   ·rw [if_neg (not_not_intro c1)] at hz ⊢
    by_cases c2:60000<t.Log.Bytes.length+(frame (encN (putN t l))).length
    ·rw [if_pos c2] at hz; cases hz
    ·rw [if_neg c2] at hz ⊢
     have:fillF (memS t.Done (zc4 t++[putN t l])) (filT t)=⟨0,0⟩:=by
      unfold fillF at hz ⊢
      split at hz
      ·cases hz
      ·split at hz
       ·cases hz
       ·rename_i q1 q2; rw [if_neg q1,if_neg q2]
     rw [this]
   ·rw [if_pos c1] at hz; exact absurd hz c1
 ·rw [if_pos (n_t c)]
  refine ⟨_,rfl,?_,fun hz=>?_⟩
  ·unfold putF; rw [if_pos c]
  ·unfold putF at hz
   rw [if_pos c] at hz; exact absurd hz c
theorem tput_eq (t:Tablet) (l:List Cell):tablet_Put_v1 t l=some (putS t l):=by
 have hp:∀ f:Fault,f.Code=f.Code:=fun _=>rfl
 unfold tablet_Put_v1 tablet_with putS
 rw [load_eq,zab]
 by_cases h1:(headT t).Code=0
 ·rw [loadS_ok h1]
  dsimp only [sm]
  by_cases h2:(fillF (memT t) (filT t)).Code=0
  ·have hz:(tabF t).Code=0:=by unfold tabF; rw [if_neg (not_not_intro h1)]; exact h2
   have hT:=tabF_good hz
   obtain ⟨x,hx,hx1,hx2⟩:=put1_eq t l hT
   rw [if_neg (n_f h2),hx,zab,if_neg (not_not_intro hz)]
   by_cases h3:(putF t l).Code=0
   ·have e:=hx2 h3
    subst e
    rw [if_neg (n_f rfl),own_eq _ (by
     show (t.Log.Bytes++frame (encN (putN t l))).length≤1000000
     have hn:NGood (putN t l):=by
      unfold putF at h3
      by_cases c:(noteF (putN t l)).Code=0
      ·exact noteF_good c
      ·rw [if_pos c] at h3; exact absurd h3 c
     have:=encN_len hn
     have:=hT.log.len
     rw [List.length_append,zcc]; omega) (by show t.Files.length≤1000; have:=hT.few; omega) (fun b hb=>by have:=(hT.fil b hb).2; omega),zab,zab]
    dsimp only
    rw [if_neg (n_f rfl),if_neg (not_not_intro h3)]
   ·rw [if_pos (n_t (by rw [hx1]; exact h3)),zab]
    dsimp only
    rw [if_pos (n_t (by rw [hx1]; exact h3)),if_pos h3,hx1]; rfl
  ·have hf:tabF t=fillF (memT t) (filT t):=by unfold tabF; rw [if_neg (not_not_intro h1)]
   rw [if_pos (n_t h2),zab]
   dsimp only
   rw [if_pos (n_t h2),hf,if_pos h2]; rfl
 ·have hf:tabF t=headT t:=by unfold tabF; rw [if_pos h1]
  rw [loadS_bad h1]
  dsimp only [sm]
  rw [if_pos (n_t h1),zab]
  dsimp only
  rw [if_pos (n_t h1),hf,if_pos h1]; rfl
theorem readS_back {b:List UInt8} (h:(readS b).2.Code=0):zeu (readS b).1=b:=by
 unfold readS at h ⊢
 by_cases c:60000<b.length
 ·rw [if_pos c] at h; cases h
 ·rw [if_neg c] at h ⊢
  cases e:rdAll rdC b.length b [] with
  | inr n=>rw [e] at h; cases h
  | inl l=>
   rw [e] at h
   simp only [rcS] at h ⊢
   by_cases c2:(cellF l).Code=0
   ·rw [if_pos c2]
    obtain ⟨m,e1,e2⟩:=wrAll_rdAll (w:=wrC) (fun b x r h=>(rdC_some h).2) b.length b [] l (by omega) (fun b x r h=>(wrC_len (rdC_some h).1).2) e
    rw [List.nil_append] at e1
    rw [e1,e2]; rfl
   ·rw [if_neg c2] at h; exact absurd h c2
theorem noteS_back {b:List UInt8} (h:(noteS b).2.Code=0):encN (noteS b).1=b:=by
 unfold noteS at h ⊢
 by_cases c:60000<b.length
 ·rw [if_pos c] at h; cases h
 ·rw [if_neg c] at h ⊢
  cases e:rdN b with
  | none=>rw [e] at h; cases h
  | some q=>
   obtain ⟨n,r⟩:=q
   rw [e] at h
   dsimp only at h ⊢
   obtain ⟨e1,e2⟩:=rdN_some e
   by_cases c2:(readS r).2.Code=0
   ·rw [if_pos c2] at h ⊢
    have hb:=readS_back c2
    unfold noteR at h ⊢
    by_cases c3:(noteF ⟨n,(readS r).1⟩).Code=0
    ·rw [if_pos c3]
     unfold encN
     dsimp only
     rw [hb,Int.toNat_natCast,e1]
    ·rw [if_neg c3] at h; exact absurd h c3
   ·rw [if_neg c2] at h; exact absurd h c2
def frm:List Note→List UInt8
 | []=>[]
 | n::l=>frame (encN n)++frm l
theorem frm_app:∀ (a b:List Note),frm (a++b)=frm a++frm b
 | [],b=>rfl
 | n::a,b=>by rw [List.cons_append,frm,frm,frm_app a b,List.append_assoc]
theorem nts_frm:∀ (l:List (List UInt8)) (acc:List Note) (g:Nat),(frm (nts acc g l).1).length+g=(frm acc).length+(nts acc g l).2
 | [],acc,g=>by rw [nts]
 | s::l,acc,g=>by
  rw [nts]
  by_cases c:(noteS s).2.Code=0∧nxt acc (noteS s).1
  ·rw [if_pos c]
   have ih:=nts_frm l (acc++[(noteS s).1]) (g+(s.length+6))
   have hb:=noteS_back c.1
   rw [frm_app,frm,frm,List.append_nil,List.length_append,hb,zcc] at ih
   omega
  ·rw [if_neg c]
theorem frm_logd (b:List UInt8):(frm (logd b).1).length=(logd b).2:=by
 have:=nts_frm (bodies b) [] 0
 unfold logd
 simp only [frm,List.length_nil] at this
 omega
theorem frm_filter (p:Note→Bool):∀ l:List Note,(frm (l.filter p)).length≤(frm l).length
 | []=>Nat.le_refl _
 | n::l=>by
  have:=frm_filter p l
  rw [List.filter_cons]
  split
  ·rw [frm,frm,List.length_append,List.length_append]; omega
  ·rw [frm,List.length_append]; omega
def sizF (size:Int):Fault:=if size<50∨4000<size then ⟨3,-1⟩ else ⟨0,0⟩
theorem sized_eq (size:Int):tablet_sized size=sizF size:=by
 unfold tablet_sized sizF
 by_cases c:size<50∨4000<size
 ·rw [if_pos (or_t c),if_pos c]; rfl
 ·rw [if_neg (or_f c),if_neg c]
noncomputable def flushF (t:Tablet) (size:Int):Fault:=
 if ¬ (sizF size).Code=0 then sizF size else if zdr t=t.Done then ⟨6,0⟩ else if t.Files.length=10 then ⟨2,-2⟩ else makeF (memT t) size
noncomputable def flushS (t:Tablet) (size:Int):Tablet×Fault:=
 if ¬ (tabF t).Code=0 then (T0,tabF t)
 else if ¬ (flushF t size).Code=0 then (T0,flushF t size)
 else (⟨t.Log,ze0 (memT t) size::t.Files,zdr t,t.Since⟩,⟨0,0⟩)
theorem makeF_ok {l:List Cell} {size:Int} (h:(makeF l size).Code=0):makeF l size=⟨0,0⟩∧(ze0 l size).length≤60000∧Good l∧l.length≤500:=by
 unfold makeF at h ⊢
 by_cases c1:(cellF l).Code=0
 ·rw [if_neg (not_not_intro c1)] at h ⊢
  by_cases c2:500<l.length
  ·rw [if_pos c2] at h; cases h
  ·rw [if_neg c2] at h ⊢
   by_cases c3:size<50∨4000<size
   ·rw [if_pos c3] at h; cases h
   ·rw [if_neg c3] at h ⊢
    by_cases c4:60000<(ze0 l size).length
    ·rw [if_pos c4] at h; cases h
    ·rw [if_neg c4]; exact ⟨rfl,by omega,cellF_good c1,by omega⟩
 ·rw [if_pos c1] at h; exact absurd h c1
theorem flush1_eq (t:Tablet) (size:Int) (h:TG t):∃ x,tablet_Flush_1_v1 t.Log.Bytes t.Log.Kept t.Files t.Done t.Since (zdr t) size t (zc4 t) (memT t) (filT t)=some x∧x.1=flushF t size∧
  ((flushF t size).Code=0→x=(⟨0,0⟩,t.Log.Bytes,t.Log.Kept,ze0 (memT t) size::t.Files,zdr t,t.Since,zdr t,memT t)):=by
 have hfew:=h.few
 unfold tablet_Flush_1_v1 flushF
 rw [sized_eq]
 dsimp only [lt]
 by_cases c:(sizF size).Code=0
 ·rw [if_neg (n_f c),if_neg (not_not_intro c)]
  by_cases c1:zdr t=t.Done
  ·rw [if_pos (d_t c1),if_pos c1]
   exact ⟨_,rfl,rfl,fun h=>by cases h⟩
  ·rw [if_neg (d_f c1),if_neg c1]
   by_cases c2:t.Files.length=10
   ·rw [if_pos (d_t (by omega)),if_pos c2]
    exact ⟨_,rfl,rfl,fun h=>by cases h⟩
   ·rw [if_neg (d_f (by omega)),if_neg c2,make_eq,zab,zaa (by simp; omega)]
    refine ⟨_,rfl,?_,fun hz=>?_⟩
    ·unfold makeS
     by_cases c3:(makeF (memT t) size).Code=0
     ·rw [if_pos c3,(makeF_ok c3).1]
     ·rw [if_neg c3]
    ·unfold makeS
     rw [if_pos hz]; rfl
 ·rw [if_pos (n_t c),if_pos c]
  exact ⟨_,rfl,rfl,fun h=>absurd h c⟩
theorem flush_eq (t:Tablet) (size:Int):tablet_Flush_v1 t size=some (flushS t size):=by
 unfold tablet_Flush_v1 tablet_with_v1 flushS
 rw [load_eq,zab]
 by_cases h1:(headT t).Code=0
 ·rw [loadS_ok h1]
  dsimp only [sm]
  by_cases h2:(fillF (memT t) (filT t)).Code=0
  ·have hz:(tabF t).Code=0:=by unfold tabF; rw [if_neg (not_not_intro h1)]; exact h2
   have hT:=tabF_good hz
   obtain ⟨x,hx,hx1,hx2⟩:=flush1_eq t size hT
   rw [if_neg (n_f h2),hx,zab,if_neg (not_not_intro hz)]
   by_cases h3:(flushF t size).Code=0
   ·have e:=hx2 h3
    subst e
    have hmk:(makeF (memT t) size).Code=0:=by
     unfold flushF at h3
     split at h3
     ·exact absurd h3 (by assumption)
     ·split at h3
      ·cases h3
      ·split at h3
       ·cases h3
       ·exact h3
    rw [if_neg (n_f rfl),own_eq _ (by show t.Log.Bytes.length≤1000000; have:=hT.log.len; omega) (by show (ze0 (memT t) size::t.Files).length≤1000; have:=hT.few; simp; omega) (fun b hb=>by
     rcases List.mem_cons.1 hb with q | q
     ·rw [q]; have:=(makeF_ok hmk).2.1; omega
     ·have:=(hT.fil b q).2; omega),zab,zab]
    dsimp only
    rw [if_neg (not_not_intro h3)]
   ·rw [if_pos (n_t (by rw [hx1]; exact h3)),zab,if_pos h3,hx1]; rfl
  ·have hf:tabF t=fillF (memT t) (filT t):=by unfold tabF; rw [if_neg (not_not_intro h1)]
   rw [if_pos (n_t h2),zab,hf,if_pos h2]; rfl
 ·have hf:tabF t=headT t:=by unfold tabF; rw [if_pos h1]
  rw [loadS_bad h1]
  dsimp only [sm]
  rw [if_pos (n_t h1),zab,hf,if_pos h1]; rfl
noncomputable def cutB (t:Tablet):List UInt8:=frm ((zc4 t).filter fun n=>decide (t.Done<n.Seq))
noncomputable def cutS (t:Tablet):Tablet×Fault:=
 if ¬ (tabF t).Code=0 then (T0,tabF t) else (⟨⟨cutB t,((cutB t).length:Int)⟩,t.Files,t.Done,t.Since⟩,⟨0,0⟩)
theorem wframe2_eq (n:Note) (h:NGood n) (row:List UInt8) (hr:row.length≤1000000000):wal_Frame_v2 n row=some (row++frame (encN n)):=by
 have hl:=encN_len h
 unfold wal_Frame_v2
 rw [wbytes_eq n h,zab,addFrame_eq _ _ (by omega) hr,zab]
theorem frm_take_len (t:Tablet) (h:TG t) (k:Nat) (p:Note→Bool):(frm (((zc4 t).take k).filter p)).length≤60000:=by
 have h1:=frm_filter p ((zc4 t).take k)
 have h2:(frm ((zc4 t).take k)).length≤(frm (zc4 t)).length:=by
  have:frm (zc4 t)=frm ((zc4 t).take k)++frm ((zc4 t).drop k):=by rw [← frm_app,List.take_append_drop]
  rw [this,List.length_append]; omega
 have h3:=frm_logd t.Log.Bytes
 obtain ⟨l1,_,_⟩:=logd_le t.Log.Bytes
 have:=h.log.len
 unfold zc4 at h2 h1 ⊢
 omega
theorem cut1_eq (t:Tablet) (h:TG t):tablet_Cut_1 t.Log.Bytes t.Log.Kept t.Files t.Done t.Since (zdr t) t (zc4 t) (memT t) (filT t)=some (⟨0,0⟩,cutB t,((cutB t).length:Int),t.Files,t.Done,t.Since,zdr t,t):=by
 obtain ⟨l1,l2,l3⟩:=logd_le t.Log.Bytes
 have hlen:=h.log.len
 have hnl:(zc4 t).length≤60000:=by unfold zc4; omega
 have key:∀ (m k:Nat),(zc4 t).length - k=m→k≤(zc4 t).length→tablet_Cut_1_L1 t.Files t.Done t.Since (zdr t) (zc4 t) (t,⟨0,0⟩,frm (((zc4 t).take k).filter fun n=>decide (t.Done<n.Seq)),(k:Int))=some (⟨0,0⟩,cutB t,((cutB t).length:Int),t.Files,t.Done,t.Since,zdr t,t):=by
  intro m
  induction m with
  | zero=>
   intro k e hk
   have:k=(zc4 t).length:=by omega
   subst this
   refine zah ?_
   unfold tablet_Cut_1_B1 tablet_Cut_1_J1
   dsimp only
   rw [if_neg (d_f (by omega)),List.take_length]; rfl
  | succ m ih=>
   intro k e hk
   have hkl:k<(zc4 t).length:=by omega
   have hw:w64 ((k:Int)+1)=((k+1:Nat):Int):=by rw [zai (by omega) (by omega)]; omega
   have hgn:=l3 _ (zcy (zc4 t) (k:Int) (by omega))
   have hfl:=frm_take_len t h k (fun n=>decide (t.Done<n.Seq))
   refine (zam ?_).trans (ih (k+1) (by omega) (by omega))
   unfold tablet_Cut_1_B1
   dsimp only
   rw [if_pos (d_t (by omega)),zaa (by omega),zaa (by omega),hw,lget_take (zc4 t) k hkl,List.filter_append]
   by_cases c:t.Done<(zaf (zc4 t) (k:Int)).Seq
   ·rw [if_pos (d_t c),show (⟨(zaf (zc4 t) (k:Int)).Seq,(zaf (zc4 t) (k:Int)).Cells⟩:Note)=zaf (zc4 t) (k:Int) from rfl,wframe2_eq _ hgn _ (by omega),zab,zab,frm_app]
    have:[zaf (zc4 t) (k:Int)].filter (fun n=>decide (t.Done<n.Seq))=[zaf (zc4 t) (k:Int)]:=by simp [c]
    rw [this]
    simp [frm]
   ·rw [if_neg (d_f c),zab,frm_app]
    have:[zaf (zc4 t) (k:Int)].filter (fun n=>decide (t.Done<n.Seq))=[]:=by simp [c]
    rw [this]
    simp [frm]
 exact key (zc4 t).length 0 (by omega) (by omega)
theorem cut_eq' (t:Tablet):tablet_Cut_v1 t=some (cutS t):=by
 unfold tablet_Cut_v1 tablet_with_v2 cutS
 rw [load_eq,zab]
 by_cases h1:(headT t).Code=0
 ·rw [loadS_ok h1]
  dsimp only [sm]
  by_cases h2:(fillF (memT t) (filT t)).Code=0
  ·have hz:(tabF t).Code=0:=by unfold tabF; rw [if_neg (not_not_intro h1)]; exact h2
   have hT:=tabF_good hz
   rw [if_neg (n_f h2),cut1_eq t hT,zab,if_neg (not_not_intro hz),if_neg (n_f rfl),own_eq _ (by
    show (cutB t).length≤1000000
    have:=frm_take_len t hT (zc4 t).length (fun n=>decide (t.Done<n.Seq))
    rw [List.take_length] at this
    unfold cutB; omega) (by show t.Files.length≤1000; have:=hT.few; omega) (fun b hb=>by have:=(hT.fil b hb).2; omega),zab,zab]
  ·have hf:tabF t=fillF (memT t) (filT t):=by unfold tabF; rw [if_neg (not_not_intro h1)]
   rw [if_pos (n_t h2),zab,hf,if_pos h2]; rfl
 ·have hf:tabF t=headT t:=by unfold tabF; rw [if_pos h1]
  rw [loadS_bad h1]
  dsimp only [sm]
  rw [if_pos (n_t h1),zab,hf,if_pos h1]; rfl
structure Gw (l:List Cell):Prop where
 len:l.length≤100000
 srt:l.Pairwise ah
theorem Gw.at {l:List Cell} (h:Gw l) {i j:Nat} (hij:i<j) (hj:j<l.length):ah (zaf l (i:Int)) (zaf l (j:Int)):=by
 rw [zb3 l i (by omega),zb3 l j hj]
 exact (List.pairwise_iff_getElem.1 h.srt) i j (by omega) hj hij
theorem Gw.inj {l:List Cell} (hg:Gw l) {i j:Nat} (hi:i<l.length) (hj:j<l.length) (h:zaf l (i:Int)=zaf l (j:Int)):i=j:=by
 by_cases h1:i<j
 ·have:=hg.at h1 hj; rw [h] at this; exact absurd this (ah_irr _)
 ·by_cases h2:j<i
  ·have:=hg.at h2 hi; rw [h] at this; exact absurd this (ah_irr _)
  ·omega
theorem filter_succ {α:Type} [Inhabited α] (p:α→Bool) (l:List α) (k:Nat) (hk:k<l.length):(l.take (k+1)).filter p=(l.take k).filter p++(if p (zaf l (k:Int))=true then [zaf l (k:Int)] else []):=by
 rw [lget_take l k hk,List.filter_append]
 congr 1
 by_cases h:p (zaf l (k:Int))=true <;> simp [h]
theorem vastT_run (t:Tablet) (hl:t.Files.length≤140737488351232):∃ b,law_vastTablet t=some b∧(b=false→t.Files.length≤100):=by
 have key:∀ (m k:Nat) (v:Int),t.Files.length - k=m→k≤t.Files.length→∃ b,law_vastTablet_L1 (t,v,(k:Int))=some b∧(b=false→t.Files.length≤100):=by
  intro m
  induction m with
  | zero=>
   intro k v e hk
   refine ⟨(decide (20000<v))||(decide (100<(t.Files.length:Int))),zah ?_,fun h=>?_⟩
   ·unfold ze4 law_vastTablet_J1
    dsimp only
    rw [if_neg (d_f (by omega))]; rfl
   ·simp only [Bool.or_eq_false_iff,decide_eq_false_iff_not] at h
    omega
  | succ m ih=>
   intro k v e hk
   obtain ⟨b,h1,h2⟩:=ih (k+1) (w64 (v+((zaf t.Files (k:Int)).length:Int))) (by omega) (by omega)
   refine ⟨b,(zam ?_).trans h1,h2⟩
   unfold ze4
   dsimp only
   have:w64 ((k:Int)+1)=((k+1:Nat):Int):=by rw [zai (by omega) (by omega)]; omega
   rw [if_pos (d_t (by omega)),zaa (by omega),this]
 exact key t.Files.length 0 _ (by omega) (by omega)
theorem encN_len' {n:Note} (h:NGood n):(encN n).length≤7000:=by
 have h1:=h.lo
 have h2:=h.hi
 have h3:=h.len
 have h5:=num_len5 (n:=n.Seq.toNat) (by omega)
 have h6:=encC_len n.Cells h.cells.code
 unfold encN
 rw [List.length_append]; omega
theorem readS_enc {l:List Cell} (hg:Good l) (hl:l.length≤20):readS (zeu l)=(l,⟨0,0⟩):=by
 have h6:=encC_len l hg.code
 have:=rdAll_wrAll (f:=rdC) (w:=wrC) (fun x=>zaw x=0) (fun x r h=>rdC_wrC h r) (fun x h=>(wrC_len h).2) l (zeu l).length [] hg.code (Nat.le_refl _)
 have e:rdAll rdC (zeu l).length (zeu l) [] = .inl l:=by simpa [zeu] using this
 unfold readS
 rw [if_neg (by omega),e]
 unfold rcS
 dsimp only
 rw [hg.f]
 rfl
theorem noteS_enc {n:Note} (h:NGood n):noteS (encN n)=(n,⟨0,0⟩):=by
 have hl:=encN_len' h
 have h1:=h.lo
 have h2:=h.hi
 have e:((n.Seq.toNat:Nat):Int)=n.Seq:=by omega
 unfold noteS
 rw [if_neg (by omega)]
 unfold encN
 rw [rdN_num (by omega)]
 dsimp only
 rw [readS_enc h.cells h.len,e,if_pos rfl,note_eta]
 unfold noteR
 rw [h.f,if_pos rfl]
def seqs (a:Int) (ns:List Note):Prop:=∀ k:Nat,k<ns.length→(zaf ns (k:Int)).Seq=a+k
def encL (ns:List Note):List UInt8:=encF (ns.map encN)
theorem encL_cons (n:Note) (l:List Note):encL (n::l)=frame (encN n)++encL l:=by unfold encL; rw [List.map_cons,encF_cons]
theorem encL_one (n:Note):encL [n]=frame (encN n):=by rw [encL_cons]; simp [encL,encF,wrAll]
theorem seqs_take {a:Int} {ns:List Note} (h:seqs a ns) (w:Nat):seqs a (ns.take w):=by
 intro k hk
 rw [List.length_take] at hk
 have e:zaf (ns.take w) (k:Int)=zaf ns (k:Int):=by
  have:=lget_ltake ns (w:Int) (k:Int) (by omega)
  rwa [zce] at this
 rw [e]; exact h k (by omega)
theorem nts_run (a:Int):∀ (ms acc:List Note) (g:Nat),(∀ n∈acc++ms,NGood n)→seqs a (acc++ms)→nts acc g (ms.map encN)=(acc++ms,g+(encL ms).length)
 | [],acc,g,_,_=>by simp [nts,encL,encF,wrAll]
 | m::ms,acc,g,hg,hs=>by
  have hm:=hg m (by simp)
  have hx:nxt acc m:=by
   by_cases c:acc.length=0
   ·exact .inl c
   ·right
    have h1:=hs acc.length (by simp)
    have h2:=hs (acc.length - 1) (by simp; omega)
    rw [lget_app_r _ _ _ (by omega),Int.sub_self] at h1
    rw [lget_app_l _ _ _ (by omega)] at h2
    have e:((acc.length - 1:Nat):Int)=(acc.length:Int) - 1:=by omega
    rw [e] at h2
    have h1:m.Seq=a+acc.length:=h1
    unfold lastN
    rw [h2,h1]; omega
  rw [List.map_cons,nts,noteS_enc hm,if_pos ⟨rfl,hx⟩]
  dsimp only
  rw [nts_run a ms (acc++[m]) _ (by simpa using hg) (by simpa using hs),encL_cons,List.length_append,zcc]
  simp; omega
theorem wh_ge:∀ (l:List (List UInt8)) (c s:Nat),s≤l.length→(encF (l.take s)).length≤c→s≤wh l c
 | _,_,0,_,_=>Nat.zero_le _
 | [],_,s+1,h,_=>by simp at h
 | x::l,c,s+1,h,hc=>by
  rw [List.take_succ_cons,encF_cons,List.length_append,zcc] at hc
  rw [wh,if_pos (by omega)]
  have:=wh_ge l (c - (x.length+6)) s (by simpa using h) (by omega)
  omega
theorem encF_take_le (l:List (List UInt8)) (w:Nat):(encF (l.take w)).length≤(encF l).length:=by
 have e:encF l=encF (l.take w)++encF (l.drop w):=by
  unfold encF wrAll
  rw [← List.flatMap_append,List.take_append_drop]
 rw [e,List.length_append]; omega
theorem logd_cut {a:Int} {ns:List Note} (hg:∀ n∈ns,NGood n) (hs:seqs a ns) (c:Nat) :
  logd ((encL ns).take c)=(ns.take (wh (ns.map encN) c),(encL (ns.take (wh (ns.map encN) c))).length):=by
 have hl:∀ s∈ns.map encN,s.length≤65535:=by
  intro s h
  obtain ⟨n,hn,rfl⟩:=List.mem_map.1 h
  have:=encN_len' (hg n hn)
  omega
 have e:=opn_cut (ns.map encN) c ((encL ns).take c).length [] 0 hl (Nat.le_refl _)
 unfold logd bodies
 have e2:(opn ((encL ns).take c).length ((encL ns).take c) [] 0).1=(ns.take (wh (ns.map encN) c)).map encN:=by
  have:opn ((encL ns).take c).length ((encL ns).take c) [] 0=_:=e
  rw [this,List.nil_append,List.map_take]
 rw [e2,nts_run a _ [] 0 (fun n hn=>hg n (List.mem_of_mem_take (by simpa using hn))) (by rw [List.nil_append]; exact seqs_take hs _)]
 simp
theorem logd_enc {a:Int} {ns:List Note} (hg:∀ n∈ns,NGood n) (hs:seqs a ns):logd (encL ns)=(ns,(encL ns).length):=by
 have h:=logd_cut hg hs (encL ns).length
 have hw:wh (ns.map encN) (encL ns).length=ns.length:=by
  have h1:=wh_le (ns.map encN) (encL ns).length
  have h2:=wh_ge (ns.map encN) (encL ns).length ns.length (by simp) (by unfold encL; exact encF_take_le _ _)
  rw [List.length_map] at h1; omega
 rw [List.take_length,hw,List.take_length] at h
 exact h
theorem fileB_small {l:List Cell} (hg:∀ c∈l,zaw c=0) (hl:l.length≤1000) (size:Int):(ze0 l size).length≤367*l.length+13:=by
 obtain ⟨h1,h2,h3,h4,h5,h6,h7⟩:=blk_bd hg hl size l.length (Nat.le_refl _)
 have hN:=filN_bd l
 have hfl:(filF l).length≤l.length+1:=by unfold filF; rw [zea]; omega
 unfold ze0 zb5
 rw [encF_app,encF_cons,encF_one,List.length_append,List.length_append,zcc,zcc]
 omega
def c1:Cell:=⟨[114],[99],7,false,[97]⟩
theorem one_cells:law_oneNote.Cells=[c1]:=rfl
theorem one_good:NGood law_oneNote:=noteF_good (by rw [note1F])
theorem c1_good:Good [c1]:=one_good.cells
theorem firsts_c1:firsts [c1]=[c1]:=firsts_self c1_good.srt
theorem firsts_nil':firsts ([]:List Cell)=[]:=firsts_self (l:=[]) .nil
theorem mem_none (d:Int):memS d []=[]:=by
 unfold memS
 rw [show abv d []=[] from rfl,show allC []=[] from rfl,firsts_nil']
theorem mem_one:memS 0 [law_oneNote]=[c1]:=by
 unfold memS
 have:abv 0 [law_oneNote]=[law_oneNote]:=by rw [abv,if_pos (by decide)]
 rw [this]
 have:allC [law_oneNote]=[c1]:=by simp [allC,one_cells]
 rw [this,firsts_c1]
theorem mem_one1:memS 1 [law_oneNote]=[]:=by
 unfold memS
 have:abv 1 [law_oneNote]=[]:=by rw [abv,if_neg (by decide)]; rfl
 rw [this,show allC []=[] from rfl,firsts_nil']
theorem logd_none:logd []=([],0):=by
 have:=logd_enc (a:=0) (ns:=[]) (fun n h=>by cases h) (fun k h=>by simp at h)
 simpa [encL,encF,wrAll] using this
theorem logd_one:logd (frame (encN law_oneNote))=([law_oneNote],(frame (encN law_oneNote)).length):=by
 have:=logd_enc (a:=1) (ns:=[law_oneNote]) (fun n h=>by rw [List.mem_singleton.1 h]; exact one_good) (fun k h=>by
  have:k=0:=by simp at h; omega
  subst this; rfl)
 rwa [encL_one] at this
theorem enc_one_len:(frame (encN law_oneNote)).length≤7006:=by
 have:=encN_len one_good
 rw [zcc]; omega
noncomputable def t1:Tablet:=⟨⟨frame (encN law_oneNote),0⟩,[],0,0⟩
noncomputable def t2:Tablet:=⟨⟨frame (encN law_oneNote),0⟩,[ze0 [c1] 50],1,0⟩
theorem fill_small {a:List Cell} {b:List (List Cell)} (h1:a.length≤500) (h2:(allS a b).length≤1000):fillF a b=⟨0,0⟩:=by
 unfold fillF
 rw [if_neg (by omega),if_neg (by omega)]
theorem allS_small (a:List Cell) (b:List (List Cell)) (h:a.length+b.flatten.length≤1000):(allS a b).length≤1000:=by
 have:=firsts_len (a++b.flatten)
 rw [List.length_append] at this
 unfold allS; omega
theorem T0_log:zc4 T0=[]:=by unfold zc4; rw [show T0.Log.Bytes=[] from rfl,logd_none]
theorem T0_ok:tabF T0=⟨0,0⟩:=by
 have hh:headT T0=⟨0,0⟩:=by
  unfold headT
  have hb:¬ badT T0:=by
   unfold badT
   rw [T0_log,show T0.Log.Bytes=[] from rfl,logd_none]
   simp
  rw [if_neg (by simp [T0]),if_neg (by simp [T0]),if_neg (by simp [T0,dF]),if_neg hb]; rfl
 unfold tabF
 rw [hh,if_neg (by simp)]
 refine fill_small ?_ (allS_small _ _ ?_)
 ·unfold memT; rw [T0_log,mem_none]; simp
 ·unfold memT filT; rw [T0_log,mem_none]; simp [T0]
theorem put_one:putS T0 law_oneNote.Cells=(t1,1,⟨0,0⟩):=by
 have hl:zdr T0=0:=by unfold zdr; rw [T0_log,if_neg (by simp)]; rfl
 have hn:putN T0 law_oneNote.Cells=law_oneNote:=by unfold putN; rw [hl]; rfl
 have he:erl T0.Since law_oneNote.Cells 0=⟨0,0⟩:=by
  rw [one_cells,erl,if_neg (by decide)]; rfl
 have hf:putF T0 law_oneNote.Cells=⟨0,0⟩:=by
  unfold putF
  have hlen:=enc_one_len
  rw [hn,note1F,if_neg (by simp),he,if_neg (by simp),if_neg (by show ¬ 60000<0+_; omega),T0_log]
  show fillF (memS 0 [law_oneNote]) _=_
  rw [mem_one]
  exact fill_small (by simp) (allS_small _ _ (by simp [filT,T0]))
 unfold putS
 rw [T0_ok,if_neg (by simp),hf,if_neg (by simp),hn,hl]; rfl
theorem t1_log:zc4 t1=[law_oneNote]:=by unfold zc4; rw [show t1.Log.Bytes=frame (encN law_oneNote) from rfl,logd_one]
theorem t1_ok:tabF t1=⟨0,0⟩:=by
 have hlen:=enc_one_len
 have hh:headT t1=⟨0,0⟩:=by
  unfold headT
  have hb:¬ badT t1:=by
   unfold badT
   rw [t1_log,show t1.Log.Bytes=frame (encN law_oneNote) from rfl,logd_one]
   rintro (h | ⟨_,h⟩)
   ·exact h rfl
   ·revert h; decide
  have hd:dF t1.Log=⟨0,0⟩:=dF_zero ⟨by show (frame (encN law_oneNote)).length≤60000; omega,Int.le_refl 0,by show (0:Int)≤((frame (encN law_oneNote)).length:Int); omega⟩
  rw [if_neg (by simp [t1]),if_neg (by simp [t1]),if_neg (by rw [hd]; simp),if_neg hb]; rfl
 unfold tabF
 rw [hh,if_neg (by simp)]
 refine fill_small ?_ (allS_small _ _ ?_)
 ·unfold memT; rw [t1_log,show t1.Done=0 from rfl,mem_one]; simp
 ·unfold memT filT; rw [t1_log,show t1.Done=0 from rfl,mem_one]; simp [t1]
theorem c1_file:(ze0 [c1] 50).length≤60000:=by
 have:=fileB_small c1_good.code (by simp) 50
 simp only [List.length_singleton] at this
 omega
theorem flush_one:flushS t1 50=(t2,⟨0,0⟩):=by
 have hm:memT t1=[c1]:=by unfold memT; rw [t1_log,show t1.Done=0 from rfl,mem_one]
 have hl:zdr t1=1:=by unfold zdr; rw [t1_log,if_pos (by simp)]; rfl
 have hk:makeF [c1] 50=⟨0,0⟩:=by
  unfold makeF
  have:=c1_file
  rw [if_neg (not_not_intro (by rw [c1_good.f])),if_neg (by simp),if_neg (by decide),if_neg (by omega)]
 have hf:flushF t1 50=⟨0,0⟩:=by
  unfold flushF
  rw [if_neg (not_not_intro (by decide)),hl,if_neg (by decide),if_neg (by decide),hm,hk]
 unfold flushS
 rw [t1_ok,if_neg (by simp),hf,if_neg (by simp),hl,hm]; rfl
theorem t2_log:zc4 t2=[law_oneNote]:=by unfold zc4; rw [show t2.Log.Bytes=frame (encN law_oneNote) from rfl,logd_one]
theorem file_one:(fileO (ze0 [c1] 50)).1=[c1]∧(fileO (ze0 [c1] 50)).2.2=⟨0,0⟩:=by
 have h1:=open_any (ze0 [c1] 50)
 have h2:=open_made c1_good 50 c1_file (by simp)
 rw [h1] at h2
 simp only [Option.some.injEq,Prod.mk.injEq] at h2
 exact h2
theorem t2_ok:tabF t2=⟨0,0⟩:=by
 have hlen:=enc_one_len
 have hh:headT t2=⟨0,0⟩:=by
  unfold headT
  have hb:¬ badT t2:=by
   unfold badT
   rw [t2_log,show t2.Log.Bytes=frame (encN law_oneNote) from rfl,logd_one]
   rintro (h | ⟨_,h⟩)
   ·exact h rfl
   ·revert h; show ¬ ((1:Int)+1<law_oneNote.Seq∨law_oneNote.Seq<1); decide
  have hd:dF t2.Log=⟨0,0⟩:=dF_zero ⟨by show (frame (encN law_oneNote)).length≤60000; omega,Int.le_refl 0,by show (0:Int)≤((frame (encN law_oneNote)).length:Int); omega⟩
  rw [if_neg (by simp [t2]),if_neg (by simp [t2]),if_neg (by rw [hd]; simp),if_neg hb]
  show ldF [ze0 [c1] 50] 0=_
  rw [ldF,if_pos (by rw [file_one.2])]; rfl
 unfold tabF
 rw [hh,if_neg (by simp)]
 refine fill_small ?_ (allS_small _ _ ?_)
 ·unfold memT; rw [t2_log,show t2.Done=1 from rfl,mem_one1]; simp
 ·unfold memT filT; rw [t2_log,show t2.Done=1 from rfl,mem_one1]; simp [t2,file_one.1]
theorem cut_one:cutS t2=(⟨⟨[],0⟩,[ze0 [c1] 50],1,0⟩,⟨0,0⟩):=by
 have hb:cutB t2=[]:=by
  unfold cutB
  rw [t2_log,show t2.Done=1 from rfl]
  have:[law_oneNote].filter (fun n=>decide (1<n.Seq))=[]:=by decide
  rw [this]; rfl
 unfold cutS
 rw [t2_ok,if_neg (by simp),hb]; rfl
theorem tabBegun:law_tabletBegun=some true:=by
 unfold law_tabletBegun
 dsimp only [lt]
 rw [show (⟨(⟨([]:List UInt8),0⟩:Disk),([]:List (List UInt8)),0,0⟩:Tablet)=T0 from rfl,tput_eq,zab,put_one]
 dsimp only
 rw [flush_eq,zab,flush_one]
 dsimp only
 rw [cut_eq',zab,cut_one]
 dsimp only
 rw [zaa (fun _=>by simp),if_pos (by simp),one_cells,rfile_eq c1_good.code (by simp) 50,zab]
 simp [R_Same,zaf]
def up (a b:Note):Prop:=a.Seq<b.Seq
theorem lastN_app (l:List Note) (m:Note):lastN (l++[m])=m:=by
 unfold lastN
 have:(((l++[m]).length:Nat):Int) - 1=(l.length:Int):=by simp
 rw [this,zb3 _ l.length (by simp)]; simp
theorem nts_up:∀ (l:List (List UInt8)) (acc:List Note) (g:Nat),acc.Pairwise up→(∀ n∈acc,n.Seq≤(lastN acc).Seq)→(nts acc g l).1.Pairwise up∧∀ n∈(nts acc g l).1,n.Seq≤(lastN (nts acc g l).1).Seq
 | [],acc,g,h1,h2=>⟨h1,h2⟩
 | s::l,acc,g,h1,h2=>by
  rw [nts]
  split
  ·rename_i c
   have hlt:∀ n∈acc,n.Seq<(noteS s).1.Seq:=fun n hn=>by
    rcases c.2 with q | q
    ·rw [List.eq_nil_of_length_eq_zero q] at hn; cases hn
    ·have:=h2 n hn; omega
   refine nts_up l _ _ ?_ ?_
   ·rw [List.pairwise_append]
    exact ⟨h1,List.pairwise_singleton ..,fun a ha b hb=>by rw [List.mem_singleton] at hb; subst hb; exact hlt a ha⟩
   ·intro n hn
    rw [lastN_app]
    rcases List.mem_append.1 hn with q | q
    ·exact Int.le_of_lt (hlt n q)
    ·rw [List.mem_singleton] at q; subst q; exact Int.le_refl _
  ·exact ⟨h1,h2⟩
theorem logd_up (b:List UInt8):(logd b).1.Pairwise up:=(nts_up (bodies b) [] 0 .nil (by simp)).1
theorem abv_filter (done:Int):∀ l:List Note,l.Pairwise up→abv done l=l.filter fun n=>decide (done<n.Seq)
 | [],_=>rfl
 | n::l,h=>by
  obtain ⟨h1,h2⟩:=List.pairwise_cons.1 h
  rw [abv]
  by_cases c:done<n.Seq
  ·rw [if_pos c,List.filter_cons_of_pos (by simpa using c)]
   congr 1
   exact (List.filter_eq_self.2 fun m hm=>by have:n.Seq<m.Seq:=h1 m hm; simp; omega).symm
  ·rw [if_neg c,List.filter_cons_of_neg (by simpa using c)]
   exact abv_filter done l h2
theorem above_eq (l:List Note) (done:Int) (hl:l.length≤1000000):R_Above l done=some (l.filter fun n=>decide (done<n.Seq)):=by
 have key:∀ (m k:Nat),l.length - k=m→k≤l.length→R_Above_L1 l done ((l.take k).filter (fun n=>decide (done<n.Seq)),(k:Int))=some (l.filter fun n=>decide (done<n.Seq)):=by
  intro m
  induction m with
  | zero=>
   intro k e hk
   have:k=l.length:=by omega
   subst this
   refine zah ?_
   unfold R_Above_B1 R_Above_J1
   dsimp only
   rw [if_neg (d_f (by omega)),List.take_length]; rfl
  | succ m ih=>
   intro k e hk
   have hkl:k<l.length:=by omega
   have hw:w64 ((k:Int)+1)=((k+1:Nat):Int):=by rw [zai (by omega) (by omega)]; omega
   have hfl:=List.length_filter_le (fun n:Note=>decide (done<n.Seq)) (l.take k)
   have htl:(l.take k).length≤k:=by simp; omega
   refine (zam ?_).trans (ih (k+1) (by omega) (by omega))
   unfold R_Above_B1
   dsimp only
   rw [if_pos (d_t (by omega)),zaa (by omega),hw,filter_succ _ l k hkl]
   by_cases c:done<(zaf l (k:Int)).Seq
   ·rw [if_pos (d_t c),zaa (by omega),zaa (by rw [List.length_append,List.length_singleton]; omega),zab,if_pos (by simpa using c)]
   ·rw [if_neg (d_f c),zab,if_neg (by simpa using c),List.append_nil]
 exact key l.length 0 (by omega) (by omega)
theorem above_abv (t:Tablet) (hl:(zc4 t).length≤1000000):R_Above (zc4 t) t.Done=some (abv t.Done (zc4 t)):=by
 rw [above_eq _ _ hl,abv_filter t.Done (zc4 t) (logd_up t.Log.Bytes)]
theorem togethr_loop (l:List (List Cell)) (hs:∀ g∈l,g.Pairwise ah) (hl:l.length≤1000) (hf:l.flatten.length≤100000000):∀ (n:Nat),n≤l.length→R_Together_L1 l (firsts (l.drop n).flatten,(n:Int))=some (firsts l.flatten)
 | 0,_=>by
  refine zah ?_
  unfold R_Together_B1
  dsimp only
  rw [if_neg (d_f (by simp))]; rfl
 | n+1,hn=>by
  have hw:w64 (((n+1:Nat):Int) - 1)=(n:Int):=by rw [zai (by omega) (by omega)]; omega
  have hm:=zcy l (n:Int) (by omega)
  have hgl:(zaf l (n:Int)).length≤l.flatten.length:=(List.sublist_flatten_of_mem hm).length_le
  have hfl:=firsts_len (l.drop (n+1)).flatten
  have hdl:(l.drop (n+1)).flatten.length≤l.flatten.length:=by
   have e:l.flatten=(l.take (n+1)).flatten++(l.drop (n+1)).flatten:=by rw [← List.flatten_append,List.take_append_drop]
   rw [e,List.length_append]; omega
  have hp:=rputs_eq (firsts (l.drop (n+1)).flatten) (zaf l (n:Int)) (l.drop (n+1)).flatten (firsts_ok _) (by omega)
  have he:firsts ((zaf l (n:Int)).reverse++(l.drop (n+1)).flatten)=firsts (l.drop n).flatten:=by
   rw [zcp l n (by omega),List.flatten_cons]
   exact (firsts_congr (Stab.app (stab_rev (hs _ hm)) (Stab.refl _))).symm
  refine (zam ?_).trans (togethr_loop l hs hl hf n (by omega))
  unfold R_Together_B1
  dsimp only
  rw [if_pos (d_t (by omega)),hw,zaa (by omega),hp,zab,he]
theorem togethr_eq {l:List (List Cell)} (hs:∀ g∈l,g.Pairwise ah) (hl:l.length≤1000) (hf:l.flatten.length≤100000000):R_Together l=some (firsts l.flatten):=by
 have:=togethr_loop l hs hl hf l.length (Nat.le_refl _)
 rw [List.drop_length] at this
 unfold R_Together
 rw [← this]
 congr 2
 rw [show ([]:List (List Cell)).flatten=[] from rfl,firsts_self .nil]
noncomputable def insS (t:Tablet):Inside×Fault:=
 if ¬ (headT t).Code=0 then (⟨[],0,[],[],[]⟩,headT t) else (⟨zc4 t,zdr t,memT t,filT t,allT t⟩,fillF (memT t) (filT t))
theorem insS_f (t:Tablet):(insS t).2=tabF t:=by
 unfold insS tabF
 split <;> rfl
theorem heavy_eq (n:List Note) (k:Int) (mem:List Cell) (f:List (List Cell)):R_Heavy ⟨n,k,mem,f,allS mem f⟩=fillF mem f:=by
 unfold R_Heavy fillF R_F
 dsimp only [lt]
 by_cases c1:500<mem.length
 ·rw [if_pos (d_t (by omega)),if_pos c1]
 ·rw [if_neg (d_f (by omega)),if_neg c1]
  by_cases c2:1000<(allS mem f).length
  ·rw [if_pos (d_t (by omega)),if_pos c2]
  ·rw [if_neg (d_f (by omega)),if_neg c2]
theorem ins_loop (t:Tablet) (k0:Nat) (z:Inside) (zf:Fault) (hL:t.Files.length≤10) (hn:(zc4 t).length≤1000000) (hg:∀ n∈zc4 t,NGood n):∀ (m k:Nat),t.Files.length - k=m→k≤t.Files.length→ldF t.Files 0=ldF (t.Files.drop k) k→(∀ b∈t.Files.take k,(fileO b).2.2.Code=0)→
  R_InsideOf_v1_L1 (zc4 t,(k0:Int)) (t,z,zf,zdr t) (t,z,zf,(t.Files.take k).map (fun b=>(fileO b).1),(k:Int)) =
   some (if ¬ (ldF t.Files 0).Code=0 then (⟨[],0,[],[],[]⟩,ldF t.Files 0) else (⟨zc4 t,zdr t,memT t,filT t,allT t⟩,fillF (memT t) (filT t))):=by
 intro m
 induction m with
 | zero=>
  intro k e hk h0 hgd
  have hkl:k=t.Files.length:=by omega
  subst hkl
  rw [List.drop_length] at h0
  have hz:ldF t.Files 0=⟨0,0⟩:=h0
  have hfl:=fil_flat t.Files
  rw [List.take_length] at hgd
  have hm0:=allC_len (abv t.Done (zc4 t)) fun n h=>(hg n (abv_sub t.Done _ n h)).len
  have ha:=abv_len t.Done (zc4 t)
  have hml:(memT t).length≤100000000 - 5000:=by
   unfold memT memS
   have:=firsts_len (allC (abv t.Done (zc4 t)))
   omega
  have hts:([memT t]++filT t).flatten=memT t++(filT t).flatten:=by simp
  have htg:=togethr_eq (l:=[memT t]++filT t) (fun g hgm=>by
   rcases List.mem_append.1 hgm with q | q
   ·rw [List.mem_singleton] at q; subst q; exact (firsts_ok _).1
   ·obtain ⟨b,hb,rfl⟩:=List.mem_map.1 q
    exact (fileO_good (hgd b hb)).1.srt) (by unfold filT; simp; omega) (by rw [hts,List.length_append]; unfold filT; omega)
  rw [hts] at htg
  refine zah ?_
  unfold R_InsideOf_v1_B1 R_InsideOf_v1_J2
  dsimp only
  rw [if_neg (d_f (by omega)),List.take_length,above_abv t hn,zab,puts_eq [] _ .nil (by simp) (by omega) (fun n h=>hg n (abv_sub t.Done _ n h)),zab,List.append_nil]
  have e1:firsts (allC (abv t.Done (zc4 t)))=memT t:=rfl
  have e2:t.Files.map (fun b=>(fileO b).1)=filT t:=rfl
  rw [e1,e2,zaa (by unfold filT; simp; omega),htg,zab]
  dsimp only [lt]
  have e3:firsts (memT t++(filT t).flatten)=allS (memT t) (filT t):=rfl
  rw [e3,heavy_eq,hz,if_neg (by simp)]; rfl
 | succ m ih=>
  intro k e hk h0 hgd
  have hkl:k<t.Files.length:=by omega
  have hw:w64 ((k:Int)+1)=((k+1:Nat):Int):=by rw [zai (by omega) (by omega)]; omega
  rw [zcp t.Files k hkl,ldF] at h0
  have hop:=ropen_eq (zaf t.Files (k:Int))
  by_cases c:(fileO (zaf t.Files (k:Int))).2.2.Code=0
  ·rw [if_pos c] at h0
   refine (zam ?_).trans (ih (k+1) (by omega) (by omega) h0 (fun b hb=>by
    rw [lget_take t.Files k hkl] at hb
    rcases List.mem_append.1 hb with q | q
    ·exact hgd b q
    ·rw [List.mem_singleton] at q; subst q; exact c))
   unfold R_InsideOf_v1_B1
   dsimp only
   rw [if_pos (d_t (by omega)),zaa (by omega),hop,zab,if_neg (n_f c),zaa (by simp; omega),hw,lget_take t.Files k hkl,List.map_append]; rfl
  ·rw [if_neg c] at h0
   refine zah ?_
   unfold R_InsideOf_v1_B1
   dsimp only
   rw [if_pos (d_t (by omega)),zaa (by omega),hop,zab,if_pos (n_t c),h0,if_pos c]; rfl
theorem rlogd0_eq (b:List UInt8) (h:b.length≤60000):R_Logged b=some ((logd b).1,(((logd b).2:Nat):Int)):=rlogd_eq b h
theorem inside_eq (t:Tablet):R_InsideOf_v1 t=some (insS t):=by
 unfold R_InsideOf_v1 insS headT R_F
 by_cases c1:t.Done<0∨1000000000<t.Done∨t.Since<0∨1000000000<t.Since
 ·rw [if_pos (by simp; omega),if_pos c1,if_pos (by simp)]; rfl
 ·rw [if_neg (by simp; omega),if_neg c1]
  by_cases c2:10<t.Files.length
  ·rw [if_pos (d_t (by omega)),if_pos c2,if_pos (by simp)]; rfl
  ·rw [if_neg (d_f (by omega)),if_neg c2,rdisk_eq]
   dsimp only [lt]
   by_cases c3:(dF t.Log).Code=0
   ·have hd:=dF_good.1 c3
    have hlen:=hd.len
    obtain ⟨l1,l2,l3⟩:=logd_le t.Log.Bytes
    rw [if_neg (n_f c3),if_neg (not_not_intro c3),rlogd0_eq t.Log.Bytes hlen,zab]
    dsimp only
    have e1:(logd t.Log.Bytes).1=zc4 t:=rfl
    rw [e1] at l2 l3 ⊢
    have hwn:w64 (((zc4 t).length:Int) - 1)=((zc4 t).length:Int) - 1:=zai (by omega) (by omega)
    rw [hwn]
    have go:¬ badT t→R_InsideOf_v1_J1 (zc4 t,(((logd t.Log.Bytes).2:Nat):Int)) (t,⟨[],0,[],[],[]⟩,⟨0,0⟩,zdr t)=some (if ¬ (ldF t.Files 0).Code=0 then (⟨[],0,[],[],[]⟩,ldF t.Files 0) else (⟨zc4 t,zdr t,memT t,filT t,allT t⟩,fillF (memT t) (filT t))):=fun _=>
     ins_loop t _ _ _ (by omega) (by omega) l3 t.Files.length 0 (by omega) (by omega) rfl (by simp)
    by_cases c4:(logd t.Log.Bytes).2=t.Log.Bytes.length
    ·rw [if_neg (n_f (by omega))]
     by_cases c5:0<(zc4 t).length
     ·have g0:=l3 _ (zcy (zc4 t) 0 (by omega))
      have hws:w64 ((zaf (zc4 t) 0).Seq - 1)=(zaf (zc4 t) 0).Seq - 1:=zai (by have:=g0.lo; omega) (by have:=g0.hi; omega)
      rw [if_pos (d_t (by omega)),zaa (by omega),zaa (by omega),zaa (by omega),zaa (by omega),hws]
      by_cases c6:t.Done+1<(zaf (zc4 t) 0).Seq∨(zaf (zc4 t) (((zc4 t).length:Int) - 1)).Seq<t.Done
      ·have hb:badT t:=.inr ⟨c5,c6⟩
       rw [if_pos (by simp only [Bool.or_eq_true,decide_eq_true_eq]; omega),if_pos hb,if_pos (by simp)]
      ·have hb:¬ badT t:=by unfold badT; rintro (q | ⟨_,q⟩) <;> contradiction
       rw [if_neg (by simp only [Bool.or_eq_true,decide_eq_true_eq]; omega),if_neg hb]
       have:=go hb
       unfold zdr at this ⊢
       rw [if_pos c5] at this ⊢
       exact this
     ·have hb:¬ badT t:=by unfold badT; rintro (q | ⟨q,_⟩) <;> contradiction
      rw [if_neg (d_f (by omega)),if_neg hb]
      have:=go hb
      unfold zdr at this ⊢
      rw [if_neg c5] at this ⊢
      exact this
    ·have hb:badT t:=.inl c4
     rw [if_pos (n_t (by omega)),if_pos hb,if_pos (by simp)]
   ·rw [if_pos (n_t c3),if_pos c3,if_pos c3]
theorem sameBodies_loop (a b:List (List UInt8)) (hl:a.length=b.length) (hb:a.length≤1000000):∀ (m k:Nat),a.length - k=m→k≤a.length→R_SameBodies_L1 a b (k:Int)=some (decide (a.drop k=b.drop k))
 | 0,k,e,hk=>by
  have:k=a.length:=by omega
  refine zah ?_
  simp only [R_SameBodies_B1]
  rw [if_neg (d_f (by omega))]
  have e1:a.drop k=[]:=List.drop_eq_nil_of_le (by omega)
  have e2:b.drop k=[]:=List.drop_eq_nil_of_le (by omega)
  simp [zem,R_SameBodies_J1,e1,e2]
 | m+1,k,e,hk=>by
  have hw:w64 ((k:Int)+1)=((k+1:Nat):Int):=by rw [zai (by omega) (by omega)]; omega
  have ih:=sameBodies_loop a b hl hb m (k+1) (by omega) (by omega)
  rw [zcp a k (by omega),zcp b k (by omega)]
  by_cases c:zaf a (k:Int)=zaf b (k:Int)
  ·refine (zam (y:=((k+1:Nat):Int)) ?_).trans (ih.trans (by simp [c]))
   dsimp only [R_SameBodies_B1,R_Same,lt]
   rw [if_pos (d_t (by omega)),zaa (by omega),zaa (by omega),if_neg (by simp [c]),hw]
  ·refine zah ?_
   dsimp only [R_SameBodies_B1,R_Same,lt]
   rw [if_pos (d_t (by omega)),zaa (by omega),zaa (by omega),if_pos (by simp [c])]
   simp [c]
theorem sameBodies_eq (a b:List (List UInt8)) (hb:a.length≤1000000):R_SameBodies a b=some (decide (a=b)):=by
 unfold R_SameBodies
 by_cases c:a.length=b.length
 ·rw [if_neg (by simp [c])]
  have:=sameBodies_loop a b c hb a.length 0 (by omega) (by omega)
  simpa using this
 ·rw [if_pos (by simp; omega)]
  have:a≠b:=fun h=>c (by rw [h])
  simp [this]
theorem sameT_eq (a b:Tablet) (hb:a.Files.length≤1000000):zbb a b=some (decide (a=b)):=by
 unfold zbb
 rw [sameDisk_iff]
 dsimp only [lt]
 obtain ⟨l,f,d,s⟩:=a
 obtain ⟨l',f',d',s'⟩:=b
 dsimp only at hb ⊢
 by_cases c:l=l'
 ·rw [decide_eq_true c,if_pos rfl,sameBodies_eq _ _ hb,zab]
  subst c
  by_cases c2:f=f' <;> by_cases c3:d=d' <;> by_cases c4:s=s' <;> simp [c2,c3,c4]
 ·rw [decide_eq_false c,if_neg (by simp),zab]
  simp [c]
def sumL (l:List (List UInt8)):Nat:=(l.map List.length).sum
theorem sumL_cons (s:List UInt8) (l:List (List UInt8)):sumL (s::l)=s.length+sumL l:=by simp [sumL]
theorem sumL_mem:∀ (l:List (List UInt8)) (b:List UInt8),b∈l→b.length≤sumL l
 | s::l,b,h=>by
  rw [sumL_cons]
  rcases List.mem_cons.1 h with e | e
  ·rw [e]; omega
  ·have:=sumL_mem l b e; omega
theorem sumL_le:∀ (l:List (List UInt8)),(∀ b∈l,b.length≤140737488351232)→sumL l≤140737488351232*l.length
 | [],_=>by simp [sumL]
 | s::l,h=>by
  have h1:=sumL_le l fun b hb=>h b (List.mem_cons_of_mem _ hb)
  have h2:=h s (List.mem_cons_self ..)
  rw [sumL_cons,List.length_cons]; omega
theorem vast_val (t:Tablet) (hf:t.Files.length≤100) (hb:∀ b∈t.Files,b.length≤140737488351232):∀ (m k v:Nat),t.Files.length - k=m→k≤t.Files.length→v+sumL (t.Files.drop k)≤100000000000000000→
  law_vastTablet_L1 (t,(v:Int),(k:Int))=some (decide (20000<v+sumL (t.Files.drop k)))
 | 0,k,v,e,hk,hv=>by
  have:k=t.Files.length:=by omega
  subst this
  refine zah ?_
  unfold ze4 law_vastTablet_J1
  dsimp only
  rw [if_neg (d_f (by omega)),List.drop_length]
  have:sumL []=0:=rfl
  rw [this,decide_eq_false (show ¬ (100<(t.Files.length:Int)) by omega),Bool.or_false,decide_eq_decide.2 (show 20000<(v:Int)↔20000<v+0 by omega)]; rfl
 | m+1,k,v,e,hk,hv=>by
  have hkl:k<t.Files.length:=by omega
  rw [zcp t.Files k hkl,sumL_cons] at hv ⊢
  have h1:w64 ((k:Int)+1)=((k+1:Nat):Int):=by rw [zai (by omega) (by omega)]; omega
  have h2:w64 ((v:Int)+((zaf t.Files (k:Int)).length:Int))=((v+(zaf t.Files (k:Int)).length:Nat):Int):=by rw [zai (by omega) (by omega)]; omega
  refine (zam ?_).trans ((vast_val t hf hb m (k+1) (v+(zaf t.Files (k:Int)).length) (by omega) (by omega) (by omega)).trans (by rw [Nat.add_assoc]))
  unfold ze4
  dsimp only
  rw [if_pos (d_t (by omega)),zaa (by omega),h1,h2]
structure Few (t:Tablet):Prop where
 log:t.Log.Bytes.length≤20000
 files:t.Files.length≤100
 each:∀ b∈t.Files,b.length≤20000
theorem vast_eq (t:Tablet) (h0:t.Log.Bytes.length≤140737488351232) (hl:t.Files.length≤140737488351232) (hb:∀ b∈t.Files,b.length≤140737488351232):∃ b,law_vastTablet t=some b∧(b=false→Few t):=by
 obtain ⟨b,h1,h2⟩:=vastT_run t hl
 refine ⟨b,h1,fun hbf=>?_⟩
 have hf:=h2 hbf
 have hs:=sumL_le t.Files hb
 have:=vast_val t hf hb t.Files.length 0 t.Log.Bytes.length (by omega) (by omega) (by rw [List.drop_zero]; omega)
 have h3:law_vastTablet t=law_vastTablet_L1 (t,(t.Log.Bytes.length:Int),((0:Nat):Int)):=rfl
 rw [h3,this,hbf,List.drop_zero] at h1
 have h4:¬ 20000<t.Log.Bytes.length+sumL t.Files:=by simpa using h1
 exact ⟨by omega,hf,fun x hx=>by have:=sumL_mem _ _ hx; omega⟩
theorem ownB_eq (l:List (List UInt8)) (hl:l.length≤1000) (hb:∀ b∈l,b.length≤1000000):law_ownBodies_v1 l=some l:=by
 have key:∀ (m k:Nat),l.length - k=m→k≤l.length→law_ownBodies_v1_L1 l (l.take k,(k:Int))=some l:=by
  intro m
  induction m with
  | zero=>
   intro k e hk
   have:k=l.length:=by omega
   subst this
   refine zah ?_
   unfold law_ownBodies_v1_B1 law_ownBodies_v1_J1
   dsimp only
   rw [if_neg (d_f (by omega)),List.take_length]; rfl
  | succ m ih=>
   intro k e hk
   have hkl:k<l.length:=by omega
   have hw:w64 ((k:Int)+1)=((k+1:Nat):Int):=by rw [zai (by omega) (by omega)]; omega
   have hx:=hb _ (zcy l (k:Int) (by omega))
   refine (zam ?_).trans (ih (k+1) (by omega) (by omega))
   unfold law_ownBodies_v1_B1 law_ownBytes_v1
   dsimp only
   rw [if_pos (d_t (by omega)),zaa (by omega),zaa (by omega),zab,zaa (by simp; omega),hw,lget_take l k hkl]
 exact key l.length 0 (by omega) (by omega)
theorem ownT_eq {t:Tablet} (h:Few t):law_ownTablet t=some t:=by
 unfold law_ownTablet law_ownDisk law_ownBytes_v1
 have:=h.log
 rw [zaa (by omega),zab,zab,ownB_eq _ (by have:=h.files; omega) (fun b hb=>by have:=h.each b hb; omega),zab]
noncomputable def syncS (t:Tablet):Tablet×Fault:=
 if ¬ (tabF t).Code=0 then (T0,tabF t) else (⟨⟨t.Log.Bytes,(t.Log.Bytes.length:Int)⟩,t.Files,t.Done,t.Since⟩,⟨0,0⟩)
theorem tsync_eq (t:Tablet):tablet_Sync_v1 t=some (syncS t):=by
 unfold tablet_Sync_v1 tablet_with_v3 syncS
 rw [load_eq,zab]
 by_cases h1:(headT t).Code=0
 ·rw [loadS_ok h1]
  dsimp only [sm]
  by_cases h2:(fillF (memT t) (filT t)).Code=0
  ·have hz:(tabF t).Code=0:=by unfold tabF; rw [if_neg (not_not_intro h1)]; exact h2
   have hT:=tabF_good hz
   rw [if_neg (n_f h2),if_neg (not_not_intro hz)]
   dsimp only [lt,tablet_Sync_1]
   rw [if_neg (n_f rfl),own_eq _ (by
    show t.Log.Bytes.length≤1000000
    have:=hT.log.len
    omega) (by show t.Files.length≤1000; have:=hT.few; omega) (fun b hb=>by have:=(hT.fil b hb).2; omega),zab,zab]
  ·have hf:tabF t=fillF (memT t) (filT t):=by unfold tabF; rw [if_neg (not_not_intro h1)]
   rw [if_pos (n_t h2),zab,hf,if_pos h2]; rfl
 ·have hf:tabF t=headT t:=by unfold tabF; rw [if_pos h1]
  rw [loadS_bad h1]
  dsimp only [sm]
  rw [if_pos (n_t h1),zab,hf,if_pos h1]; rfl
def crD (t:Tablet) (n:Int):List UInt8:=t.Log.Bytes.take (t.Log.Kept+n).toNat
open Classical in
noncomputable def crK (t:Tablet) (n:Int):Nat:=if (logd (crD t n)).1.length=0∨(zaf (logd (crD t n)).1 (((logd (crD t n)).1.length:Int) - 1)).Seq<t.Done then 0 else (logd (crD t n)).2
noncomputable def crF (t:Tablet) (n:Int):Fault:=if n<0∨(t.Log.Bytes.length:Int) - t.Log.Kept<n then ⟨3,-1⟩ else ⟨0,0⟩
noncomputable def crashS (t:Tablet) (n:Int):Tablet×Fault:=
 if ¬ (tabF t).Code=0 then (T0,tabF t)
 else if ¬ (crF t n).Code=0 then (T0,crF t n)
 else (⟨⟨t.Log.Bytes.take (crK t n),(crK t n:Int)⟩,t.Files,t.Done,t.Since⟩,⟨0,0⟩)
theorem crK_le (t:Tablet) (n:Int):crK t n≤(crD t n).length∧crK t n≤t.Log.Bytes.length:=by
 have h1:=(logd_le (crD t n)).1
 have h2:(crD t n).length≤t.Log.Bytes.length:=by unfold crD; rw [List.length_take]; omega
 unfold crK
 split
 ·exact ⟨by omega,by omega⟩
 ·exact ⟨h1,by omega⟩
theorem crD_take (t:Tablet) (n:Int):(crD t n).take (crK t n)=t.Log.Bytes.take (crK t n):=by
 have h:=(crK_le t n).1
 have h2:(crD t n).length≤(t.Log.Kept+n).toNat:=by unfold crD; rw [List.length_take]; omega
 unfold crD
 rw [List.take_take,Nat.min_eq_left (by omega)]
theorem crash1_eq (t:Tablet) (n:Int) (h:TG t) (z:List UInt8) (z1 z2 z3 z4:Int) (f:List (List UInt8)) (a:List Note) (b:List Cell) (c:List (List Cell)):tablet_Crash_1_v1 z z1 f z2 z3 z4 t n a b c =
  some (if ¬ (crF t n).Code=0 then (crF t n,z,z1,f,z2,z3,z4,t) else (⟨0,0⟩,t.Log.Bytes.take (crK t n),(crK t n:Int),f,z2,z3,z4,t)):=by
 have hd:=h.log
 have hl:=hd.len
 have h0:=hd.k0
 have h1:=hd.k1
 have hw:w64 ((t.Log.Bytes.length:Int) - t.Log.Kept)=(t.Log.Bytes.length:Int) - t.Log.Kept:=zai (by omega) (by omega)
 unfold tablet_Crash_1_v1 disk_Crash disk_cut crF
 rw [dcheck_eq,dF_zero hd,hw]
 dsimp only [lt]
 rw [if_neg (by simp)]
 by_cases c1:n<0∨(t.Log.Bytes.length:Int) - t.Log.Kept<n
 ·rw [if_pos (by simp only [Bool.or_eq_true,decide_eq_true_eq]; exact c1),if_pos c1,zab]
  rfl
 ·rw [if_neg (by simp only [Bool.or_eq_true,decide_eq_true_eq]; exact c1),if_neg c1]
  have e:w64 (t.Log.Kept+n)=(((t.Log.Kept+n).toNat:Nat):Int):=by rw [zai (by omega) (by omega)]; omega
  have hdl:(crD t n).length≤60000:=by unfold crD; rw [List.length_take]; omega
  rw [e,zaa (by omega),zce,clone_eq _ (by rw [List.length_take]; omega),zab,zab]
  show ob (some (crD t n,(((t.Log.Kept+n).toNat:Nat):Int),(⟨0,0⟩:Fault))) _=_
  rw [zab]
  dsimp only
  rw [if_neg (by simp),wnotes_eq ⟨crD t n,_⟩ hdl,zab]
  dsimp only
  obtain ⟨l1,l2,l3⟩:=logd_le (crD t n)
  have hwn:w64 (((logd (crD t n)).1.length:Int) - 1)=((logd (crD t n)).1.length:Int) - 1:=zai (by omega) (by omega)
  rw [hwn,zaa (fun q=>by rw [Bool.not_eq_true',decide_eq_false_iff_not] at q; omega),zaa (fun q=>by rw [Bool.not_eq_true',decide_eq_false_iff_not] at q; omega)]
  have hk:=crK_le t n
  have ht:=crD_take t n
  have hv:(if ((decide (((logd (crD t n)).1.length:Int)=0))||(decide ((zaf (logd (crD t n)).1 (((logd (crD t n)).1.length:Int) - 1)).Seq<t.Done)))=true then
    some ((⟨0,0⟩:Fault),(⟨0,0⟩:Fault),(0:Int),t)
   else
    some ((⟨0,0⟩:Fault),(⟨0,0⟩:Fault),(((logd (crD t n)).2:Nat):Int),t))=some ((⟨0,0⟩:Fault),(⟨0,0⟩:Fault),(crK t n:Int),t):=by
   unfold crK
   by_cases c2:(logd (crD t n)).1.length=0∨(zaf (logd (crD t n)).1 (((logd (crD t n)).1.length:Int) - 1)).Seq<t.Done
   ·rw [if_pos (by simp only [Bool.or_eq_true,decide_eq_true_eq]; exact c2.imp (fun q=>by omega) id),if_pos c2]; rfl
   ·rw [if_neg (by simp only [Bool.or_eq_true,decide_eq_true_eq]; exact fun q=>c2 (q.imp (fun q=>by omega) id)),if_neg c2]
  rw [hv,zab]
  dsimp only
  rw [zaa (by omega),zce,ht,if_neg (by simp)]
theorem tcrash_eq (t:Tablet) (n:Int):tablet_Crash_v1 t n=some (crashS t n):=by
 unfold tablet_Crash_v1 tablet_with_v4 crashS
 rw [load_eq,zab]
 by_cases h1:(headT t).Code=0
 ·rw [loadS_ok h1]
  dsimp only [sm]
  by_cases h2:(fillF (memT t) (filT t)).Code=0
  ·have hz:(tabF t).Code=0:=by unfold tabF; rw [if_neg (not_not_intro h1)]; exact h2
   have hT:=tabF_good hz
   rw [if_neg (n_f h2),if_neg (not_not_intro hz),crash1_eq t n hT,zab]
   by_cases h3:(crF t n).Code=0
   ·have hk:=(crK_le t n).2
    have hl:=hT.log.len
    rw [if_neg (not_not_intro h3),if_neg (not_not_intro h3)]
    dsimp only
    rw [if_neg (by simp),own_eq _ (by
     show (t.Log.Bytes.take (crK t n)).length≤1000000
     rw [List.length_take]; omega) (by show t.Files.length≤1000; have:=hT.few; omega) (fun b hb=>by have:=(hT.fil b hb).2; omega),zab,zab]
   ·rw [if_pos h3,if_pos h3]
    dsimp only
    rw [if_pos (n_t h3),zab]; rfl
  ·have hf:tabF t=fillF (memT t) (filT t):=by unfold tabF; rw [if_neg (not_not_intro h1)]
   rw [if_pos (n_t h2),zab,hf,if_pos h2]; rfl
 ·have hf:tabF t=headT t:=by unfold tabF; rw [if_pos h1]
  rw [loadS_bad h1]
  dsimp only [sm]
  rw [if_pos (n_t h1),zab,hf,if_pos h1]; rfl
theorem fsame (f:Fault):¬ (!(decide (f.Code=f.Code)&&(decide (f.At=f.At)&&true)))=true:=by simp
theorem same0:zbb T0 T0=some true:=by rw [sameT_eq _ _ (by simp [T0])]; simp
theorem as3_bad {w:Fault} (h:¬ w.Code=0) (b:Tablet) (i:Inside) (s:Int):zdn T0 w w b i s=some true:=by
 unfold zdn
 rw [if_neg (fsame w),if_pos (n_t h)]
 show ob (zbb T0 T0) _=_
 rw [same0]; rfl
theorem as4_bad {w:Fault} (h:¬ w.Code=0) (i:Inside) (b:Tablet):zdo T0 w w i b=some true:=by
 unfold zdo
 rw [if_neg (fsame w),if_pos (n_t h)]
 show ob (zbb T0 T0) _=_
 rw [same0]; rfl
theorem rfile0_eq {l:List Cell} (hg:∀ c∈l,zaw c=0) (hl:l.length≤1000) (size:Int):R_FileOf l size=some (ze0 l size):=rfile_eq hg hl size
theorem mem_good {t:Tablet} (h:TG t):Good (memT t):=by
 have hm:=h.mem
 refine good_of (by omega) (fun c hc=>?_) (firsts_ok _).1
 obtain ⟨n,h1,h2⟩:=allC_mem.1 (firsts_mem hc)
 exact ((logd_le t.Log.Bytes).2.2 n (abv_sub t.Done _ n h1)).cells.code c h2
theorem made_eq {l:List Cell} (hg:Good l) {size:Int} (hs:¬ (size<50∨4000<size)):R_MadeFault l size=some (makeF l size):=by
 unfold R_MadeFault makeF
 rw [hg.f,if_neg (show ¬ ¬ (⟨0,0⟩:Fault).Code=0 by simp)]
 by_cases c1:500<l.length
 ·rw [if_pos (d_t (by omega)),if_pos c1]; rfl
 ·rw [if_neg (d_f (by omega)),if_neg c1,if_neg hs,rfile0_eq hg.code hg.len size,zab]
  by_cases c2:60000<(ze0 l size).length
  ·rw [if_pos (d_t (by omega)),if_pos c2]; rfl
  ·rw [if_neg (d_f (by omega)),if_neg c2]
theorem rsize_eq (size:Int):law_sizeFault size=sizF size:=sized_eq size
theorem above1_eq (l:List Note) (done:Int) (hl:l.length≤1000000):R_Above_v1 l done=some (l.filter fun n=>decide (done<n.Seq)):=above_eq l done hl
theorem logOf_eq (l:List Note) (hg:∀ n∈l,NGood n) (hl:l.length≤100000):R_LogOf_v1 l=some (frm l):=by
 have key:∀ (R D:List Note),l=D++R→(frm D).length≤7006*D.length→R_LogOf_v1_L1 l (frm D,(D.length:Int))=some (frm l):=by
  intro R
  induction R with
  | nil=>
   intro D e _
   rw [List.append_nil] at e
   subst e
   refine zah ?_
   unfold R_LogOf_v1_B1 R_LogOf_v1_J1
   dsimp only
   rw [if_neg (d_f (by omega))]; rfl
  | cons n R ih=>
   intro D e hD
   have hn:NGood n:=hg n (by rw [e]; simp)
   have hDl:D.length+(R.length+1)=l.length:=by rw [e]; simp
   have hget:zaf l (D.length:Int)=n:=by rw [e,zb3 _ D.length (by simp)]; simp
   have hw:w64 ((D.length:Int)+1)=(((D++[n]).length:Nat):Int):=by rw [zai (by omega) (by omega)]; simp
   have hel:=encN_len hn
   have hfr:=zcc (encN n)
   have hfa:frm (D++[n])=frm D++frame (encN n):=by rw [frm_app]; simp [frm]
   have hal:(frm D++frame (encN n)).length≤7006*(D++[n]).length:=by
    rw [List.length_append,List.length_append,List.length_singleton,hfr]; omega
   refine (zam ?_).trans (ih (D++[n]) (by rw [e]; simp) (by rw [hfa]; exact hal))
   rw [hfa]
   unfold R_LogOf_v1_B1
   dsimp only
   have hal2:(frm D++frame (encN n)).length≤7006*(D.length+1):=by
    have:=hal
    simp only [List.length_append,List.length_singleton] at this ⊢
    omega
   rw [if_pos (d_t (by omega)),zaa (by omega),hget]
   show ob (R_NoteBytes_v1 n) _=_
   rw [noteBytes_eq n hn,zab,framed_eq _ (by omega),zab,zaa (by omega),hw]
 exact key l [] rfl (by simp [frm])
theorem does_flush (t:Tablet) (size:Int):(ob (
     if (decide ((tabF t).Code=0))=true then
      lt (law_sizeFault size) fun x26=>
      some (t,(flushS t size).1,(flushS t size).2,(cutS t).1,(cutS t).2,(insS t).1,(tabF t),x26)
     else
      some (t,(flushS t size).1,(flushS t size).2,(cutS t).1,(cutS t).2,(insS t).1,(tabF t),(tabF t))) fun (v5:Tablet×Tablet×Fault×Tablet×Fault×Inside×Fault×Fault)=>
    ob (
     if ((decide (v5.2.2.2.2.2.2.2.Code=0))&&(decide (v5.2.2.2.2.2.1.Last=v5.1.Done)))=true then
      lt (R_F 6 0) fun x27=>
      some (v5.1,v5.2.1,v5.2.2.1,v5.2.2.2.1,v5.2.2.2.2.1,v5.2.2.2.2.2.1,v5.2.2.2.2.2.2.1,x27)
     else
      some (v5.1,v5.2.1,v5.2.2.1,v5.2.2.2.1,v5.2.2.2.2.1,v5.2.2.2.2.2.1,v5.2.2.2.2.2.2.1,v5.2.2.2.2.2.2.2)) fun (v6:Tablet×Tablet×Fault×Tablet×Fault×Inside×Fault×Fault)=>
    ob (
     if ((decide (v6.2.2.2.2.2.2.2.Code=0))&&(decide ((v6.1.Files.length:Int)=10)))=true then
      lt (R_F 2 (-2)) fun x28=>
      some (v6.1,v6.2.1,v6.2.2.1,v6.2.2.2.1,v6.2.2.2.2.1,v6.2.2.2.2.2.1,v6.2.2.2.2.2.2.1,x28)
     else
      some (v6.1,v6.2.1,v6.2.2.1,v6.2.2.2.1,v6.2.2.2.2.1,v6.2.2.2.2.2.1,v6.2.2.2.2.2.2.1,v6.2.2.2.2.2.2.2)) fun (v7:Tablet×Tablet×Fault×Tablet×Fault×Inside×Fault×Fault)=>
    ob (
     if (decide (v7.2.2.2.2.2.2.2.Code=0))=true then
      ob (R_MadeFault v7.2.2.2.2.2.1.Mem size) fun x29=>
      some (v7.1,v7.2.1,v7.2.2.1,v7.2.2.2.1,v7.2.2.2.2.1,v7.2.2.2.2.2.1,v7.2.2.2.2.2.2.1,x29)
     else
      some (v7.1,v7.2.1,v7.2.2.1,v7.2.2.2.1,v7.2.2.2.2.1,v7.2.2.2.2.2.1,v7.2.2.2.2.2.2.1,v7.2.2.2.2.2.2.2)) fun (v8:Tablet×Tablet×Fault×Tablet×Fault×Inside×Fault×Fault)=>
    ob (zdn v8.2.1 v8.2.2.1 v8.2.2.2.2.2.2.2 v8.1 v8.2.2.2.2.2.1 size) fun x30=>
    if (!x30)=true then
     some false
    else
     ob (zdo v8.2.2.2.1 v8.2.2.2.2.1 v8.2.2.2.2.2.2.1 v8.2.2.2.2.2.1 v8.1) fun x31=>
     some x31)=some true:=by
 by_cases c0:(tabF t).Code=0
 ·have hT:=tabF_good c0
  have hi:insS t=(⟨zc4 t,zdr t,memT t,filT t,allT t⟩,⟨0,0⟩):=by
   have h2:=insS_f t
   rw [hT.f] at h2
   have h1:(insS t).1=⟨zc4 t,zdr t,memT t,filT t,allT t⟩:=by unfold insS; rw [hT.head,if_neg (by simp)]
   exact Prod.ext h1 h2
  rw [hi,hT.f]
  have hcut:zdo (cutS t).1 (cutS t).2 ⟨0,0⟩ ⟨zc4 t,zdr t,memT t,filT t,allT t⟩ t=some true:=by
   obtain ⟨l1,l2,l3⟩:=logd_le t.Log.Bytes
   have hlen:=hT.log.len
   have hn:(zc4 t).length≤60000:=by unfold zc4; omega
   have hc:cutS t=(⟨⟨cutB t,((cutB t).length:Int)⟩,t.Files,t.Done,t.Since⟩,⟨0,0⟩):=by unfold cutS; rw [if_neg (not_not_intro c0)]
   have hfl:=List.length_filter_le (fun n:Note=>decide (t.Done<n.Seq)) (zc4 t)
   unfold zdo law_TabletDoes_5
   rw [hc,if_neg (fsame _),if_neg (by simp)]
   show ob (ob (R_Above_v1 (zc4 t) t.Done) _) _=_
   rw [above1_eq _ _ (by omega),zab,logOf_eq ((zc4 t).filter fun n=>decide (t.Done<n.Seq)) (fun n hn=>l3 n (List.mem_filter.1 hn).1) (by omega),zab,zab,sameT_eq _ _ (by show t.Files.length≤1000000; have:=hT.few; omega),zab]
   simp [cutB]
  have fin:zdn (flushS t size).1 (flushS t size).2 (flushF t size) t ⟨zc4 t,zdr t,memT t,filT t,allT t⟩ size=some true:=by
   by_cases c1:(flushF t size).Code=0
   ·have hs:(sizF size).Code=0:=Classical.byContradiction fun q=>by unfold flushF at c1; rw [if_pos q] at c1; exact q c1
    have hm:makeF (memT t) size=⟨0,0⟩∧flushF t size=⟨0,0⟩:=by
     unfold flushF at c1 ⊢
     rw [if_neg (not_not_intro hs)] at c1 ⊢
     by_cases c2:zdr t=t.Done
     ·rw [if_pos c2] at c1; cases c1
     ·rw [if_neg c2] at c1 ⊢
      by_cases c3:t.Files.length=10
      ·rw [if_pos c3] at c1; cases c1
      ·rw [if_neg c3] at c1 ⊢
       exact ⟨(makeF_ok c1).1,(makeF_ok c1).1⟩
    have hf:flushS t size=(⟨t.Log,ze0 (memT t) size::t.Files,zdr t,t.Since⟩,⟨0,0⟩):=by unfold flushS; rw [if_neg (not_not_intro c0),if_neg (not_not_intro c1)]
    have hg:=mem_good hT
    unfold zdn law_TabletDoes_4_v1
    rw [hf,hm.2,if_neg (fsame _),if_neg (by simp)]
    dsimp only
    rw [rfile0_eq hg.code hg.len size,zab,zaa (by have:=hT.few; simp; omega),zab,sameT_eq _ _ (by have:=hT.few; simp; omega),zab]
    simp
   ·have hf:flushS t size=(T0,flushF t size):=by unfold flushS; rw [if_neg (not_not_intro c0),if_pos c1]
    rw [hf]
    exact as3_bad c1 _ _ _
  rw [if_pos (by simp),rsize_eq]
  dsimp only [lt]
  rw [zab]
  dsimp only
  by_cases c1:(sizF size).Code=0
  ·have hs:¬ (size<50∨4000<size):=fun q=>by unfold sizF at c1; rw [if_pos q] at c1; cases c1
   have hz:sizF size=⟨0,0⟩:=by unfold sizF; rw [if_neg hs]
   by_cases c2:zdr t=t.Done
   ·have hF:flushF t size=⟨6,0⟩:=by unfold flushF; rw [if_neg (not_not_intro c1),if_pos c2]
    rw [hF] at fin
    rw [if_pos (by simp [c1,c2])]
    dsimp only [R_F]
    rw [zab]
    dsimp only
    rw [if_neg (by simp),zab]
    dsimp only
    rw [if_neg (by simp),zab]
    dsimp only
    rw [fin,zab,if_neg (by simp),hcut,zab]
   ·rw [if_neg (by simp [c2]),zab]
    dsimp only
    by_cases c3:t.Files.length=10
    ·have hF:flushF t size=⟨2,-2⟩:=by unfold flushF; rw [if_neg (not_not_intro c1),if_neg c2,if_pos c3]
     rw [hF] at fin
     rw [if_pos (by simp [c1,c3])]
     dsimp only [R_F]
     rw [zab]
     dsimp only
     rw [if_neg (by simp),zab]
     dsimp only
     rw [fin,zab,if_neg (by simp),hcut,zab]
    ·have hF:flushF t size=makeF (memT t) size:=by unfold flushF; rw [if_neg (not_not_intro c1),if_neg c2,if_neg c3]
     rw [hF] at fin
     rw [if_neg (by simp; omega),zab]
     dsimp only
     rw [if_pos (d_t c1),made_eq (mem_good hT) hs,zab,zab]
     dsimp only
     rw [fin,zab,if_neg (by simp),hcut,zab]
  ·have hF:flushF t size=sizF size:=by unfold flushF; rw [if_pos c1]
   rw [hF] at fin
   rw [if_neg (by simp [c1]),zab]
   dsimp only
   rw [if_neg (by simp [c1]),zab]
   dsimp only
   rw [if_neg (d_f c1),zab]
   dsimp only
   rw [fin,zab,if_neg (by simp),hcut,zab]
 ·have hf:flushS t size=(T0,tabF t):=by unfold flushS; rw [if_pos c0]
  have hc:cutS t=(T0,tabF t):=by unfold cutS; rw [if_pos c0]
  rw [hf,hc,if_neg (d_f c0),zab]
  dsimp only
  rw [if_neg (by simp [c0]),zab]
  dsimp only
  rw [if_neg (by simp [c0]),zab]
  dsimp only
  rw [if_neg (d_f c0),zab]
  dsimp only
  rw [as3_bad c0,zab,if_neg (by simp),as4_bad c0,zab]
def Lk (t w:Tablet):Prop:=w.Files=t.Files∧w.Done=t.Done∧w.Since=t.Since
theorem as1_eq (t wn:Tablet) (hw:Lk t wn):∃ w2,law_tabletAs_v1 (syncS t).1 (syncS t).2 (tabF t) t wn=some (true,w2)∧Lk t w2:=by
 obtain ⟨h1,h2,h3⟩:=hw
 unfold law_tabletAs_v1 syncS
 by_cases c:(tabF t).Code=0
 ·have hT:=tabF_good c
  rw [if_neg (not_not_intro c),hT.f,if_neg (fsame _),if_neg (by simp)]
  dsimp only [lt,law_TabletDoes_2]
  rw [h1,h2,h3,sameT_eq _ _ (by show t.Files.length≤1000000; have:=hT.few; omega),zab]
  exact ⟨⟨⟨t.Log.Bytes,(t.Log.Bytes.length:Int)⟩,t.Files,t.Done,t.Since⟩,by simp,rfl,rfl,rfl⟩
 ·rw [if_pos c,if_neg (fsame _),if_pos (n_t c)]
  show ∃ w2,ob (zbb T0 T0) _=_∧_
  rw [same0,zab]
  exact ⟨_,rfl,h1,h2,h3⟩
noncomputable def crV (t:Tablet) (n:Int):Fault:=if ¬ (tabF t).Code=0 then tabF t else crF t n
theorem as2_eq (t w2:Tablet) (n:Int) (hw:Lk t w2):∃ w3,law_tabletAs_v2 (crashS t n).1 (crashS t n).2 (crV t n) t n w2=some (true,t,w3):=by
 obtain ⟨h1,h2,h3⟩:=hw
 unfold law_tabletAs_v2 crashS crV
 by_cases c:(tabF t).Code=0
 ·have hT:=tabF_good c
  rw [if_neg (not_not_intro c),if_neg (not_not_intro c)]
  by_cases c2:(crF t n).Code=0
  ·have hz:crF t n=⟨0,0⟩∧0≤n∧n≤(t.Log.Bytes.length:Int) - t.Log.Kept:=by
    unfold crF at c2 ⊢
    by_cases q:n<0∨(t.Log.Bytes.length:Int) - t.Log.Kept<n
    ·rw [if_pos q] at c2; cases c2
    ·rw [if_neg q]; exact ⟨rfl,by omega,by omega⟩
   obtain ⟨hz,n0,n1⟩:=hz
   have hd:=hT.log
   have hl:=hd.len
   have h0:=hd.k0
   have hk1:=hd.k1
   have e:w64 (t.Log.Kept+n)=(((t.Log.Kept+n).toNat:Nat):Int):=by rw [zai (by omega) (by omega)]; omega
   have hdl:(crD t n).length≤60000:=by unfold crD; rw [List.length_take]; omega
   obtain ⟨l1,l2,l3⟩:=logd_le (crD t n)
   have hwn:w64 (((logd (crD t n)).1.length:Int) - 1)=((logd (crD t n)).1.length:Int) - 1:=zai (by omega) (by omega)
   have hk:=crK_le t n
   rw [if_neg (not_not_intro c2),hz,if_neg (fsame _),if_neg (by simp)]
   unfold law_TabletDoes_3
   rw [e,zaa (by omega),zce]
   show ∃ w3,ob (ob (R_Logged_v1 (crD t n)) _) _=_
   rw [rlogd_eq _ hdl,zab]
   dsimp only
   rw [hwn,zaa (fun q=>by rw [Bool.not_eq_true',decide_eq_false_iff_not] at q; omega)]
   have hv:(if ((decide (((logd (crD t n)).1.length:Int)=0))||(decide ((zaf (logd (crD t n)).1 (((logd (crD t n)).1.length:Int) - 1)).Seq<t.Done)))=true then
     some (t,w2,(⟨(⟨([]:List UInt8),0⟩:Disk),([]:List (List UInt8)),0,0⟩:Tablet),(0:Int))
    else
     some (t,w2,(⟨(⟨([]:List UInt8),0⟩:Disk),([]:List (List UInt8)),0,0⟩:Tablet),(((logd (crD t n)).2:Nat):Int)))=some (t,w2,T0,(crK t n:Int)):=by
    unfold crK
    by_cases c2:(logd (crD t n)).1.length=0∨(zaf (logd (crD t n)).1 (((logd (crD t n)).1.length:Int) - 1)).Seq<t.Done
    ·rw [if_pos (by simp only [Bool.or_eq_true,decide_eq_true_eq]; exact c2.imp (fun q=>by omega) id),if_pos c2]; rfl
    ·rw [if_neg (by simp only [Bool.or_eq_true,decide_eq_true_eq]; exact fun q=>c2 (q.imp (fun q=>by omega) id)),if_neg c2]; rfl
   rw [hv,zab]
   dsimp only
   rw [zaa (by omega),zab,zce,h1,h2,h3,sameT_eq _ _ (by show t.Files.length≤1000000; have:=hT.few; omega),zab]
   exact ⟨_,by simp; rfl⟩
  ·rw [if_pos c2,if_neg (fsame _),if_pos (n_t c2)]
   show ∃ w2,ob (zbb T0 T0) _=_
   rw [same0,zab]
   exact ⟨_,rfl⟩
 ·rw [if_pos c,if_pos c,if_neg (fsame _),if_pos (n_t c)]
  show ∃ w2,ob (zbb T0 T0) _=_
  rw [same0,zab]
  exact ⟨_,rfl⟩
theorem does_sync (t wn:Tablet) (num size:Int) (hw:Lk t wn):(ob (law_tabletAs_v1 (syncS t).1 (syncS t).2 (tabF t) t wn) fun x23=>
  if (!x23.1)=true then
   some false
  else
   ob (
    if ((decide ((tabF t).Code=0))&&((decide (num<0))||(decide ((w64 ((t.Log.Bytes.length:Int) - t.Log.Kept))<num))))=true then
     lt (R_F 3 (-1)) fun x24=>
     some (t,(crashS t num).1,(crashS t num).2,(flushS t size).1,(flushS t size).2,(cutS t).1,(cutS t).2,(insS t).1,(tabF t),x24,x23.2)
    else
     some (t,(crashS t num).1,(crashS t num).2,(flushS t size).1,(flushS t size).2,(cutS t).1,(cutS t).2,(insS t).1,(tabF t),(tabF t),x23.2)) fun (v4:Tablet×Tablet×Fault×Tablet×Fault×Tablet×Fault×Inside×Fault×Fault×Tablet)=>
   ob (law_tabletAs_v2 v4.2.1 v4.2.2.1 v4.2.2.2.2.2.2.2.2.2.1 v4.1 num v4.2.2.2.2.2.2.2.2.2.2) fun x25=>
   if (!x25.1)=true then
    some false
   else
    ob (
     if (decide (v4.2.2.2.2.2.2.2.2.1.Code=0))=true then
      lt (law_sizeFault size) fun x26=>
      some (x25.2.1,v4.2.2.2.1,v4.2.2.2.2.1,v4.2.2.2.2.2.1,v4.2.2.2.2.2.2.1,v4.2.2.2.2.2.2.2.1,v4.2.2.2.2.2.2.2.2.1,x26)
     else
      some (x25.2.1,v4.2.2.2.1,v4.2.2.2.2.1,v4.2.2.2.2.2.1,v4.2.2.2.2.2.2.1,v4.2.2.2.2.2.2.2.1,v4.2.2.2.2.2.2.2.2.1,v4.2.2.2.2.2.2.2.2.1)) fun (v5:Tablet×Tablet×Fault×Tablet×Fault×Inside×Fault×Fault)=>
    ob (
     if ((decide (v5.2.2.2.2.2.2.2.Code=0))&&(decide (v5.2.2.2.2.2.1.Last=v5.1.Done)))=true then
      lt (R_F 6 0) fun x27=>
      some (v5.1,v5.2.1,v5.2.2.1,v5.2.2.2.1,v5.2.2.2.2.1,v5.2.2.2.2.2.1,v5.2.2.2.2.2.2.1,x27)
     else
      some (v5.1,v5.2.1,v5.2.2.1,v5.2.2.2.1,v5.2.2.2.2.1,v5.2.2.2.2.2.1,v5.2.2.2.2.2.2.1,v5.2.2.2.2.2.2.2)) fun (v6:Tablet×Tablet×Fault×Tablet×Fault×Inside×Fault×Fault)=>
    ob (
     if ((decide (v6.2.2.2.2.2.2.2.Code=0))&&(decide ((v6.1.Files.length:Int)=10)))=true then
      lt (R_F 2 (-2)) fun x28=>
      some (v6.1,v6.2.1,v6.2.2.1,v6.2.2.2.1,v6.2.2.2.2.1,v6.2.2.2.2.2.1,v6.2.2.2.2.2.2.1,x28)
     else
      some (v6.1,v6.2.1,v6.2.2.1,v6.2.2.2.1,v6.2.2.2.2.1,v6.2.2.2.2.2.1,v6.2.2.2.2.2.2.1,v6.2.2.2.2.2.2.2)) fun (v7:Tablet×Tablet×Fault×Tablet×Fault×Inside×Fault×Fault)=>
    ob (
     if (decide (v7.2.2.2.2.2.2.2.Code=0))=true then
      ob (R_MadeFault v7.2.2.2.2.2.1.Mem size) fun x29=>
      some (v7.1,v7.2.1,v7.2.2.1,v7.2.2.2.1,v7.2.2.2.2.1,v7.2.2.2.2.2.1,v7.2.2.2.2.2.2.1,x29)
     else
      some (v7.1,v7.2.1,v7.2.2.1,v7.2.2.2.1,v7.2.2.2.2.1,v7.2.2.2.2.2.1,v7.2.2.2.2.2.2.1,v7.2.2.2.2.2.2.2)) fun (v8:Tablet×Tablet×Fault×Tablet×Fault×Inside×Fault×Fault)=>
    ob (zdn v8.2.1 v8.2.2.1 v8.2.2.2.2.2.2.2 v8.1 v8.2.2.2.2.2.1 size) fun x30=>
    if (!x30)=true then
     some false
    else
     ob (zdo v8.2.2.2.1 v8.2.2.2.2.1 v8.2.2.2.2.2.2.1 v8.2.2.2.2.2.1 v8.1) fun x31=>
     some x31)=some true:=by
 obtain ⟨w2,e1,hw2⟩:=as1_eq t wn hw
 obtain ⟨w3,e2⟩:=as2_eq t w2 num hw2
 rw [e1,zab,if_neg (by simp)]
 have hl:0≤t.Log.Kept→(tabF t).Code=0→w64 ((t.Log.Bytes.length:Int) - t.Log.Kept)=(t.Log.Bytes.length:Int) - t.Log.Kept:=fun _ hz=>by
  have hd:=(tabF_good hz).log
  have h1:=hd.len
  have h2:=hd.k1
  exact zai (by omega) (by omega)
 by_cases c:(tabF t).Code=0
 ·have hT:=tabF_good c
  rw [hl hT.log.k0 c]
  by_cases c2:num<0∨(t.Log.Bytes.length:Int) - t.Log.Kept<num
  ·have hV:crV t num=⟨3,-1⟩:=by unfold crV crF; rw [if_neg (not_not_intro c),if_pos c2]
   rw [hV] at e2
   rw [if_pos (by simp only [Bool.and_eq_true,Bool.or_eq_true,decide_eq_true_eq]; exact ⟨c,c2⟩)]
   dsimp only [lt,R_F]
   rw [zab]
   dsimp only
   rw [e2,zab,if_neg (by simp)]
   exact does_flush t size
  ·have hV:crV t num=tabF t:=by unfold crV crF; rw [if_neg (not_not_intro c),if_neg c2,hT.f]
   rw [hV] at e2
   rw [if_neg (by simp only [Bool.and_eq_true,Bool.or_eq_true,decide_eq_true_eq]; exact fun q=>c2 q.2),zab]
   dsimp only
   rw [e2,zab,if_neg (by simp)]
   exact does_flush t size
 ·have hV:crV t num=tabF t:=by unfold crV; rw [if_pos c]
  rw [hV] at e2
  rw [if_neg (by simp [c]),zab]
  dsimp only
  rw [e2,zab,if_neg (by simp)]
  exact does_flush t size
noncomputable def putV (t:Tablet) (l:List Cell):Fault:=if ¬ (tabF t).Code=0 then tabF t else if ¬ (noteF (putN t l)).Code=0 then noteF (putN t l) else erl t.Since l 0
noncomputable def putW (t:Tablet) (l:List Cell):Fault:=if ¬ (tabF t).Code=0 then tabF t else putF t l
theorem put_fs (t:Tablet) (l:List Cell):(putS t l).2.2=putW t l∧((putW t l).Code=0→putS t l=(⟨⟨t.Log.Bytes++frame (encN (putN t l)),t.Log.Kept⟩,t.Files,t.Done,t.Since⟩,zdr t+1,⟨0,0⟩)∧putW t l=⟨0,0⟩)∧(¬ (putW t l).Code=0→putS t l=(T0,0,putW t l)):=by
 unfold putS putW
 by_cases c:(tabF t).Code=0
 ·rw [if_neg (not_not_intro c),if_neg (not_not_intro c)]
  by_cases c2:(putF t l).Code=0
  ·have hz:putF t l=⟨0,0⟩:=by
    unfold putF at c2 ⊢
    by_cases d1:(noteF (putN t l)).Code=0
    ·rw [if_neg (not_not_intro d1)] at c2 ⊢
     by_cases d2:(erl t.Since l 0).Code=0
     ·rw [if_neg (not_not_intro d2)] at c2 ⊢
      by_cases d3:60000<t.Log.Bytes.length+(frame (encN (putN t l))).length
      ·rw [if_pos d3] at c2; cases c2
      ·rw [if_neg d3] at c2 ⊢
       unfold fillF at c2 ⊢
       split at c2
       ·cases c2
       ·rename_i q
        split at c2
        ·cases c2
        ·rename_i q2
         rw [if_neg q,if_neg q2]
     ·rw [if_pos d2] at c2; exact absurd c2 d2
    ·rw [if_pos d1] at c2; exact absurd c2 d1
   rw [if_neg (not_not_intro c2)]
   exact ⟨hz.symm,fun _=>⟨rfl,hz⟩,fun q=>absurd c2 q⟩
  ·rw [if_pos c2]
   exact ⟨rfl,fun q=>absurd q c2,fun _=>rfl⟩
 ·rw [if_pos c,if_pos c]
  exact ⟨rfl,fun q=>absurd q c,fun _=>rfl⟩
theorem mem_put {t:Tablet} (hT:TG t) (l:List Cell) (hs:l.Pairwise ah):firsts (l.reverse++allC (abv t.Done (zc4 t)))=memS t.Done (zc4 t++[putN t l])∧
  firsts (l.reverse++(memT t++(filT t).flatten))=allS (memS t.Done (zc4 t++[putN t l])) (filT t):=by
 have hlt:t.Done<zdr t+1:=by
  unfold zdr
  by_cases c:0<(zc4 t).length
  ·rw [if_pos c]
   have:=hT.fit
   unfold badT at this
   by_cases q:(zaf (zc4 t) (((zc4 t).length:Int) - 1)).Seq<t.Done
   ·exact absurd (.inr ⟨c,.inr q⟩) this
   ·omega
  ·rw [if_neg c]; omega
 have hupN:(zc4 t++[putN t l]).Pairwise up:=by
  rw [List.pairwise_append]
  refine ⟨logd_up t.Log.Bytes,List.pairwise_singleton ..,fun a ha b hb=>?_⟩
  rw [List.mem_singleton] at hb
  subst hb
  have h2:=(nts_up (bodies t.Log.Bytes) [] 0 .nil (by simp)).2 a ha
  have hne:0<(zc4 t).length:=List.length_pos_of_mem ha
  show a.Seq<zdr t+1
  unfold zdr
  rw [if_pos hne]
  have h3:a.Seq≤(lastN (zc4 t)).Seq:=h2
  unfold lastN at h3
  omega
 have habv:abv t.Done (zc4 t++[putN t l])=abv t.Done (zc4 t)++[putN t l]:=by
  rw [abv_filter _ _ hupN,List.filter_append,abv_filter t.Done (zc4 t) (logd_up t.Log.Bytes)]
  congr 1
  exact List.filter_eq_self.2 fun n hn=>by
   rw [List.mem_singleton] at hn
   subst hn
   exact decide_eq_true hlt
 have hall:allC (abv t.Done (zc4 t++[putN t l]))=l++allC (abv t.Done (zc4 t)):=by
  rw [habv,allC_append]; simp [allC,putN]
 have h1:firsts (l.reverse++allC (abv t.Done (zc4 t)))=firsts (l++allC (abv t.Done (zc4 t))):=(firsts_congr (Stab.app (stab_rev hs) (Stab.refl _))).symm
 refine ⟨by unfold memS; rw [hall,h1],?_⟩
 unfold allS memS
 rw [hall]
 have h2:firsts (l.reverse++(memT t++(filT t).flatten))=firsts (l++(memT t++(filT t).flatten)):=(firsts_congr (Stab.app (stab_rev hs) (Stab.refl _))).symm
 rw [h2,← List.append_assoc]
 refine Hd.firsts (Hd.app ?_ (Hd.refl _))
 exact (Hd.app (Hd.refl l) (hd_firsts _)).trans (hd_firsts _).symm
theorem as0_eq (t:Tablet) (l:List Cell) (fr:List UInt8) (hfr:(putW t l).Code=0→fr=frame (encN (putN t l))∧t.Log.Bytes.length+fr.length≤60000):∃ w,law_tabletAs (putS t l).1 (putS t l).2.2 (putW t l) t fr t=some (true,w.Log.Bytes,w.Log.Kept,w.Files,w.Done,w.Since)∧Lk t w:=by
 obtain ⟨h1,h2,h3⟩:=put_fs t l
 unfold law_tabletAs
 rw [h1,if_neg (fsame _)]
 by_cases c:(putW t l).Code=0
 ·obtain ⟨e1,e2⟩:=h2 c
  obtain ⟨f1,f2⟩:=hfr c
  have hz:(tabF t).Code=0:=Classical.byContradiction fun q=>by unfold putW at c; rw [if_pos q] at c; exact q c
  have hT:=tabF_good hz
  rw [if_neg (by simp [c]),e1]
  unfold law_TabletDoes_1_v1 law_ownBytes
  rw [zaa (by have:=hT.log.len; omega),zab,zaa (by rw [List.length_append]; omega),zab,f1,sameT_eq _ _ (by show t.Files.length≤1000000; have:=hT.few; omega),zab]
  exact ⟨⟨⟨t.Log.Bytes++frame (encN (putN t l)),t.Log.Kept⟩,t.Files,t.Done,t.Since⟩,by simp,rfl,rfl,rfl⟩
 ·rw [if_pos (n_t c),h3 c]
  show ∃ w2,ob (zbb T0 T0) _=_∧_
  rw [same0,zab]
  exact ⟨t,rfl,rfl,rfl,rfl⟩
theorem does_put (t:Tablet) (l:List Cell) (num size:Int) (note:Note) (fr:List UInt8) (W:Fault) (hW:W=putW t l) (hfr:W.Code=0→fr=frame (encN (putN t l))∧t.Log.Bytes.length+fr.length≤60000) (hn:W.Code=0→note.Seq=zdr t+1):(ob (law_tabletAs (putS t l).1 (putS t l).2.2 W t fr t) fun x22=>
 if (((!x22.1)||((!decide ((putS t l).2.1=note.Seq))&&(decide (W.Code=0))))||((!decide ((putS t l).2.1=0))&&(!decide (W.Code=0))))=true then
  some false
 else
  ob (law_tabletAs_v1 (syncS t).1 (syncS t).2 (tabF t) t (⟨(⟨x22.2.1,x22.2.2.1⟩:Disk),x22.2.2.2.1,x22.2.2.2.2.1,x22.2.2.2.2.2⟩:Tablet)) fun x23=>
  if (!x23.1)=true then
   some false
  else
   ob (
    if ((decide ((tabF t).Code=0))&&((decide (num<0))||(decide ((w64 ((t.Log.Bytes.length:Int) - t.Log.Kept))<num))))=true then
     lt (R_F 3 (-1)) fun x24=>
     some (t,(crashS t num).1,(crashS t num).2,(flushS t size).1,(flushS t size).2,(cutS t).1,(cutS t).2,(insS t).1,(tabF t),x24,x23.2)
    else
     some (t,(crashS t num).1,(crashS t num).2,(flushS t size).1,(flushS t size).2,(cutS t).1,(cutS t).2,(insS t).1,(tabF t),(tabF t),x23.2)) fun (v4:Tablet×Tablet×Fault×Tablet×Fault×Tablet×Fault×Inside×Fault×Fault×Tablet)=>
   ob (law_tabletAs_v2 v4.2.1 v4.2.2.1 v4.2.2.2.2.2.2.2.2.2.1 v4.1 num v4.2.2.2.2.2.2.2.2.2.2) fun x25=>
   if (!x25.1)=true then
    some false
   else
    ob (
     if (decide (v4.2.2.2.2.2.2.2.2.1.Code=0))=true then
      lt (law_sizeFault size) fun x26=>
      some (x25.2.1,v4.2.2.2.1,v4.2.2.2.2.1,v4.2.2.2.2.2.1,v4.2.2.2.2.2.2.1,v4.2.2.2.2.2.2.2.1,v4.2.2.2.2.2.2.2.2.1,x26)
     else
      some (x25.2.1,v4.2.2.2.1,v4.2.2.2.2.1,v4.2.2.2.2.2.1,v4.2.2.2.2.2.2.1,v4.2.2.2.2.2.2.2.1,v4.2.2.2.2.2.2.2.2.1,v4.2.2.2.2.2.2.2.2.1)) fun (v5:Tablet×Tablet×Fault×Tablet×Fault×Inside×Fault×Fault)=>
    ob (
     if ((decide (v5.2.2.2.2.2.2.2.Code=0))&&(decide (v5.2.2.2.2.2.1.Last=v5.1.Done)))=true then
      lt (R_F 6 0) fun x27=>
      some (v5.1,v5.2.1,v5.2.2.1,v5.2.2.2.1,v5.2.2.2.2.1,v5.2.2.2.2.2.1,v5.2.2.2.2.2.2.1,x27)
     else
      some (v5.1,v5.2.1,v5.2.2.1,v5.2.2.2.1,v5.2.2.2.2.1,v5.2.2.2.2.2.1,v5.2.2.2.2.2.2.1,v5.2.2.2.2.2.2.2)) fun (v6:Tablet×Tablet×Fault×Tablet×Fault×Inside×Fault×Fault)=>
    ob (
     if ((decide (v6.2.2.2.2.2.2.2.Code=0))&&(decide ((v6.1.Files.length:Int)=10)))=true then
      lt (R_F 2 (-2)) fun x28=>
      some (v6.1,v6.2.1,v6.2.2.1,v6.2.2.2.1,v6.2.2.2.2.1,v6.2.2.2.2.2.1,v6.2.2.2.2.2.2.1,x28)
     else
      some (v6.1,v6.2.1,v6.2.2.1,v6.2.2.2.1,v6.2.2.2.2.1,v6.2.2.2.2.2.1,v6.2.2.2.2.2.2.1,v6.2.2.2.2.2.2.2)) fun (v7:Tablet×Tablet×Fault×Tablet×Fault×Inside×Fault×Fault)=>
    ob (
     if (decide (v7.2.2.2.2.2.2.2.Code=0))=true then
      ob (R_MadeFault v7.2.2.2.2.2.1.Mem size) fun x29=>
      some (v7.1,v7.2.1,v7.2.2.1,v7.2.2.2.1,v7.2.2.2.2.1,v7.2.2.2.2.2.1,v7.2.2.2.2.2.2.1,x29)
     else
      some (v7.1,v7.2.1,v7.2.2.1,v7.2.2.2.1,v7.2.2.2.2.1,v7.2.2.2.2.2.1,v7.2.2.2.2.2.2.1,v7.2.2.2.2.2.2.2)) fun (v8:Tablet×Tablet×Fault×Tablet×Fault×Inside×Fault×Fault)=>
    ob (zdn v8.2.1 v8.2.2.1 v8.2.2.2.2.2.2.2 v8.1 v8.2.2.2.2.2.1 size) fun x30=>
    if (!x30)=true then
     some false
    else
     ob (zdo v8.2.2.2.1 v8.2.2.2.2.1 v8.2.2.2.2.2.2.1 v8.2.2.2.2.2.1 v8.1) fun x31=>
     some x31)=some true:=by
 subst hW
 obtain ⟨w,e1,hw⟩:=as0_eq t l fr hfr
 obtain ⟨h1,h2,h3⟩:=put_fs t l
 rw [e1,zab]
 have hq:(((!true)||((!decide ((putS t l).2.1=note.Seq))&&(decide ((putW t l).Code=0))))||((!decide ((putS t l).2.1=0))&&(!decide ((putW t l).Code=0))))=false:=by
  by_cases c:(putW t l).Code=0
  ·rw [(h2 c).1,hn c]; simp [c]
  ·rw [h3 c]; simp [c]
 dsimp only
 rw [hq,if_neg (by simp)]
 exact does_sync t w num size hw
theorem framed1_eq (body:List UInt8) (hb:body.length≤1000000000):R_Framed_v1 body=some (frame body):=framed_eq body hb
theorem does_J1 (t:Tablet) (l:List Cell) (num size:Int) (hF:Few t) (hl:l.length≤2000):law_TabletDoes_J1 l num size (putS t l) (t,(putS t l).1,(putS t l).2.2,(syncS t).1,(syncS t).2,(crashS t num).1,(crashS t num).2,(flushS t size).1,(flushS t size).2,(cutS t).1,(cutS t).2,(insS t).1,tabF t,putV t l,⟨w64 ((insS t).1.Last+1),l⟩)=some true:=by
 have hput:=fun note fr W=>does_put t l num size note fr W
 unfold law_TabletDoes_J1
 dsimp only
 by_cases c:(putV t l).Code=0
 ·have hz:(tabF t).Code=0:=Classical.byContradiction fun q=>by unfold putV at c; rw [if_pos q] at c; exact q c
  have hT:=tabF_good hz
  have hnf:(noteF (putN t l)).Code=0:=Classical.byContradiction fun q=>by unfold putV at c; rw [if_neg (not_not_intro hz),if_pos q] at c; exact q c
  have hN:=noteF_good hnf
  have herl:(erl t.Since l 0).Code=0:=by unfold putV at c; rw [if_neg (not_not_intro hz),if_neg (not_not_intro hnf)] at c; exact c
  have hi:(insS t).1=⟨zc4 t,zdr t,memT t,filT t,allT t⟩:=by unfold insS; rw [hT.head,if_neg (by simp)]
  have hbd:=lastT_bd hT
  have hw:w64 (zdr t+1)=zdr t+1:=zai (by omega) (by omega)
  have hnote:(⟨w64 ((insS t).1.Last+1),l⟩:Note)=putN t l:=by rw [hi]; show (⟨w64 (zdr t+1),l⟩:Note)=_; rw [hw]; rfl
  have hel:=encN_len hN
  have hfl:=zcc (encN (putN t l))
  have hlog:=hT.log.len
  have hw2:w64 ((t.Log.Bytes.length:Int)+((frame (encN (putN t l))).length:Int))=(t.Log.Bytes.length:Int)+((frame (encN (putN t l))).length:Int):=zai (by omega) (by omega)
  rw [hnote,if_pos (d_t c),noteBytes_eq _ hN,zab,framed1_eq _ (by omega),zab,hw2]
  by_cases c2:60000<t.Log.Bytes.length+(frame (encN (putN t l))).length
  ·have hW:putW t l=⟨9,0⟩:=by unfold putW putF; rw [if_neg (not_not_intro hz),if_neg (not_not_intro hnf),if_neg (not_not_intro herl),if_pos c2]
   rw [if_pos (d_t (by omega))]
   dsimp only [lt,R_F]
   rw [zab]
   dsimp only
   rw [if_neg (by simp),zab]
   exact hput (putN t l) _ ⟨9,0⟩ hW.symm (fun q=>absurd q (by simp)) (fun q=>absurd q (by simp))
  ·rw [if_neg (d_f (by omega)),zab]
   dsimp only
   have hml:=hT.mem
   have hal:=hT.all
   have hms:=mem_put hT l hN.cells.srt
   rw [if_pos (d_t c),hi]
   unfold ze7
   dsimp only
   rw [zaa (by omega),zab,rputs_eq (memT t) l (allC (abv t.Done (zc4 t))) (firsts_ok _) (by omega),zab,zaa (by omega),zab,rputs_eq (allT t) l (memT t++(filT t).flatten) (firsts_ok _) (by omega),zab,hms.1,hms.2,heavy_eq]
   dsimp only [lt]
   rw [zab,← hi]
   have hW:putW t l=fillF (memS t.Done (zc4 t++[putN t l])) (filT t):=by unfold putW putF; rw [if_neg (not_not_intro hz),if_neg (not_not_intro hnf),if_neg (not_not_intro herl),if_neg c2]
   exact hput (putN t l) _ _ hW.symm (fun _=>⟨rfl,by omega⟩) (fun _=>rfl)
 ·have hW:putW t l=putV t l:=by
   unfold putW putV putF at *
   by_cases z:(tabF t).Code=0
   ·rw [if_neg (not_not_intro z)] at c ⊢
    rw [if_neg (not_not_intro z)]
    by_cases n:(noteF (putN t l)).Code=0
    ·rw [if_neg (not_not_intro n)] at c ⊢
     rw [if_neg (not_not_intro n),if_pos c]
    ·rw [if_pos n,if_pos n]
   ·rw [if_pos z,if_pos z]
  rw [if_neg (d_f c),zab]
  dsimp only
  rw [if_neg (d_f c),zab]
  exact hput ⟨w64 ((insS t).1.Last+1),l⟩ _ _ hW.symm (fun q=>absurd q c) (fun q=>absurd q c)
theorem does_loop (t:Tablet) (l:List Cell) (num size:Int) (hF:Few t) (hl:l.length≤2000) (hz:(tabF t).Code=0) (hn:(noteF (putN t l)).Code=0):∀ (m k:Nat) (v:Fault),l.length - k=m→k≤l.length→(v.Code=0→v=⟨0,0⟩∧erl t.Since (l.drop k) k=putV t l)→(¬ v.Code=0→v=putV t l)→
  law_TabletDoes_L1 l num size (putS t l) (t,(putS t l).1,(putS t l).2.2,(syncS t).1,(syncS t).2,(crashS t num).1,(crashS t num).2,(flushS t size).1,(flushS t size).2,(cutS t).1,(cutS t).2,(insS t).1,tabF t,v,⟨w64 ((insS t).1.Last+1),l⟩,(k:Int))=some true:=by
 intro m
 have hJ:=does_J1 t l num size hF hl
 have fin:∀ (k:Nat) (v:Fault),¬ (k<l.length∧v.Code=0)→v=putV t l→law_TabletDoes_L1 l num size (putS t l) (t,(putS t l).1,(putS t l).2.2,(syncS t).1,(syncS t).2,(crashS t num).1,(crashS t num).2,(flushS t size).1,(flushS t size).2,(cutS t).1,(cutS t).2,(insS t).1,tabF t,v,⟨w64 ((insS t).1.Last+1),l⟩,(k:Int))=some true:=fun k v hk hv=>by
  refine zah ?_
  unfold zeb
  dsimp only
  rw [if_neg (by simp only [Bool.and_eq_true,decide_eq_true_eq]; omega),hv,hJ]; rfl
 induction m with
 | zero=>
  intro k v e hk h1 h2
  have hkl:k=l.length:=by omega
  refine fin k v (by omega) ?_
  by_cases c:v.Code=0
  ·obtain ⟨e1,e2⟩:=h1 c
   rw [hkl,List.drop_length] at e2
   rw [e1,← e2]; rfl
  ·exact h2 c
 | succ m ih=>
  intro k v e hk h1 h2
  have hkl:k<l.length:=by omega
  by_cases c:v.Code=0
  ·obtain ⟨e1,e2⟩:=h1 c
   have hw:w64 ((k:Int)+1)=((k+1:Nat):Int):=by rw [zai (by omega) (by omega)]; omega
   rw [zcp l k hkl,erl] at e2
   by_cases c2:(zaf l (k:Int)).Time<t.Since
   ·rw [if_pos c2] at e2
    refine (zam ?_).trans (ih (k+1) ⟨12,(k:Int)⟩ (by omega) (by omega) (fun q=>absurd q (by simp)) (fun _=>e2))
    unfold zeb
    dsimp only
    rw [if_pos (by simp only [Bool.and_eq_true,decide_eq_true_eq]; exact ⟨by omega,c⟩),zaa (by omega),if_pos (d_t c2)]
    dsimp only [lt,R_F]
    rw [zab,hw]
   ·rw [if_neg c2] at e2
    refine (zam ?_).trans (ih (k+1) v (by omega) (by omega) (fun _=>⟨e1,e2⟩) h2)
    unfold zeb
    dsimp only
    rw [if_pos (by simp only [Bool.and_eq_true,decide_eq_true_eq]; exact ⟨by omega,c⟩),zaa (by omega),if_neg (d_f c2),zab,hw]
  ·exact fin k v (fun q=>c q.2) (h2 c)
theorem noteF_zero {n:Note} (h:(noteF n).Code=0):noteF n=⟨0,0⟩:=(noteF_good h).f
theorem TabletDoes_eq (t:Tablet) (l:List Cell) (num size:Int) (h0:t.Log.Bytes.length≤140737488351232) (hl:t.Files.length≤140737488351232) (hb:∀ b∈t.Files,b.length≤140737488351232) (hcl:l.length≤140737488351232):law_TabletDoes t l num size=some true:=by
 obtain ⟨b,hv,hfew⟩:=vast_eq t h0 hl hb
 unfold law_TabletDoes
 rw [tabBegun,zab,if_neg (by decide),hv,zab]
 unfold law_many
 dsimp only [lt]
 by_cases cm:(b||(((decide (150<(l.length:Int)))&&(decide ((l.length:Int)<1000)))||(decide (2000<(l.length:Int)))))=true
 ·rw [if_pos cm]
 ·rw [if_neg cm]
  simp only [Bool.or_eq_true,not_or,Bool.not_eq_true,decide_eq_false_iff_not] at cm
  obtain ⟨cb,_,cl⟩:=cm
  have hF:=hfew cb
  have hll:l.length≤2000:=by omega
  rw [ownT_eq hF,zab]
  unfold ze7
  rw [zaa (by omega),zab,tput_eq,zab,tsync_eq,zab,tcrash_eq,zab,flush_eq,zab,cut_eq',zab,inside_eq,zab,sameT_eq t t (by have:=hF.files; omega),zab]
  rw [if_pos (by simp),sameCells_self _ (by omega),zab,if_neg (by simp),insS_f]
  by_cases c:(tabF t).Code=0
  ·have hT:=tabF_good c
   have hbd:=lastT_bd hT
   have hw:w64 (zdr t+1)=zdr t+1:=zai (by omega) (by omega)
   have hi:(insS t).1=⟨zc4 t,zdr t,memT t,filT t,allT t⟩:=by unfold insS; rw [hT.head,if_neg (by simp)]
   have hnote:(⟨w64 ((insS t).1.Last+1),l⟩:Note)=putN t l:=by rw [hi]; show (⟨w64 (zdr t+1),l⟩:Note)=_; rw [hw]; rfl
   rw [if_pos (d_t c)]
   have hr:R_NoteFault (⟨w64 ((insS t).1.Last+1),l⟩:Note)=some (noteF (putN t l)):=by rw [hnote]; exact rnote_eq _
   rw [hr,zab,zab]
   dsimp only
   by_cases c2:(noteF (putN t l)).Code=0
   ·refine does_loop t l num size hF hll c c2 l.length 0 _ (by omega) (by omega) (fun _=>⟨noteF_zero c2,?_⟩) (fun q=>absurd c2 q)
    unfold putV
    rw [if_neg (not_not_intro c),if_neg (not_not_intro c2),List.drop_zero]; rfl
   ·have hV:putV t l=noteF (putN t l):=by unfold putV; rw [if_neg (not_not_intro c),if_pos c2]
    have hJ:=does_J1 t l num size hF hll
    refine zah ?_
    unfold zeb
    dsimp only
    rw [if_neg (by simp [c2]),← hV,hJ]; rfl
  ·have hV:putV t l=tabF t:=by unfold putV; rw [if_pos c]
   have hJ:=does_J1 t l num size hF hll
   rw [if_neg (d_f c),zab]
   dsimp only
   refine zah ?_
   unfold zeb
   dsimp only
   rw [if_neg (by simp [c])]
   rw [hV] at hJ
   rw [hJ]; rfl
end G
end Go.Proofs.YticbfakiihfgmaaGreat
