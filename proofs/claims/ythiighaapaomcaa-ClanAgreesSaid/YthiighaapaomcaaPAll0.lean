/- The plain law. -/
import Derived.Test.YthiighaapaomcaaEmD
import Derived.Test.YthiighaapaomcaaGf3
namespace Go.Proofs.Ythiighaapaomcaa
open Go Go.Dm
set_option linter.unusedVariables false
set_option linter.unusedSimpArgs false
set_option linter.unusedSectionVars false
namespace G
def chk:List Entry→Int→Int→Fault
 | [],_,_=>⟨0,0⟩
 | e::l,last,i=>if e.Term<1∨1000000000<e.Term then ⟨3,i⟩ else if e.Term<last then ⟨11,i⟩ else if 200<(e.Text.length:Int) then ⟨8,i⟩ else chk l e.Term (i+1)
theorem echeck_loop (l:List Entry) (hl:l.length≤1000):∀ (m n:Nat) (last:Int),l.length - n=m→n≤l.length→entry_Check_L1 l (last,(n:Int))=some (chk (l.drop n) last n)
 | 0,n,last,hm,hn=>by
  have:n=l.length:=by omega
  subst this
  refine loopO_inr ?_
  simp only [entry_Check_B1]
  rw [if_neg (d_f (by omega))]
  simp [inrO,entry_Check_J1,chk]
 | m+1,n,last,hm,hn=>by
  have hlt:n<l.length:=by omega
  have ih:=echeck_loop l hl m (n+1) (lget l (n:Int)).Term (by omega) (by omega)
  rw [lget_drop l n hlt,chk]
  have hw:w64 ((n:Int)+1)=((n+1:Nat):Int):=by rw [w64_id (by omega) (by omega)]; omega
  have h0:(0:Int)≤(n:Int)∧(n:Int)<(l.length:Int):=by omega
  have h1:(n:Int)<(l.length:Int):=by omega
  by_cases c1:(lget l (n:Int)).Term<1∨1000000000<(lget l (n:Int)).Term
  ·rw [if_pos c1]
   refine loopO_inr ?_
   simp only [entry_Check_B1]
   rw [if_pos (d_t h1),asrt_pos h0,if_pos (or_t c1)]; rfl
  ·rw [if_neg c1]
   by_cases c2:(lget l (n:Int)).Term<last
   ·rw [if_pos c2]
    refine loopO_inr ?_
    simp only [entry_Check_B1]
    rw [if_pos (d_t h1),asrt_pos h0,if_neg (or_f c1),if_pos (d_t c2)]; rfl
   ·rw [if_neg c2]
    by_cases c3:200<((lget l (n:Int)).Text.length:Int)
    ·rw [if_pos c3]
     refine loopO_inr ?_
     simp only [entry_Check_B1]
     rw [if_pos (d_t h1),asrt_pos h0,if_neg (or_f c1),if_neg (d_f c2),if_pos (d_t c3)]; rfl
    ·rw [if_neg c3]
     refine (loopO_inl (y:=((lget l (n:Int)).Term,((n+1:Nat):Int))) ?_).trans ?_
     ·simp only [entry_Check_B1]
      rw [if_pos (d_t h1),asrt_pos h0,if_neg (or_f c1),if_neg (d_f c2),if_neg (d_f c3),hw]
     ·have:(n:Int)+1=((n+1:Nat):Int):=by omega
      rw [this]; exact ih
theorem echeck_eq0 (l:List Entry):entry_Check l=some (if 100<(l.length:Int) then ⟨2,-1⟩ else chk l 0 0):=by
 unfold entry_Check
 by_cases h:100<(l.length:Int)
 ·simp [h,lt,entry_fault]
 ·have:=echeck_loop l (by omega) l.length 0 0 (by omega) (by omega)
  simp only [Int.ofNat_zero,List.drop_zero,Int.natCast_zero] at this
  simp [h,this]
def prevT (l:List Entry) (n:Nat):Int:=if n=0 then 0 else (lget l ((n:Int) - 1)).Term
theorem rlog_loop (l:List Entry) (hl:l.length≤1000):∀ (m n:Nat),l.length - n=m→n≤l.length→R_LogFault_L1 l (n:Int)=some (chk (l.drop n) (prevT l n) n)
 | 0,n,hm,hn=>by
  have:n=l.length:=by omega
  subst this
  refine loopO_inr ?_
  simp only [R_LogFault_B1]
  rw [if_neg (d_f (by omega))]
  simp [inrO,R_LogFault_J1,chk]
 | m+1,n,hm,hn=>by
  have hlt:n<l.length:=by omega
  have ih:=rlog_loop l hl m (n+1) (by omega) (by omega)
  rw [lget_drop l n hlt,chk]
  have hw:w64 ((n:Int)+1)=((n+1:Nat):Int):=by rw [w64_id (by omega) (by omega)]; omega
  have hw2:w64 ((n:Int) - 1)=(n:Int) - 1:=w64_id (by omega) (by omega)
  have h0:(0:Int)≤(n:Int)∧(n:Int)<(l.length:Int):=by omega
  have h1:(n:Int)<(l.length:Int):=by omega
  have h2:decide (0<(n:Int))=true→0≤w64 ((n:Int) - 1)∧w64 ((n:Int) - 1)<(l.length:Int):=fun h=>by rw [hw2]; simp at h; omega
  have h3:∀ b:Bool,b=true→(0:Int)≤(n:Int)∧(n:Int)<(l.length:Int):=fun _ _=>h0
  by_cases c1:(lget l (n:Int)).Term<1∨1000000000<(lget l (n:Int)).Term
  ·rw [if_pos c1]
   refine loopO_inr ?_
   simp only [R_LogFault_B1]
   rw [if_pos (d_t h1),asrt_pos h0,asrt_pos (h3 _),if_pos (or_t c1)]; rfl
  ·rw [if_neg c1]
   have c2':(decide (0<(n:Int))&&decide ((lget l (n:Int)).Term<(lget l (w64 ((n:Int) - 1))).Term))=decide ((lget l (n:Int)).Term<prevT l n):=by
    rw [hw2]
    unfold prevT
    by_cases hn0:n=0
    ·subst hn0
     simp
     have:¬ ((lget l 0).Term<1∨1000000000<(lget l 0).Term):=by simpa using c1
     omega
    ·have:0<(n:Int):=by omega
     simp [hn0,this]
     intro _; omega
   by_cases c2:(lget l (n:Int)).Term<prevT l n
   ·rw [if_pos c2]
    refine loopO_inr ?_
    simp only [R_LogFault_B1]
    rw [if_pos (d_t h1),asrt_pos h0,asrt_pos (h3 _),if_neg (or_f c1),asrt_pos (h3 _),asrt_pos h2,c2',if_pos (d_t c2)]; rfl
   ·rw [if_neg c2]
    by_cases c3:200<((lget l (n:Int)).Text.length:Int)
    ·rw [if_pos c3]
     refine loopO_inr ?_
     simp only [R_LogFault_B1]
     rw [if_pos (d_t h1),asrt_pos h0,asrt_pos (h3 _),if_neg (or_f c1),asrt_pos (h3 _),asrt_pos h2,c2',if_neg (d_f c2),asrt_pos h0,if_pos (d_t c3)]; rfl
    ·rw [if_neg c3]
     refine (loopO_inl (y:=((n+1:Nat):Int)) ?_).trans ?_
     ·simp only [R_LogFault_B1]
      rw [if_pos (d_t h1),asrt_pos h0,asrt_pos (h3 _),if_neg (or_f c1),asrt_pos (h3 _),asrt_pos h2,c2',if_neg (d_f c2),asrt_pos h0,if_neg (d_f c3),hw]
     ·have e1:(n:Int)+1=((n+1:Nat):Int):=by omega
      have e:prevT l (n+1)=(lget l (n:Int)).Term:=by
       unfold prevT
       simp
      rw [e] at ih
      rw [e1]; exact ih
theorem rlog_eq0 (l:List Entry):R_LogFault l=some (if 100<(l.length:Int) then ⟨2,-1⟩ else chk l 0 0):=by
 unfold R_LogFault
 by_cases h:100<(l.length:Int)
 ·simp [h,lt,R_F]
 ·have:=rlog_loop l (by omega) l.length 0 (by omega) (by omega)
  simp only [Int.ofNat_zero,List.drop_zero,Int.natCast_zero] at this
  simp [h,this,prevT]
theorem chk_zero:∀ (l:List Entry) (last i:Int),(chk l last i).Code=0→chk l last i=⟨0,0⟩∧∀ e∈l,1≤e.Term∧e.Term≤1000000000
 | [],last,i,_=>⟨rfl,by simp⟩
 | e::l,last,i,h=>by
  simp only [chk] at h ⊢
  by_cases c1:e.Term<1∨1000000000<e.Term
  ·rw [if_pos c1] at h; cases h
  ·rw [if_neg c1] at h ⊢
   by_cases c2:e.Term<last
   ·rw [if_pos c2] at h; cases h
   ·rw [if_neg c2] at h ⊢
    by_cases c3:200<(e.Text.length:Int)
    ·rw [if_pos c3] at h; cases h
    ·rw [if_neg c3] at h ⊢
     obtain ⟨h1,h2⟩:=chk_zero l e.Term (i+1) h
     refine ⟨h1,fun e' he=>?_⟩
     rcases List.mem_cons.1 he with rfl | he
     ·omega
     ·exact h2 e' he
def fof (l:List Entry):Fault:=if 100<(l.length:Int) then ⟨2,-1⟩ else chk l 0 0
theorem echeck_eq (l:List Entry):entry_Check l=some (fof l):=echeck_eq0 l
theorem rlog_eq (l:List Entry):R_LogFault l=some (fof l):=rlog_eq0 l
theorem fof_good {l:List Entry} (h:(fof l).Code=0):l.length≤100∧fof l=⟨0,0⟩∧∀ e∈l,1≤e.Term∧e.Term≤1000000000:=by
 unfold fof at *
 by_cases c:100<(l.length:Int)
 ·rw [if_pos c] at h; cases h
 ·rw [if_neg c] at h ⊢
  have:=chk_zero l 0 0 h
  exact ⟨by omega,this.1,this.2⟩
theorem eclone_eq (l:List Entry) (h:l.length≤1000000):slices_Clone_api_Entry_api_Entry l=some l:=by
 refine wp_is.1 ?_
 simp only [slices_Clone_api_Entry_api_Entry,wp_ubO,wp_asrt,wp_some,List.nil_append]
 refine ⟨fun hl=>?_,⟨by omega,trivial⟩⟩
 have:l=[]:=List.length_eq_zero_iff.1 (of_decide_eq_true hl)
 subst this
 rw [asrt_pos (by simp)]
def tat (l:List Entry) (p:Int):Int:=if p<1∨(l.length:Int)<p then 0 else (lget l (p - 1)).Term
theorem tat_eq (l:List Entry) (hl:l.length≤1000000) (p:Int):entry_TermAt l p=some (tat l p):=by
 unfold entry_TermAt tat
 by_cases c:p<1∨(l.length:Int)<p
 ·rw [if_pos (or_t c),if_pos c]
 ·rw [if_neg (or_f c),if_neg c,w64_id (by omega) (by omega),asrt_pos (by omega)]
theorem iclone_eq (l:List Int) (h:l.length≤1000000):slices_Clone_int_int l=some l:=by
 refine wp_is.1 ?_
 simp only [slices_Clone_int_int,wp_ubO,wp_asrt,wp_some,List.nil_append]
 refine ⟨fun hl=>?_,⟨by omega,trivial⟩⟩
 have:l=[]:=List.length_eq_zero_iff.1 (of_decide_eq_true hl)
 subst this
 rw [asrt_pos (by simp)]
theorem last_eq (l:List Entry) (hl:l.length≤1000000):R_LastTerm l=some (tat l (l.length:Int)):=by
 unfold R_LastTerm tat
 by_cases c:l.length=0
 ·rw [if_pos (d_t (by omega)),if_pos (by omega)]
 ·rw [if_neg (d_f (by omega)),if_neg (by omega),w64_id (by omega) (by omega),asrt_pos (by omega)]
def inW (lo hi v:Int):Bool:=decide (lo≤v)&&decide (v≤hi)
theorem within_eq (v lo hi:Int):raft_within v lo hi=inW lo hi v:=rfl
theorem inW_iff {lo hi v:Int}:inW lo hi v=true↔lo≤v∧v≤hi:=by simp [inW]
def voteB (x:Node):Bool:=decide ((∀ v∈x.Votes,inW 0 (x.N - 1) v=true)∧x.Votes.Nodup)
def formB (x:Node):Bool:=
 (if x.Role=1 then voteB x&&decide (x.ID∈x.Votes) && !decide (x.N<2*(x.Votes.length:Int)) else decide (x.Votes.length=0)) &&
 (if x.Role=2 then decide ((x.Next.length:Int)=x.N)&&decide ((x.Have.length:Int)=x.N)&&x.Next.all (inW 1 ((x.Log.length:Int)+1))&&x.Have.all (inW 0 (x.Log.length:Int)) else decide (x.Next.length=0)&&decide (x.Have.length=0))
def nodeF (x:Node):Fault:=
 if ¬ ((1≤x.N∧x.N≤7)∧0≤x.ID∧x.ID<x.N) then ⟨3,-1⟩
 else if ¬ ((0≤x.Term∧x.Term≤1000000000)∧(0≤x.Vote∧x.Vote≤x.N)∧(0≤x.Role∧x.Role≤2)∧0≤x.Commit∧x.Commit≤(x.Log.length:Int)) then ⟨3,-2⟩
 else if ¬ (fof x.Log).Code=0 then fof x.Log
 else if x.Term<tat x.Log (x.Log.length:Int) then ⟨11,-3⟩
 else if formB x=true then ⟨0,0⟩ else ⟨5,-3⟩
def ending (b:Bool):Option Fault:=some (if b=true then ⟨0,0⟩ else ⟨5,-3⟩)
theorem cJ2_eq (b:Bool):raft_Check_J2 b=ending b:=by cases b <;> rfl
theorem cL1_eq (x:Node) (hh:x.Have.length≤1000) (b:Bool):raft_Check_L1 x (b,0)=ending (b&&x.Have.all (inW 0 (x.Log.length:Int))):=by
 have:=loop_run (step:=fun y=>raft_Check_B1 x y) x.Have.length (fun k=>(b&&(x.Have.take k).all (inW 0 (x.Log.length:Int)),(k:Int)))
  (fun k hk=>by
   have hw:w64 ((k:Int)+1)=((k+1:Nat):Int):=by rw [w64_id (by omega) (by omega)]; omega
   simp only [raft_Check_B1]
   rw [if_pos (d_t (by omega)),asrt_pos (by omega),take_all _ _ _ hk,within_eq,hw]
   dsimp only [lt]
   rw [Bool.and_assoc])
  (r:=if (b&&x.Have.all (inW 0 (x.Log.length:Int)))=true then ⟨0,0⟩ else ⟨5,-3⟩)
  (by
   simp only [raft_Check_B1]
   rw [if_neg (d_f (by omega)),List.take_length]
   simp only [raft_Check_J4,cJ2_eq,ending,inrO])
 simpa [raft_Check_L1,ending] using this
theorem cL2_eq (x:Node) (hn:x.Next.length≤1000) (hh:x.Have.length≤1000) (hl:x.Log.length≤1000) (b:Bool):raft_Check_L2 x (b,0)=ending (b&&x.Next.all (inW 1 ((x.Log.length:Int)+1))&&x.Have.all (inW 0 (x.Log.length:Int))):=by
 have hwl:w64 ((x.Log.length:Int)+1)=(x.Log.length:Int)+1:=w64_id (by omega) (by omega)
 have:=loop_run (step:=fun y=>raft_Check_B2 x y) x.Next.length (fun k=>(b&&(x.Next.take k).all (inW 1 ((x.Log.length:Int)+1)),(k:Int)))
  (fun k hk=>by
   have hw:w64 ((k:Int)+1)=((k+1:Nat):Int):=by rw [w64_id (by omega) (by omega)]; omega
   simp only [raft_Check_B2]
   rw [if_pos (d_t (by omega)),asrt_pos (by omega),take_all _ _ _ hk,within_eq,hw,hwl]
   dsimp only [lt]
   rw [Bool.and_assoc])
  (r:=if (b&&x.Next.all (inW 1 ((x.Log.length:Int)+1))&&x.Have.all (inW 0 (x.Log.length:Int)))=true then ⟨0,0⟩ else ⟨5,-3⟩)
  (by
   simp only [raft_Check_B2]
   rw [if_neg (d_f (by omega)),List.take_length]
   simp only [raft_Check_J3,cL1_eq x hh,ending,inrO])
 simpa [raft_Check_L2,ending] using this
theorem cJ1_eq (x:Node) (hn:x.Next.length≤1000) (hh:x.Have.length≤1000) (hl:x.Log.length≤1000) (b:Bool):raft_Check_J1 x b=ending (b &&
  (if x.Role=2 then decide ((x.Next.length:Int)=x.N)&&decide ((x.Have.length:Int)=x.N)&&x.Next.all (inW 1 ((x.Log.length:Int)+1))&&x.Have.all (inW 0 (x.Log.length:Int)) else decide (x.Next.length=0)&&decide (x.Have.length=0))):=by
 unfold raft_Check_J1
 by_cases c:x.Role=2
 ·rw [if_pos (d_t c),if_pos c]
  dsimp only [lt]
  rw [cL2_eq x hn hh hl]
  simp only [Bool.and_assoc]
 ·have e1:((x.Next.length:Int)=0)↔x.Next.length=0:=by omega
  have e2:((x.Have.length:Int)=0)↔x.Have.length=0:=by omega
  rw [if_neg (d_f c),if_neg c]
  dsimp only [lt]
  rw [cJ2_eq]
  simp only [Bool.and_assoc,e1,e2]
def voteN (n:Int) (l:List Int):Bool:=decide ((∀ v∈l,inW 0 (n - 1) v=true)∧l.Nodup)
theorem voteN_snoc (n:Int) (l:List Int) (v:Int):voteN n (l++[v])=(voteN n l&&inW 0 (n - 1) v&&decide (v∉l)):=by
 have e:((∀ w∈l++[v],inW 0 (n - 1) w=true)∧(l++[v]).Nodup)↔(((∀ w∈l,inW 0 (n - 1) w=true)∧l.Nodup)∧inW 0 (n - 1) v=true)∧v∉l:=by
  rw [nodup_snoc]
  constructor
  ·rintro ⟨h1,h2,h3⟩
   exact ⟨⟨⟨fun w hw=>h1 w (by simp [hw]),h2⟩,h1 v (by simp)⟩,h3⟩
  ·rintro ⟨⟨⟨h1,h2⟩,h3⟩,h4⟩
   refine ⟨fun w hw=>?_,h2,h4⟩
   rw [List.mem_append,List.mem_singleton] at hw
   rcases hw with hw | rfl
   ·exact h1 w hw
   ·exact h3
 unfold voteN
 simp only [e,Bool.decide_and,Bool.decide_eq_true]
theorem cL3_eq (x:Node) (h1:1≤x.N) (h7:x.N≤7) (hv:x.Votes.length≤1000) (hn:x.Next.length≤1000) (hh:x.Have.length≤1000) (hl:x.Log.length≤1000):raft_Check_L3 x (true,[],0)=raft_Check_J5 x (voteB x,seenM x.Votes):=by
 have hwN:w64 (x.N - 1)=x.N - 1:=w64_id (by omega) (by omega)
 obtain ⟨r,hr⟩:∃ r,raft_Check_J5 x (voteB x,seenM x.Votes)=some r:=by
  unfold raft_Check_J5
  dsimp only [lt]
  rw [cJ1_eq x hn hh hl]
  exact ⟨_,rfl⟩
 rw [hr]
 have:=loop_run (step:=fun y=>raft_Check_B3 x y) x.Votes.length (fun k=>(voteN x.N (x.Votes.take k),seenM (x.Votes.take k),(k:Int)))
  (fun k hk=>by
   have hw:w64 ((k:Int)+1)=((k+1:Nat):Int):=by rw [w64_id (by omega) (by omega)]; omega
   have hz:decide ((if lget x.Votes (k:Int)∈x.Votes.take k then (1:Int) else 0)=0)=decide (lget x.Votes (k:Int)∉x.Votes.take k):=by
    by_cases c:lget x.Votes (k:Int)∈x.Votes.take k <;> simp [c]
   simp only [raft_Check_B3]
   rw [if_pos (d_t (by omega)),asrt_pos (by omega)]
   dsimp only [lt]
   rw [within_eq,hw,hwN,lget_take _ _ hk,voteN_snoc,seenM_snoc,seenM_get,hz])
  (r:=r)
  (by
   simp only [raft_Check_B3]
   rw [if_neg (d_f (by omega)),List.take_length]
   have:voteN x.N x.Votes=voteB x:=rfl
   rw [this,hr]; rfl)
 simpa [raft_Check_L3,voteN,seenM] using this
theorem ncheck_eq (x:Node) (hv:x.Votes.length≤1000) (hn:x.Next.length≤1000) (hh:x.Have.length≤1000) (hl:x.Log.length≤1000):raft_Check x=some (nodeF x):=by
 unfold raft_Check nodeF
 dsimp only [lt]
 by_cases c1:(1≤x.N∧x.N≤7)∧0≤x.ID∧x.ID<x.N
 ·have hwN:w64 (x.N - 1)=x.N - 1:=w64_id (by omega) (by omega)
  have e1:raft_within x.N 1 7=true:=inW_iff.2 c1.1
  have e2:raft_within x.ID 0 (w64 (x.N - 1))=true:=by rw [hwN]; exact inW_iff.2 ⟨c1.2.1,by omega⟩
  rw [e1,e2,if_neg (by decide),if_neg (not_not_intro c1)]
  by_cases c2:(0≤x.Term∧x.Term≤1000000000)∧(0≤x.Vote∧x.Vote≤x.N)∧(0≤x.Role∧x.Role≤2)∧0≤x.Commit∧x.Commit≤(x.Log.length:Int)
  ·have f1:raft_within x.Term 0 1000000000=true:=inW_iff.2 c2.1
   have f2:raft_within x.Vote 0 x.N=true:=inW_iff.2 c2.2.1
   have f3:raft_within x.Role 0 2=true:=inW_iff.2 c2.2.2.1
   have f4:raft_within x.Commit 0 (x.Log.length:Int)=true:=inW_iff.2 c2.2.2.2
   rw [f1,f2,f3,f4,if_neg (by decide),if_neg (not_not_intro c2),echeck_eq,ob_some]
   by_cases c3:(fof x.Log).Code=0
   ·rw [if_neg (n_f c3),if_neg (not_not_intro c3),tat_eq _ (by omega),ob_some]
    by_cases c4:x.Term<tat x.Log (x.Log.length:Int)
    ·rw [if_pos (d_t c4),if_pos c4]; rfl
    ·rw [if_neg (d_f c4),if_neg c4]
     by_cases c5:x.Role=1
     ·rw [if_pos (d_t c5),cL3_eq x c1.1.1 c1.1.2 hv hn hh hl]
      have hm:raft_most (x.Votes.length:Int) x.N=decide (x.N<2*(x.Votes.length:Int)):=by
       unfold raft_most; rw [w64_id (by omega) (by omega)]
      have hz:decide ((if x.ID∈x.Votes then (1:Int) else 0)=1)=decide (x.ID∈x.Votes):=by
       by_cases c:x.ID∈x.Votes <;> simp [c]
      unfold raft_Check_J5
      dsimp only [lt]
      rw [cJ1_eq x hn hh hl,hm,seenM_get,hz]
      unfold ending formB
      rw [if_pos c5]
     ·have e0:((x.Votes.length:Int)=0)↔x.Votes.length=0:=by omega
      rw [if_neg (d_f c5),cJ1_eq x hn hh hl]
      unfold ending formB
      rw [if_neg c5]
      simp only [e0]
   ·rw [if_pos (n_t c3),if_pos c3]
  ·have:((((!raft_within x.Term 0 1000000000)||(!raft_within x.Vote 0 x.N))||(!raft_within x.Role 0 2))||(!raft_within x.Commit 0 (x.Log.length:Int)))=true:=by
    unfold raft_within
    simp
    omega
   rw [if_pos this,if_pos c2]; rfl
 ·have:((!raft_within x.N 1 7)||(!raft_within x.ID 0 (w64 (x.N - 1))))=true:=by
   by_cases cN:1≤x.N∧x.N≤7
   ·have hwN:w64 (x.N - 1)=x.N - 1:=w64_id (by omega) (by omega)
    rw [hwN]; unfold raft_within; simp; omega
   ·unfold raft_within; simp; omega
  rw [if_pos this,if_pos c1]; rfl
theorem has_eq (l:List Int) (hl:l.length≤1000000) (v:Int):R_Has l v=some (decide (v∈l)):=by
 rcases loop_any (step:=fun y=>R_Has_B1 l v y) l.length (fun k=>(k:Int)) (fun k=>lget l (k:Int)=v) (rb:=true) (r:=false)
  (fun k hk hb=>by
   have hw:w64 ((k:Int)+1)=((k+1:Nat):Int):=by rw [w64_id (by omega) (by omega)]; omega
   simp only [R_Has_B1]
   rw [if_pos (d_t (by omega)),asrt_pos (by omega),if_neg (d_f hb),hw])
  (fun k hk hb=>by
   simp only [R_Has_B1]
   rw [if_pos (d_t (by omega)),asrt_pos (by omega),if_pos (d_t hb)])
  (by
   simp only [R_Has_B1]
   rw [if_neg (d_f (by omega))]; rfl) with ⟨h1,h2⟩ | ⟨h1,h2⟩
 ·have:v∈l:=mem_lget.2 h1
  rw [decide_eq_true this]; exact h2
 ·have:¬ v∈l:=fun h=>by obtain ⟨k,hk,e⟩:=mem_lget.1 h; exact h1 k hk e
  rw [decide_eq_false this]; exact h2
theorem fL1_eq (x:Node) (h1:1≤x.N) (h7:x.N≤7) (hl:x.Log.length≤1000) (hn:(x.Next.length:Int)=x.N) (hh:(x.Have.length:Int)=x.N):R_NodeFault_L1 x ⟨5,-3⟩ 0=ending (x.Next.all (inW 1 ((x.Log.length:Int)+1))&&x.Have.all (inW 0 (x.Log.length:Int))):=by
 have hwl:w64 ((x.Log.length:Int)+1)=(x.Log.length:Int)+1:=w64_id (by omega) (by omega)
 have hc:∀ k:Nat,((((decide ((lget x.Next (k:Int))<1))||(decide ((w64 ((x.Log.length:Int)+1))<(lget x.Next (k:Int)))))||(decide ((lget x.Have (k:Int))<0)))||(decide ((x.Log.length:Int)<(lget x.Have (k:Int)))))=true↔¬ (inW 1 ((x.Log.length:Int)+1) (lget x.Next (k:Int))=true∧inW 0 (x.Log.length:Int) (lget x.Have (k:Int))=true):=by
  intro k; rw [hwl]; unfold inW; simp; omega
 rcases loop_any (step:=fun y=>R_NodeFault_B1 x ⟨5,-3⟩ y) x.Next.length (fun k=>(k:Int)) (fun k=>¬ (inW 1 ((x.Log.length:Int)+1) (lget x.Next (k:Int))=true∧inW 0 (x.Log.length:Int) (lget x.Have (k:Int))=true)) (rb:=⟨5,-3⟩) (r:=⟨0,0⟩)
  (fun k hk hb=>by
   have hw:w64 ((k:Int)+1)=((k+1:Nat):Int):=by rw [w64_id (by omega) (by omega)]; omega
   simp only [R_NodeFault_B1]
   rw [if_pos (d_t (by omega)),asrt_pos (by omega),asrt_pos (fun _=>by omega),asrt_pos (fun _=>by omega),asrt_pos (fun _=>by omega),if_neg (fun h=>hb ((hc k).1 h)),hw])
  (fun k hk hb=>by
   simp only [R_NodeFault_B1]
   rw [if_pos (d_t (by omega)),asrt_pos (by omega),asrt_pos (fun _=>by omega),asrt_pos (fun _=>by omega),asrt_pos (fun _=>by omega),if_pos ((hc k).2 hb)])
  (by
   simp only [R_NodeFault_B1]
   rw [if_neg (d_f (by omega))]; rfl) with ⟨⟨k,hk,hb⟩,h2⟩ | ⟨g1,h2⟩
 ·have:(x.Next.all (inW 1 ((x.Log.length:Int)+1))&&x.Have.all (inW 0 (x.Log.length:Int)))=false:=by
   rw [Bool.eq_false_iff]
   intro h
   rw [Bool.and_eq_true,List.all_eq_true,List.all_eq_true] at h
   exact hb ⟨h.1 _ (lget_mem x.Next (k:Int) (by omega)),h.2 _ (lget_mem x.Have (k:Int) (by omega))⟩
  rw [this]; exact h2
 ·have:(x.Next.all (inW 1 ((x.Log.length:Int)+1))&&x.Have.all (inW 0 (x.Log.length:Int)))=true:=by
   rw [Bool.and_eq_true,List.all_eq_true,List.all_eq_true,all_lget,all_lget]
   have g2:∀ k:Nat,k<x.Next.length→inW 1 ((x.Log.length:Int)+1) (lget x.Next (k:Int))=true∧inW 0 (x.Log.length:Int) (lget x.Have (k:Int))=true:=fun k hk=>Decidable.not_not.1 (g1 k hk)
   exact ⟨fun k hk=>(g2 k hk).1,fun k hk=>(g2 k (by omega)).2⟩
  rw [this]; exact h2
theorem fJ1_eq (x:Node) (h1:1≤x.N) (h7:x.N≤7) (hl:x.Log.length≤1000) (hz:x.Role≠2→x.Next.length=0∧x.Have.length=0):R_NodeFault_J1 x ⟨5,-3⟩ ()=ending
  (if x.Role=2 then decide ((x.Next.length:Int)=x.N)&&decide ((x.Have.length:Int)=x.N)&&x.Next.all (inW 1 ((x.Log.length:Int)+1))&&x.Have.all (inW 0 (x.Log.length:Int)) else decide (x.Next.length=0)&&decide (x.Have.length=0)):=by
 unfold R_NodeFault_J1
 by_cases c:x.Role=2
 ·rw [if_pos (d_t c),if_pos c]
  by_cases c1:(x.Next.length:Int)=x.N∧(x.Have.length:Int)=x.N
  ·rw [if_neg (by simp [c1.1,c1.2]),fL1_eq x h1 h7 hl c1.1 c1.2,decide_eq_true c1.1,decide_eq_true c1.2]; rfl
  ·have e:(decide ((x.Next.length:Int)=x.N)&&decide ((x.Have.length:Int)=x.N))=false:=by rw [Bool.eq_false_iff]; simpa using c1
   have e2:((!decide ((x.Next.length:Int)=x.N))||(!decide ((x.Have.length:Int)=x.N)))=true:=by rw [← Bool.not_and,e]; rfl
   rw [if_pos e2,e]; rfl
 ·rw [if_neg (d_f c),if_neg c,decide_eq_true (hz c).1,decide_eq_true (hz c).2]; rfl
theorem fL2_eq (x:Node) (h1:1≤x.N) (h7:x.N≤7) (hl:x.Log.length≤1000) (hv:x.Votes.length≤1000) (hr:x.Role=1) (hz:x.Next.length=0∧x.Have.length=0):R_NodeFault_L2 x ⟨5,-3⟩ 0=ending (voteB x):=by
 have hJ:R_NodeFault_J4 x ⟨5,-3⟩ ()=some ⟨0,0⟩:=by
  unfold R_NodeFault_J4
  rw [fJ1_eq x h1 h7 hl (fun _=>hz),if_neg (by omega),decide_eq_true hz.1,decide_eq_true hz.2]; rfl
 have hh:∀ k:Nat,k<x.Votes.length→ob (if (!((decide ((lget x.Votes (k:Int))<0))||(decide (x.N≤(lget x.Votes (k:Int))))))=true then (R_Has (ltake x.Votes (k:Int)) (lget x.Votes (k:Int))) else some default) (fun x10=>some (((decide ((lget x.Votes (k:Int))<0))||(decide (x.N≤(lget x.Votes (k:Int)))))||x10))=some (!(inW 0 (x.N - 1) (lget x.Votes (k:Int))&&decide (lget x.Votes (k:Int)∉x.Votes.take k))):=by
  intro k hk
  by_cases c:lget x.Votes (k:Int)<0∨x.N≤lget x.Votes (k:Int)
  ·have e:inW 0 (x.N - 1) (lget x.Votes (k:Int))=false:=by unfold inW; simp; omega
   rw [or_t c,if_neg (by decide),ob_some,e]; rfl
  ·have e:inW 0 (x.N - 1) (lget x.Votes (k:Int))=true:=inW_iff.2 (by omega)
   rw [or_b c,if_pos (by decide),ltake_nat,has_eq _ (by simp; omega),ob_some,e]
   by_cases c2:lget x.Votes (k:Int)∈x.Votes.take k <;> simp [c2]
 have key:∀ k:Nat,k<x.Votes.length→R_NodeFault_B2 x ⟨5,-3⟩ (k:Int)=if (!(inW 0 (x.N - 1) (lget x.Votes (k:Int))&&decide (lget x.Votes (k:Int)∉x.Votes.take k)))=true then some (.inr ⟨5,-3⟩) else some (.inl ((k+1:Nat):Int)):=by
  intro k hk
  have hw:w64 ((k:Int)+1)=((k+1:Nat):Int):=by rw [w64_id (by omega) (by omega)]; omega
  have h3:=hh k hk
  simp only [R_NodeFault_B2]
  rw [if_pos (d_t (by omega)),asrt_pos (by omega),asrt_pos (fun _=>by omega),asrt_pos (fun _=>by omega),asrt_pos (fun _=>by omega),hw]
  generalize (if (!((decide ((lget x.Votes (k:Int))<0))||(decide (x.N≤(lget x.Votes (k:Int))))))=true then (R_Has (ltake x.Votes (k:Int)) (lget x.Votes (k:Int))) else some default)=o at h3 ⊢
  cases o with
  | none=>cases h3
  | some b=>
   rw [ob_some] at h3
   rw [ob_some,← Option.some.inj h3]
 rcases loop_any (step:=fun y=>R_NodeFault_B2 x ⟨5,-3⟩ y) x.Votes.length (fun k=>(k:Int)) (fun k=>(!(inW 0 (x.N - 1) (lget x.Votes (k:Int))&&decide (lget x.Votes (k:Int)∉x.Votes.take k)))=true) (rb:=⟨5,-3⟩) (r:=⟨0,0⟩)
  (fun k hk hb=>(key k hk).trans (if_neg hb)) (fun k hk hb=>(key k hk).trans (if_pos hb))
  (by
   simp only [R_NodeFault_B2]
   rw [if_neg (d_f (by omega)),hJ]; rfl) with ⟨⟨k,hk,hb⟩,h2⟩ | ⟨g1,h2⟩
 ·have:voteB x=false:=by
   unfold voteB
   rw [decide_eq_false_iff_not]
   rintro ⟨g1,g2⟩
   have e1:=g1 _ (lget_mem x.Votes (k:Int) (by omega))
   have e2:=nodup_lget.1 g2 k hk
   simp [e1,e2] at hb
  rw [this]; exact h2
 ·have g2:∀ k:Nat,k<x.Votes.length→inW 0 (x.N - 1) (lget x.Votes (k:Int))=true∧lget x.Votes (k:Int)∉x.Votes.take k:=fun k hk=>by have:=g1 k hk; simpa using this
  have:voteB x=true:=by
   unfold voteB
   rw [decide_eq_true_eq]
   exact ⟨all_lget.2 fun k hk=>(g2 k hk).1,nodup_lget.2 fun k hk=>(g2 k hk).2⟩
  rw [this]; exact h2
theorem maj_eq (k:Nat) (n:Int) (h1:1≤n) (h7:n≤7):R_Majority (k:Int) n=decide (n<2*(k:Int)):=by
 obtain ⟨m,rfl⟩:∃ m:Nat,n=(m:Int):=⟨n.toNat,by omega⟩
 have e:Int.tdiv (m:Int) 2=((m / 2:Nat):Int):=rfl
 unfold R_Majority
 rw [e,w64_id (by omega) (by omega)]
 have:(((m / 2:Nat):Int)<(k:Int))↔((m:Int)<2*(k:Int)):=by omega
 simp only [this]
theorem rnode_eq (x:Node) (hv:x.Votes.length≤1000) (hl:x.Log.length≤1000):R_NodeFault x=some (nodeF x):=by
 unfold R_NodeFault nodeF
 by_cases c1:(1≤x.N∧x.N≤7)∧0≤x.ID∧x.ID<x.N
 ·have e1:((((decide (x.N<1))||(decide (7<x.N)))||(decide (x.ID<0)))||(decide (x.N≤x.ID)))=false:=by simp; omega
  rw [e1,if_neg (by decide),if_neg (not_not_intro c1)]
  dsimp only [lt]
  by_cases c2:(0≤x.Term∧x.Term≤1000000000)∧(0≤x.Vote∧x.Vote≤x.N)∧(0≤x.Role∧x.Role≤2)∧0≤x.Commit∧x.Commit≤(x.Log.length:Int)
  ·have e2:(((((((!R_Num x.Term)||(decide (x.Vote<0)))||(decide (x.N<x.Vote)))||(decide (x.Role<0)))||(decide (2<x.Role)))||(decide (x.Commit<0)))||(decide ((x.Log.length:Int)<x.Commit)))=false:=by
    unfold R_Num; simp; omega
   rw [e2,if_neg (by decide),if_neg (not_not_intro c2),rlog_eq,ob_some]
   by_cases c3:(fof x.Log).Code=0
   ·rw [if_neg (n_f c3),if_neg (not_not_intro c3),last_eq _ (by omega),ob_some]
    by_cases c4:x.Term<tat x.Log (x.Log.length:Int)
    ·rw [if_pos (d_t c4),if_pos c4]; rfl
    ·rw [if_neg (d_f c4),if_neg c4]
     have e5:R_F 5 (-3)=⟨5,-3⟩:=rfl
     rw [e5]
     by_cases c5:(x.Role≠1∧0<x.Votes.length)∨(x.Role≠2∧(0<x.Next.length∨0<x.Have.length))
     ·have e6:(((!decide (x.Role=1))&&(decide (0<(x.Votes.length:Int))))||((!decide (x.Role=2))&&((decide (0<(x.Next.length:Int)))||(decide (0<(x.Have.length:Int))))))=true:=by simpa using c5
      have e7:formB x=false:=by
       unfold formB
       rcases c5 with ⟨g1,g2⟩ | ⟨g1,g2⟩
       ·have:decide (x.Votes.length=0)=false:=decide_eq_false (by omega)
        rw [if_neg g1,this]; rfl
       ·have:(decide (x.Next.length=0)&&decide (x.Have.length=0))=false:=by
         rw [Bool.eq_false_iff]
         intro h
         simp only [Bool.and_eq_true,decide_eq_true_eq] at h
         omega
        rw [if_neg g1,this,Bool.and_false]
      rw [if_pos e6,e7]; rfl
     ·have e6:(((!decide (x.Role=1))&&(decide (0<(x.Votes.length:Int))))||((!decide (x.Role=2))&&((decide (0<(x.Next.length:Int)))||(decide (0<(x.Have.length:Int))))))=false:=by rw [Bool.eq_false_iff]; simpa using c5
      rw [e6,if_neg (by decide)]
      have hz:x.Role≠2→x.Next.length=0∧x.Have.length=0:=fun h=>by
       have:=fun h2=>c5 (.inr ⟨h,h2⟩)
       omega
      unfold formB
      by_cases c6:x.Role=1
      ·have hz':=hz (by omega)
       rw [if_pos (d_t c6),if_pos c6,if_neg (show ¬ x.Role=2 by omega),has_eq _ (by omega),ob_some,maj_eq _ _ c1.1.1 c1.1.2,decide_eq_true hz'.1,decide_eq_true hz'.2]
       by_cases c7:x.ID∈x.Votes∧¬ x.N<2*(x.Votes.length:Int)
       ·rw [decide_eq_true c7.1,decide_eq_false c7.2,if_neg (by decide),fL2_eq x c1.1.1 c1.1.2 hl hv c6 hz']
        simp [ending]
       ·have e8:((!decide (x.ID∈x.Votes))||decide (x.N<2*(x.Votes.length:Int)))=true:=by
         by_cases g:x.ID∈x.Votes
         ·have:x.N<2*(x.Votes.length:Int):=Decidable.not_not.1 fun h=>c7 ⟨g,h⟩
          simp [this]
         ·simp [g]
        have e9:(decide (x.ID∈x.Votes) && !decide (x.N<2*(x.Votes.length:Int)))=false:=by
         have:=congrArg Bool.not e8
         simpa using this
        have e10:(voteB x&&decide (x.ID∈x.Votes) && !decide (x.N<2*(x.Votes.length:Int)))=false:=by rw [Bool.and_assoc,e9,Bool.and_false]
        rw [if_pos e8,e10]; rfl
      ·have hv0:x.Votes.length=0:=by
        have:=fun h2=>c5 (.inl ⟨c6,h2⟩)
        omega
       rw [if_neg (d_f c6),if_neg c6,fJ1_eq x c1.1.1 c1.1.2 hl hz,decide_eq_true hv0,Bool.true_and]; rfl
   ·rw [if_pos (n_t c3),if_pos c3]
  ·have e2:(((((((!R_Num x.Term)||(decide (x.Vote<0)))||(decide (x.N<x.Vote)))||(decide (x.Role<0)))||(decide (2<x.Role)))||(decide (x.Commit<0)))||(decide ((x.Log.length:Int)<x.Commit)))=true:=by
    unfold R_Num; simp; omega
   rw [if_pos e2,if_pos c2]; rfl
 ·have e1:((((decide (x.N<1))||(decide (7<x.N)))||(decide (x.ID<0)))||(decide (x.N≤x.ID)))=true:=by simp; omega
  rw [if_pos e1,if_pos c1]; rfl
def two (a b:List Entry):Fault:=if (fof a).Code=0 then (if (fof b).Code=0 then fof b else ⟨(fof b).Code,w64 ((fof b).At - 1000)⟩) else fof a
theorem two_eq (a b:List Entry):entry_two a b=some (two a b):=by
 unfold entry_two two
 simp only [echeck_eq,ob_some]
 by_cases ca:(fof a).Code=0
 ·by_cases cb:(fof b).Code=0
  ·simp [ca,cb,ob_some]
  ·simp [ca,cb,ob_some]
 ·simp [ca,ob_some]
theorem two_good {a b:List Entry} (h:(two a b).Code=0):two a b=⟨0,0⟩∧(fof a).Code=0∧(fof b).Code=0:=by
 unfold two at *
 by_cases ca:(fof a).Code=0
 ·rw [if_pos ca] at h ⊢
  by_cases cb:(fof b).Code=0
  ·rw [if_pos cb]; exact ⟨(fof_good cb).2.1,ca,cb⟩
  ·rw [if_neg cb] at h; exact absurd h cb
 ·rw [if_neg ca] at h; exact absurd h ca
def fits (l:List Entry) (p t:Int):Prop:=p≤l.length∧tat l p=t
instance (l:List Entry) (p t:Int):Decidable (fits l p t):=by unfold fits; infer_instance
theorem fits_eq (l:List Entry) (hl:l.length≤1000000) (p t:Int):entry_Fits l p t=some (decide (fits l p t)):=by
 unfold entry_Fits fits
 rw [tat_eq l hl]
 by_cases c:p≤l.length
 ·simp [c,ob_some]
 ·simp [c,ob_some]
def put:Nat→List Entry→List Entry→List Entry
 | _,l,[]=>l
 | p,l,e::m=>if p<l.length∧(lget l (p:Int)).Term=e.Term then put (p+1) l m else put (p+1) (l.take p++[e]) m
theorem put_end (v:List Entry):entry_Put_J1 v=some (if (fof v).Code=0 then (v,true,fof v) else ([],false,⟨(fof v).Code,-1⟩)):=by
 unfold entry_Put_J1
 simp only [echeck_eq,ob_some]
 by_cases c:(fof v).Code=0 <;> simp [c,lt,entry_fault]
theorem put_loop (p:Nat) (more:List Entry) (hp:p≤100000) (hm:more.length≤100000):∀ (m k:Nat) (l:List Entry),more.length - k=m→k≤more.length→p+k≤l.length→l.length≤1000000→
  entry_Put_L1 (p:Int) more (l,(k:Int))=entry_Put_J1 (put (p+k) l (more.drop k))
 | 0,k,l,e,hk,hl,hb=>by
  have:k=more.length:=by omega
  subst this
  rw [put_end]
  refine loopO_inr ?_
  simp only [entry_Put_B1]
  rw [if_neg (d_f (by omega))]
  simp only [put_end,inrO,List.drop_length,put]
 | m+1,k,l,e,hk,hl,hb=>by
  have hlt:k<more.length:=by omega
  have hw:w64 ((k:Int)+1)=((k+1:Nat):Int):=by rw [w64_id (by omega) (by omega)]; omega
  have hw2:w64 ((p:Int)+(k:Int))=((p+k:Nat):Int):=by rw [w64_id (by omega) (by omega)]; omega
  have hmin:min ((p+k:Nat):Int) (l.length:Int)=((p+k:Nat):Int):=by omega
  have h0:(0:Int)≤(k:Int)∧(k:Int)<(more.length:Int):=by omega
  have h1:(k:Int)<(more.length:Int):=by omega
  rw [lget_drop more k hlt,put]
  by_cases c:p+k<l.length∧(lget l ((p+k:Nat):Int)).Term=(lget more (k:Int)).Term
  ·rw [if_pos c]
   refine (loopO_inl (y:=(l,((k+1:Nat):Int))) ?_).trans (put_loop p more hp hm m (k+1) l (by omega) (by omega) (by omega) hb)
   have c1:(((p+k:Nat):Int)<(l.length:Int)):=by omega
   simp only [entry_Put_B1,hw2]
   rw [if_pos (d_t h1),asrt_pos h0,asrt_pos (fun _=>by omega),asrt_pos (fun _=>by omega),if_pos (by simp only [Bool.and_eq_true,decide_eq_true_eq]; exact ⟨c1,c.2⟩)]
   simp only [ob_some,hw]
  ·rw [if_neg c]
   have hlen:(l.take (p+k)++[lget more (k:Int)]).length=p+k+1:=by simp; omega
   refine (loopO_inl (y:=(l.take (p+k)++[lget more (k:Int)],((k+1:Nat):Int))) ?_).trans (put_loop p more hp hm m (k+1) _ (by omega) (by omega) (by omega) (by omega))
   simp only [entry_Put_B1,hw2,hmin]
   have hc:¬ ((decide (((p+k:Nat):Int)<(l.length:Int)))&&decide ((lget l ((p+k:Nat):Int)).Term=(lget more (k:Int)).Term))=true:=by
    simp only [Bool.and_eq_true,decide_eq_true_eq]
    intro ⟨a,b⟩; exact c ⟨by omega,b⟩
   rw [if_pos (d_t h1),asrt_pos h0,asrt_pos (fun h=>by simp at h; omega),asrt_pos (fun h=>by simp at h; omega),if_neg hc,asrt_pos (by omega)]
   have e1:(((p+k:Nat):Int)).toNat=p+k:=by omega
   rw [e1]
   have e2:(⟨(lget more (k:Int)).Term,(lget more (k:Int)).Text⟩:Entry)=lget more (k:Int):=rfl
   rw [e2,asrt_pos (by rw [hlen]; omega),asrt_pos (by omega)]
   simp only [lt,ob_some,hw]
noncomputable def putF (l:List Entry) (p t:Int) (more:List Entry):Fault:=if (two l more).Code=0 then entry_ranged p t else two l more
noncomputable def putS (l:List Entry) (p t:Int) (more:List Entry):List Entry×Bool×Fault:=
 if (putF l p t more).Code=0 then
  if fits l p t then
   if (fof (put p.toNat l more)).Code=0 then (put p.toNat l more,true,fof (put p.toNat l more)) else ([],false,⟨(fof (put p.toNat l more)).Code,-1⟩)
  else (l,false,putF l p t more)
 else ([],false,putF l p t more)
theorem ranged_eq (p t:Int):entry_ranged p t=if p<0∨1000000000<p then ⟨3,-1⟩ else if t<0∨1000000000<t then ⟨3,-2⟩ else ⟨0,0⟩:=by
 unfold entry_ranged entry_number lt entry_fault
 by_cases c1:p<0∨1000000000<p
 ·have:(decide (0≤p)&&decide (p≤1000000000))=false:=by simp; omega
  rw [if_pos c1]; simp [this]
 ·have h1:(decide (0≤p)&&decide (p≤1000000000))=true:=by simp; omega
  rw [if_neg c1]
  by_cases c2:t<0∨1000000000<t
  ·have:(decide (0≤t)&&decide (t≤1000000000))=false:=by simp; omega
   rw [if_pos c2]; simp [h1,this]
  ·have:(decide (0≤t)&&decide (t≤1000000000))=true:=by simp; omega
   rw [if_neg c2]; simp [h1,this]
theorem ranged_good {p t:Int} (h:(entry_ranged p t).Code=0):entry_ranged p t=⟨0,0⟩∧0≤p∧p≤1000000000∧0≤t∧t≤1000000000:=by
 rw [ranged_eq] at *
 by_cases c1:p<0∨1000000000<p
 ·rw [if_pos c1] at h; cases h
 ·by_cases c2:t<0∨1000000000<t
  ·rw [if_neg c1,if_pos c2] at h; cases h
  ·rw [if_neg c1,if_neg c2]; exact ⟨rfl,by omega⟩
theorem putF_good {l:List Entry} {p t:Int} {more:List Entry} (h:(putF l p t more).Code=0):putF l p t more=⟨0,0⟩∧(fof l).Code=0∧(fof more).Code=0∧0≤p∧p≤1000000000∧(entry_ranged p t).Code=0:=by
 unfold putF at *
 by_cases c:(two l more).Code=0
 ·rw [if_pos c] at h ⊢
  have h1:=two_good c
  have h2:=ranged_good h
  exact ⟨h2.1,h1.2.1,h1.2.2,h2.2.1,h2.2.2.1,h⟩
 ·rw [if_neg c] at h; exact absurd h c
theorem put_eq (l:List Entry) (p t:Int) (more:List Entry):entry_Put l p t more=some (putS l p t more):=by
 unfold entry_Put
 simp only [two_eq,ob_some]
 have e:(if (decide ((two l more).Code=0))=true then lt (entry_ranged p t) fun x1=>some x1 else some (two l more))=some (putF l p t more):=by
  unfold putF
  by_cases c:(two l more).Code=0 <;> simp [c,lt]
 rw [e]
 simp only [ob_some]
 by_cases c:(putF l p t more).Code=0
 ·obtain ⟨h1,h2,h3,h4,h5,h6⟩:=putF_good c
  have hl:=(fof_good h2).1
  have hm:=(fof_good h3).1
  rw [if_neg (by simp [c]),eclone_eq l (by omega),ob_some,fits_eq l (by omega),ob_some]
  by_cases f:fits l p t
  ·rw [if_neg (by simp [f])]
   have hp:((p.toNat:Nat):Int)=p:=Int.toNat_of_nonneg h4
   have hf:=f.1
   have:=put_loop p.toNat more (by omega) (by omega) more.length 0 l (by omega) (by omega) (by omega) (by omega)
   rw [hp] at this
   simp only [List.drop_zero,Nat.add_zero] at this
   have h0:((0:Nat):Int)=0:=rfl
   rw [h0] at this
   rw [this,put_end]
   unfold putS
   rw [if_pos c,if_pos f]
  ·rw [if_pos (by simp [f])]
   unfold putS
   rw [if_pos c,if_neg f]
 ·rw [if_pos (by simp [c])]
  unfold putS
  rw [if_neg c]
def there:Nat→List Entry→List Entry→Prop
 | p,l,[]=>p≤l.length
 | p,l,e::m=>p<l.length∧(lget l (p:Int)).Term=e.Term∧there (p+1) l m
theorem there_len (m:List Entry):∀ (p:Nat) (l:List Entry),there p l m→p+m.length≤l.length:=by
 induction m with
 | nil=>intro p l h; simpa [there] using h
 | cons e m ih=>intro p l h; have:=ih _ _ h.2.2; simp; omega
theorem there_put (m:List Entry):∀ (p:Nat) (l:List Entry),there p l m→put p l m=l:=by
 induction m with
 | nil=>intro p l h; rfl
 | cons e m ih=>intro p l h; rw [put,if_pos ⟨h.1,h.2.1⟩]; exact ih _ _ h.2.2
theorem put_len (m:List Entry):∀ (p:Nat) (l:List Entry),p≤l.length→p+m.length≤(put p l m).length∧(¬ there p l m→(put p l m).length=p+m.length):=by
 induction m with
 | nil=>intro p l h; exact ⟨by simpa [put] using h,fun h'=>absurd h h'⟩
 | cons e m ih=>
  intro p l h
  rw [put]
  split
  ·rename_i c
   have h1:=ih (p+1) l (by omega)
   refine ⟨by simp; omega,fun h'=>?_⟩
   have:=h1.2 (fun h''=>h' ⟨c.1,c.2,h''⟩)
   simp; omega
  ·rename_i c
   have hl:(l.take p++[e]).length=p+1:=by simp; omega
   have h1:=ih (p+1) (l.take p++[e]) (by omega)
   refine ⟨by simp; omega,fun _=>?_⟩
   by_cases t:there (p+1) (l.take p++[e]) m
   ·have h2:=there_len _ _ _ t
    rw [there_put _ _ _ t,hl]; rw [hl] at h2; simp only [List.length_cons]; omega
   ·have:=h1.2 t; simp; omega
theorem put_app:∀ (m:List Entry) (q:Nat) (l:List Entry),l.length=q→put q l m=l++m
 | [],q,l,h=>by simp [put]
 | e::m,q,l,h=>by
  rw [put,if_neg (by omega),List.take_of_length_le (by omega),put_app m (q+1) (l++[e]) (by simp; omega)]
  simp
theorem put_not (e:Entry) (m:List Entry) (q:Nat) (l:List Entry) (hq:q≤l.length) (h:¬ (q<l.length∧(lget l (q:Int)).Term=e.Term)):put q l (e::m)=l.take q++e::m:=by
 rw [put,if_neg h,put_app m (q+1) _ (by simp; omega)]
 simp
theorem lset_same {α:Type} [Inhabited α] (l:List α) (n:Nat) (h:n<l.length):lset l (n:Int) (lget l (n:Int))=l:=by
 simp [lset,lget,List.getD,h]
structure NGood (x:Node):Prop where
 n1:1≤x.N
 n7:x.N≤7
 i0:0≤x.ID
 iN:x.ID<x.N
 t0:0≤x.Term
 t1:x.Term≤1000000000
 v0:0≤x.Vote
 vN:x.Vote≤x.N
 r0:0≤x.Role
 r2:x.Role≤2
 c0:0≤x.Commit
 cl:x.Commit≤(x.Log.length:Int)
 log:(fof x.Log).Code=0
 last:¬ x.Term<tat x.Log (x.Log.length:Int)
 form:formB x=true
theorem nodeF_good {x:Node}:(nodeF x).Code=0↔NGood x:=by
 unfold nodeF
 by_cases c1:(1≤x.N∧x.N≤7)∧0≤x.ID∧x.ID<x.N
 ·rw [if_neg (not_not_intro c1)]
  by_cases c2:(0≤x.Term∧x.Term≤1000000000)∧(0≤x.Vote∧x.Vote≤x.N)∧(0≤x.Role∧x.Role≤2)∧0≤x.Commit∧x.Commit≤(x.Log.length:Int)
  ·rw [if_neg (not_not_intro c2)]
   by_cases c3:(fof x.Log).Code=0
   ·rw [if_neg (not_not_intro c3)]
    by_cases c4:x.Term<tat x.Log (x.Log.length:Int)
    ·rw [if_pos c4]; exact ⟨fun h=>(by cases h),fun h=>absurd c4 h.last⟩
    ·rw [if_neg c4]
     by_cases c5:formB x=true
     ·rw [if_pos c5]
      exact ⟨fun _=>⟨c1.1.1,c1.1.2,c1.2.1,c1.2.2,c2.1.1,c2.1.2,c2.2.1.1,c2.2.1.2,c2.2.2.1.1,c2.2.2.1.2,c2.2.2.2.1,c2.2.2.2.2,c3,c4,c5⟩,fun _=>rfl⟩
     ·rw [if_neg c5]; exact ⟨fun h=>(by cases h),fun h=>absurd h.form c5⟩
   ·rw [if_pos c3]; exact ⟨fun h=>absurd h c3,fun h=>absurd h.log c3⟩
  ·rw [if_pos c2]; exact ⟨fun h=>(by cases h),fun h=>absurd ⟨⟨h.t0,h.t1⟩,⟨h.v0,h.vN⟩,⟨h.r0,h.r2⟩,h.c0,h.cl⟩ c2⟩
 ·rw [if_pos c1]; exact ⟨fun h=>(by cases h),fun h=>absurd ⟨⟨h.n1,h.n7⟩,h.i0,h.iN⟩ c1⟩
theorem nodeF_zero {x:Node} (h:NGood x):nodeF x=⟨0,0⟩:=by
 unfold nodeF
 rw [if_neg (not_not_intro ⟨⟨h.n1,h.n7⟩,h.i0,h.iN⟩),if_neg (not_not_intro ⟨⟨h.t0,h.t1⟩,⟨h.v0,h.vN⟩,⟨h.r0,h.r2⟩,h.c0,h.cl⟩),if_neg (not_not_intro h.log),if_neg h.last,if_pos h.form]
theorem NGood.len {x:Node} (h:NGood x):x.Log.length≤100:=(fof_good h.log).1
theorem NGood.lead {x:Node} (h:NGood x) (hr:x.Role=2):(x.Next.length:Int)=x.N∧(x.Have.length:Int)=x.N∧(∀ k∈x.Next,1≤k∧k≤(x.Log.length:Int)+1)∧(∀ k∈x.Have,0≤k∧k≤(x.Log.length:Int))∧x.Votes=[]:=by
 have hf:=h.form
 unfold formB at hf
 rw [if_pos hr,if_neg (by omega)] at hf
 simp only [Bool.and_eq_true,decide_eq_true_eq,List.all_eq_true,inW_iff] at hf
 exact ⟨hf.2.1.1.1,hf.2.1.1.2,hf.2.1.2,hf.2.2,List.eq_nil_of_length_eq_zero hf.1⟩
theorem NGood.idle {x:Node} (h:NGood x) (hr:x.Role≠2):x.Next=[]∧x.Have=[]:=by
 have hf:=h.form
 unfold formB at hf
 rw [if_neg hr] at hf
 simp only [Bool.and_eq_true,decide_eq_true_eq] at hf
 exact ⟨List.eq_nil_of_length_eq_zero hf.2.1,List.eq_nil_of_length_eq_zero hf.2.2⟩
theorem NGood.small {x:Node} (h:NGood x):x.Next.length≤7∧x.Have.length≤7:=by
 by_cases c:x.Role=2
 ·have:=h.lead c; have:=h.n7; omega
 ·obtain ⟨h1,h2⟩:=h.idle c; rw [h1,h2]; simp
def cntD (g:Nat→Bool) (c:Nat):Nat→Nat
 | 0=>c
 | k+1=>if k+1≤c then c else if g (k+1)=true then k+1 else cntD g c k
def haveN (l:List Int) (k:Int):Nat:=l.countP fun h=>decide (k≤h)
def gd (n t:Int) (log:List Entry) (have0:List Int) (k:Nat):Bool:=decide (n<2*(haveN have0 (k:Int):Int))&&decide (tat log (k:Int)=t)
theorem haveN_take (l:List Int) (k:Int) (i:Nat) (h:i<l.length):haveN (l.take (i+1)) k=haveN (l.take i) k+if k≤lget l (i:Int) then 1 else 0:=by
 unfold haveN
 rw [lget_take l i h,List.countP_append]
 by_cases c:k≤lget l (i:Int) <;> simp [c]
theorem haveN_le (l:List Int) (k:Int):haveN l k≤l.length:=List.countP_le_length
theorem most_eq (k:Nat) (hk:k≤100000) (n:Int):raft_most (k:Int) n=decide (n<2*(k:Int)):=by
 unfold raft_most; rw [w64_id (by omega) (by omega)]
theorem count_L2 (n t:Int) (row:List Entry) (hs:List Int) (hr:row.length≤1000) (hh:hs.length≤1000) (c k:Nat) (hk:k≤1000) (h1:1≤k):raft_count_L2 n t row hs ((c:Int),(k:Int)) (0,0)=some (.inl (((if gd n t row hs k=true then k else c:Nat):Int),((k - 1:Nat):Int))):=by
 have hwk:w64 ((k:Int) - 1)=((k - 1:Nat):Int):=by rw [w64_id (by omega) (by omega)]; omega
 have hle:=haveN_le hs (k:Int)
 have:=loop_run (step:=fun y=>raft_count_B2 n t row hs ((c:Int),(k:Int)) y) hs.length (fun i=>((haveN (hs.take i) (k:Int):Int),(i:Int)))
  (fun i hi=>by
   have hw:w64 ((i:Int)+1)=((i+1:Nat):Int):=by rw [w64_id (by omega) (by omega)]; omega
   have hl:=haveN_le (hs.take i) (k:Int)
   have hl2:(hs.take i).length≤1000:=by simp; omega
   have hw2:w64 ((haveN (hs.take i) (k:Int):Int)+1)=((haveN (hs.take i) (k:Int)+1:Nat):Int):=by rw [w64_id (by omega) (by omega)]; omega
   simp only [raft_count_B2]
   rw [if_pos (d_t (by omega)),asrt_pos (by omega),asrt_pos (by omega),haveN_take _ _ _ hi,hw]
   by_cases g:(k:Int)≤lget hs (i:Int)
   ·rw [if_pos (d_t g),ob_some,if_pos g,hw2]
   ·rw [if_neg (d_f g),ob_some,if_neg g]; rfl)
  (r:=.inl (((if gd n t row hs k=true then k else c:Nat):Int),((k - 1:Nat):Int)))
  (by
   simp only [raft_count_B2]
   rw [if_neg (d_f (by omega)),List.take_length]
   simp only [raft_count_J2]
   dsimp only [lt]
   rw [most_eq _ (by omega),hwk]
   unfold gd
   by_cases g:n<2*(haveN hs (k:Int):Int)
   ·rw [if_pos (d_t g),tat_eq _ (by omega),ob_some,decide_eq_true g]
    by_cases g2:tat row (k:Int)=t
    ·rw [decide_eq_true g2,if_pos (by decide),ob_some,if_pos (by decide)]; rfl
    ·rw [decide_eq_false g2,if_neg (by decide),ob_some,if_neg (by decide)]; rfl
   ·rw [if_neg (d_f g),ob_some,decide_eq_false g,Bool.false_and,if_neg (by decide),ob_some,Bool.false_and,if_neg (by decide)]; rfl)
 simpa [raft_count_L2,haveN] using this
theorem count_L1 (n i t v r:Int) (row:List Entry) (hs:List Int) (hr:row.length≤1000) (hh:hs.length≤1000):∀ (k c:Nat),k≤1000→raft_count_L1 n i t v r row hs ((c:Int),(k:Int))=some (n,i,t,v,r,((cntD (gd n t row hs) c k:Nat):Int))
 | k,c,hk=>by
  by_cases g:c<k
  ·match k,hk,g with
   | k+1,hk,g=>
   have h2:=count_L2 n t row hs hr hh c (k+1) hk (by omega)
   have hB:raft_count_B1 n i t v r row hs ((c:Int),((k+1:Nat):Int))=some (.inl (((if gd n t row hs (k+1)=true then k+1 else c:Nat):Int),((k:Nat):Int))):=by
    simp only [raft_count_B1]
    rw [if_pos (d_t (by omega)),h2]; rfl
   refine (loopO_inl hB).trans ?_
   rw [cntD,if_neg (show ¬ k+1≤c by omega)]
   by_cases g2:gd n t row hs (k+1)=true
   ·rw [if_pos g2,if_pos g2]
    refine loopO_inr ?_
    simp only [raft_count_B1]
    rw [if_neg (d_f (by omega))]; rfl
   ·rw [if_neg g2,if_neg g2]
    exact count_L1 n i t v r row hs hr hh k c (by omega)
  ·have:cntD (gd n t row hs) c k=c:=by
    cases k with
    | zero=>rfl
    | succ k=>rw [cntD,if_pos (by omega)]
   rw [this]
   refine loopO_inr ?_
   simp only [raft_count_B1]
   rw [if_neg (d_f (by omega))]; rfl
theorem rcount_eq (n i t v r:Int) (c:Nat) (row:List Entry) (rw1:List Int) (hs:List Int) (hr:row.length≤1000) (hh:hs.length≤1000):raft_count n i t v r (c:Int) row rw1 hs=some (n,i,t,v,r,((cntD (gd n t row hs) c row.length:Nat):Int)):=
 count_L1 n i t v r row hs hr hh row.length c hr
theorem rcount1_eq (n i t v r:Int) (c:Nat) (row:List Entry) (rw1 rw2:List Int) (hs:List Int) (hr:row.length≤1000) (hh:hs.length≤1000):raft_count_v1 n i t v r (c:Int) row rw1 rw2 hs=some (n,i,t,v,r,((cntD (gd n t row hs) c row.length:Nat):Int)):=
 count_L1 n i t v r row hs hr hh row.length c hr
theorem tat_in (l:List Entry) (k:Nat) (h1:1≤k) (h2:k≤l.length):tat l (k:Int)=(lget l ((k - 1:Nat):Int)).Term:=by
 have e:(k:Int) - 1=((k - 1:Nat):Int):=by omega
 unfold tat
 rw [if_neg (by omega),e]
def leaderN (x:Node):Node:=
 ⟨x.N,x.ID,x.Term,x.Vote,x.Log,2,((cntD (gd x.N x.Term x.Log ((List.replicate x.N.toNat (0:Int)).set x.ID.toNat (x.Log.length:Int))) x.Commit.toNat x.Log.length:Nat):Int),[],List.replicate x.N.toNat ((x.Log.length:Int)+1),(List.replicate x.N.toNat (0:Int)).set x.ID.toNat (x.Log.length:Int)⟩
theorem lead_eq (n i t v r c:Int) (bs:List Int) (row:List Entry) (h1:1≤n) (h7:n≤7) (hi:0≤i) (hin:i<n) (hl:row.length≤1000) (hc:0≤c) :
  raft_lead n i t v r c bs row=some (n,i,t,v,2,((cntD (gd n t row ((List.replicate n.toNat (0:Int)).set i.toNat (row.length:Int))) c.toNat row.length:Nat):Int),List.replicate n.toNat ((row.length:Int)+1),(List.replicate n.toNat (0:Int)).set i.toNat (row.length:Int)):=by
 have hw:w64 ((row.length:Int)+1)=(row.length:Int)+1:=w64_id (by omega) (by omega)
 obtain ⟨c',rfl⟩:∃ c':Nat,c=(c':Int):=⟨c.toNat,by omega⟩
 unfold raft_lead raft_follow_v1
 dsimp only [lt]
 rw [asrt_pos (by omega),asrt_pos (by omega)]
 have hlen:(List.replicate n.toNat (0:Int)).length=n.toNat:=List.length_replicate
 have:=loop_run (step:=fun y=>raft_lead_B1 row (n,i,t,v,0,(c':Int)) y) n.toNat (fun k=>(List.replicate k ((row.length:Int)+1)++List.replicate (n.toNat - k) (0:Int),(k:Int)))
  (fun k hk=>by
   have hwk:w64 ((k:Int)+1)=((k+1:Nat):Int):=by rw [w64_id (by omega) (by omega)]; omega
   have hl2:(List.replicate k ((row.length:Int)+1)++List.replicate (n.toNat - k) (0:Int)).length=n.toNat:=by simp; omega
   simp only [raft_lead_B1]
   rw [if_pos (d_t (by omega)),asrt_pos (by omega),asrt_pos (by omega),hw,hwk]
   congr 3
   unfold lset
   have e1:List.replicate (n.toNat - k) (0:Int)=0::List.replicate (n.toNat - (k+1)) 0:=by
    rw [← List.replicate_succ]; congr 1; omega
   rw [Int.toNat_natCast,List.set_append_right _ _ (by simp),List.length_replicate,Nat.sub_self,e1,List.set_cons_zero,List.replicate_succ']
   simp)
  (r:=(n,i,t,v,2,((cntD (gd n t row ((List.replicate n.toNat (0:Int)).set i.toNat (row.length:Int))) c' row.length:Nat):Int),List.replicate n.toNat ((row.length:Int)+1),(List.replicate n.toNat (0:Int)).set i.toNat (row.length:Int)))
  (by
   simp only [raft_lead_B1]
   rw [if_neg (d_f (by omega)),Nat.sub_self,List.replicate_zero,List.append_nil]
   simp only [raft_lead_J1]
   rw [asrt_pos (by omega),asrt_pos (by omega),rcount_eq _ _ _ _ _ _ _ _ _ hl (by rw [lset_len,hlen]; omega),ob_some]
   rfl)
 simp only [Nat.sub_zero,List.replicate_zero,List.nil_append] at this
 exact this
theorem lead1_eq (n i t v r c:Int) (row:List Entry) (r1 r2 r3:List Int) (h1:1≤n) (h7:n≤7) (hi:0≤i) (hin:i<n) (hl:row.length≤1000) (hc:0≤c) :
  raft_lead_v1 n i t v r c row r1 r2 r3=some (n,i,t,v,2,((cntD (gd n t row ((List.replicate n.toNat (0:Int)).set i.toNat (row.length:Int))) c.toNat row.length:Nat):Int),List.replicate n.toNat ((row.length:Int)+1),(List.replicate n.toNat (0:Int)).set i.toNat (row.length:Int)):=by
 have hw:w64 ((row.length:Int)+1)=(row.length:Int)+1:=w64_id (by omega) (by omega)
 obtain ⟨c',rfl⟩:∃ c':Nat,c=(c':Int):=⟨c.toNat,by omega⟩
 unfold raft_lead_v1 raft_follow
 dsimp only [lt]
 rw [asrt_pos (by omega),asrt_pos (by omega)]
 have hlen:(List.replicate n.toNat (0:Int)).length=n.toNat:=List.length_replicate
 have:=loop_run (step:=fun y=>raft_lead_v1_B1 row (n,i,t,v,0,(c':Int)) y) n.toNat (fun k=>(List.replicate k ((row.length:Int)+1)++List.replicate (n.toNat - k) (0:Int),(k:Int)))
  (fun k hk=>by
   have hwk:w64 ((k:Int)+1)=((k+1:Nat):Int):=by rw [w64_id (by omega) (by omega)]; omega
   have hl2:(List.replicate k ((row.length:Int)+1)++List.replicate (n.toNat - k) (0:Int)).length=n.toNat:=by simp; omega
   simp only [raft_lead_v1_B1]
   rw [if_pos (d_t (by omega)),asrt_pos (by omega),asrt_pos (by omega),hw,hwk]
   congr 3
   unfold lset
   have e1:List.replicate (n.toNat - k) (0:Int)=0::List.replicate (n.toNat - (k+1)) 0:=by
    rw [← List.replicate_succ]; congr 1; omega
   rw [Int.toNat_natCast,List.set_append_right _ _ (by simp),List.length_replicate,Nat.sub_self,e1,List.set_cons_zero,List.replicate_succ']
   simp)
  (r:=(n,i,t,v,2,((cntD (gd n t row ((List.replicate n.toNat (0:Int)).set i.toNat (row.length:Int))) c' row.length:Nat):Int),List.replicate n.toNat ((row.length:Int)+1),(List.replicate n.toNat (0:Int)).set i.toNat (row.length:Int)))
  (by
   simp only [raft_lead_v1_B1]
   rw [if_neg (d_f (by omega)),Nat.sub_self,List.replicate_zero,List.append_nil]
   simp only [raft_lead_v1_J1]
   rw [asrt_pos (by omega),asrt_pos (by omega),rcount_eq _ _ _ _ _ _ _ _ _ hl (by rw [lset_len,hlen]; omega),ob_some]
   rfl)
 simp only [Nat.sub_zero,List.replicate_zero,List.nil_append] at this
 exact this
def mls (id:Int) (f:Nat→Mail):Nat→List Mail
 | 0=>[]
 | k+1=>if (k:Int)=id then mls id f k else mls id f k++[f k]
theorem mls_len (id:Int) (f:Nat→Mail):∀ k,(mls id f k).length≤k
 | 0=>Nat.le_refl _
 | k+1=>by
  have:=mls_len id f k
  rw [mls]
  split
  ·omega
  ·simp; omega
theorem mls_mem {id:Int} {f:Nat→Mail}:∀ {k:Nat} {m:Mail},m∈mls id f k→∃ j:Nat,j<k∧(j:Int)≠id∧m=f j
 | 0,m,h=>by cases h
 | k+1,m,h=>by
  rw [mls] at h
  split at h
  ·obtain ⟨j,h1,h2⟩:=mls_mem h; exact ⟨j,by omega,h2⟩
  ·rename_i c
   rw [List.mem_append,List.mem_singleton] at h
   rcases h with h | h
   ·obtain ⟨j,h1,h2⟩:=mls_mem h; exact ⟨j,by omega,h2⟩
   ·exact ⟨k,by omega,c,h⟩
def askM (id t:Int) (log:List Entry) (k:Nat):Mail:=⟨1,id,(k:Int),t,(log.length:Int),tat log (log.length:Int),0,[],false⟩
theorem others_eq (n i t v r c:Int) (bs:List Int) (row:List Entry) (h1:1≤n) (h7:n≤7) (hl:row.length≤1000):raft_others n i t v r c bs row=some (mls i (askM i t row) n.toNat):=by
 have:=loop_run (step:=fun y=>raft_others_B1 n i t v r c bs row y) n.toNat (fun k=>(mls i (askM i t row) k,(k:Int)))
  (fun k hk=>by
   have hwk:w64 ((k:Int)+1)=((k+1:Nat):Int):=by rw [w64_id (by omega) (by omega)]; omega
   have hml:=mls_len i (askM i t row) k
   simp only [raft_others_B1]
   rw [if_pos (d_t (by omega)),hwk,mls]
   by_cases g:(k:Int)=i
   ·rw [if_neg (n_f g),ob_some,if_pos g]
   ·rw [if_pos (n_t g),if_neg g]
    unfold raft_Stand_1
    rw [tat_eq _ (by omega),ob_some,ob_some,asrt_pos (by simp; omega)]
    rfl)
  (r:=mls i (askM i t row) n.toNat)
  (by
   simp only [raft_others_B1]
   rw [if_neg (d_f (by omega))]; rfl)
 simpa [raft_others,raft_others_L1,mls] using this
def bringM (x:Node) (k:Nat):Mail:=⟨3,x.ID,(k:Int),x.Term,lget x.Next (k:Int) - 1,tat x.Log (lget x.Next (k:Int) - 1),x.Commit,(x.Log.take (min (lget x.Next (k:Int) - 1+5) (x.Log.length:Int)).toNat).drop (lget x.Next (k:Int) - 1).toNat,false⟩
theorem beats_eq (x:Node) (h1:1≤x.N) (h7:x.N≤7) (hl:x.Log.length≤1000) (hn:(x.Next.length:Int)=x.N) (hk:∀ k∈x.Next,1≤k∧k≤(x.Log.length:Int)+1):raft_beats x=some (mls x.ID (bringM x) x.N.toNat):=by
 unfold raft_beats
 have:=loop_run (step:=fun y=>raft_others_v1_B1 x y) x.N.toNat (fun k=>(mls x.ID (bringM x) k,(k:Int)))
  (fun k hk2=>by
   have hwk:w64 ((k:Int)+1)=((k+1:Nat):Int):=by rw [w64_id (by omega) (by omega)]; omega
   have hml:=mls_len x.ID (bringM x) k
   have hnk:=hk _ (lget_mem x.Next (k:Int) (by omega))
   have hw2:w64 (lget x.Next (k:Int) - 1)=lget x.Next (k:Int) - 1:=w64_id (by omega) (by omega)
   have hw3:w64 (lget x.Next (k:Int) - 1+5)=lget x.Next (k:Int) - 1+5:=w64_id (by omega) (by omega)
   simp only [raft_others_v1_B1]
   rw [if_pos (d_t (by omega)),hwk,mls]
   by_cases g:(k:Int)=x.ID
   ·rw [if_neg (n_f g),ob_some,if_pos g]
   ·rw [if_pos (n_t g),if_neg g]
    unfold raft_beats_1
    rw [asrt_pos (by omega),hw2,hw3,tat_eq _ (by omega),ob_some,asrt_pos (by omega),eclone_eq _ (by simp [ldrop,ltake]; omega),ob_some,ob_some,asrt_pos (by simp; omega)]
    rfl)
  (r:=mls x.ID (bringM x) x.N.toNat)
  (by
   simp only [raft_others_v1_B1]
   rw [if_neg (d_f (by omega))]; rfl)
 have h2:raft_others_v1 x=some (mls x.ID (bringM x) x.N.toNat):=by simpa [raft_others_v1,raft_others_v1_L1,mls] using this
 rw [h2,ob_some]
theorem beats1_eq (x:Node) (h1:1≤x.N) (h7:x.N≤7) (hl:x.Log.length≤1000) (hn:(x.Next.length:Int)=x.N) (hk:∀ k∈x.Next,1≤k∧k≤(x.Log.length:Int)+1):raft_beats_v1 x.N x.ID x.Term x.Vote x.Role x.Commit x.Log x.Next x.Have=some (mls x.ID (bringM x) x.N.toNat,x.N,x.ID,x.Term,x.Vote,x.Log,x.Role,x.Commit,x.Log):=by
 have:=loop_run (step:=fun y=>raft_others_v2_B1 x.N x.Next x.Have y) x.N.toNat (fun k=>(x.N,x.ID,x.Term,x.Vote,x.Log,x.Role,x.Commit,mls x.ID (bringM x) k,(k:Int),x.Log))
  (fun k hk2=>by
   have hwk:w64 ((k:Int)+1)=((k+1:Nat):Int):=by rw [w64_id (by omega) (by omega)]; omega
   have hml:=mls_len x.ID (bringM x) k
   have hnk:=hk _ (lget_mem x.Next (k:Int) (by omega))
   have hw2:w64 (lget x.Next (k:Int) - 1)=lget x.Next (k:Int) - 1:=w64_id (by omega) (by omega)
   have hw3:w64 (lget x.Next (k:Int) - 1+5)=lget x.Next (k:Int) - 1+5:=w64_id (by omega) (by omega)
   simp only [raft_others_v2_B1]
   rw [if_pos (d_t (by omega)),hwk,mls]
   by_cases g:(k:Int)=x.ID
   ·rw [if_neg (n_f g),ob_some,if_pos g]
   ·rw [if_pos (n_t g),if_neg g]
    unfold raft_beats_1_v2
    rw [asrt_pos (by omega),asrt_pos (by omega),hw2,hw3,tat_eq _ (by omega),ob_some,asrt_pos (by omega),eclone_eq _ (by simp [ldrop,ltake]; omega),ob_some,ob_some,asrt_pos (by simp; omega)]
    rfl)
  (r:=(mls x.ID (bringM x) x.N.toNat,x.N,x.ID,x.Term,x.Vote,x.Log,x.Role,x.Commit,x.Log))
  (by
   simp only [raft_others_v2_B1]
   rw [if_neg (d_f (by omega))]; rfl)
 have h2:raft_others_v2 x.N x.ID x.Term x.Vote x.Role x.Commit x.Log x.Next x.Have=some (mls x.ID (bringM x) x.N.toNat,x.N,x.ID,x.Term,x.Vote,x.Log,x.Role,x.Commit,x.Log):=by simpa [raft_others_v2,raft_others_v2_L1,mls] using this
 unfold raft_beats_v1
 rw [h2,ob_some]
theorem tat_take (l:List Entry) (n:Nat) (h:n≤l.length):tat (l.take n) ((l.take n).length:Int)=tat l (n:Int):=by
 have hl:(l.take n).length=n:=by simp; omega
 rw [hl]
 unfold tat
 rw [hl]
 by_cases c:(n:Int)<1
 ·rw [if_pos (.inl c),if_pos (.inl c)]
 ·rw [if_neg (by omega),if_neg (by omega)]
  have e:(n:Int) - 1=((n - 1:Nat):Int):=by omega
  have:=lget_ltake l (n:Int) ((n:Int) - 1) (by omega)
  rw [ltake_nat] at this
  rw [this]
def nE:Node:=⟨0,0,0,0,[],0,0,[],[],[]⟩
structure Small (x:Node):Prop where
 l:x.Log.length≤1000
 v:x.Votes.length≤1000
 n:x.Next.length≤1000
 h:x.Have.length≤1000
theorem Small.check {x:Node} (h:Small x):raft_Check x=some (nodeF x):=ncheck_eq x h.v h.n h.h h.l
theorem Small.rcheck {x:Node} (h:Small x):R_NodeFault x=some (nodeF x):=rnode_eq x h.v h.l
theorem own_eq {x:Node} (h:Small x):raft_own x=some (x.N,x.ID,x.Term,x.Vote,x.Log,x.Role,x.Commit,x.Votes,x.Next,x.Have):=by
 have h1:=h.l
 have h2:=h.v
 have h3:=h.n
 have h4:=h.h
 unfold raft_own
 rw [eclone_eq _ (by omega),ob_some,iclone_eq _ (by omega),ob_some,iclone_eq _ (by omega),ob_some,iclone_eq _ (by omega),ob_some]
def n12 (y:Node) (ms:List Mail) (f:Fault):Int×Int×Int×Int×List Entry×Int×Int×List Int×List Int×List Int×List Mail×Fault:=(y.N,y.ID,y.Term,y.Vote,y.Log,y.Role,y.Commit,y.Votes,y.Next,y.Have,ms,f)
def n11 (y:Node) (f:Fault):Int×Int×Int×Int×List Entry×Int×Int×List Int×List Int×List Int×Fault:=(y.N,y.ID,y.Term,y.Vote,y.Log,y.Role,y.Commit,y.Votes,y.Next,y.Have,f)
def n8 (y:Node) (f:Fault):Int×Int×Int×Int×List Entry×Int×Int×Fault:=(y.N,y.ID,y.Term,y.Vote,y.Log,y.Role,y.Commit,f)
def stX (x:Node):Node:=⟨x.N,x.ID,x.Term+1,x.ID+1,x.Log,1,x.Commit,[x.ID],[],[]⟩
def standS (x:Node):Node×List Mail×Fault:=
 if ¬ (nodeF x).Code=0 then (nE,[],nodeF x)
 else if x.Role=2 then (nE,[],⟨11,0⟩)
 else if x.Term=1000000000 then (nE,[],⟨9,0⟩)
 else (if x.N=1 then leaderN (stX x) else stX x,mls x.ID (askM x.ID (x.Term+1) x.Log) x.N.toNat,⟨0,0⟩)
theorem stand_eq {x:Node} (h:Small x):raft_Stand x=some (n12 (standS x).1 (standS x).2.1 (standS x).2.2):=by
 unfold raft_Stand standS
 rw [h.check,ob_some]
 by_cases c0:(nodeF x).Code=0
 ·have hg:=nodeF_good.1 c0
  have hl:=hg.len
  rw [if_neg (n_f c0),if_neg (not_not_intro c0),nodeF_zero hg]
  by_cases c1:x.Role=2
  ·rw [if_pos (d_t c1),if_pos c1]; rfl
  ·rw [if_neg (d_f c1),if_neg c1]
   by_cases c2:x.Term=1000000000
   ·rw [if_pos (d_t c2),if_pos c2]; rfl
   ·have hw1:w64 (x.Term+1)=x.Term+1:=by have:=hg.t0; have:=hg.t1; exact w64_id (by omega) (by omega)
    have hw2:w64 (x.ID+1)=x.ID+1:=by have:=hg.i0; have:=hg.iN; have:=hg.n7; exact w64_id (by omega) (by omega)
    rw [if_neg (d_f c2),if_neg c2,ob_some,if_neg (by decide),own_eq h,ob_some]
    dsimp only [lt,raft_follow]
    rw [hw1,hw2,others_eq _ _ _ _ _ _ _ _ hg.n1 hg.n7 (by omega),ob_some]
    have hm:raft_most 1 x.N=decide (x.N=1):=by
     have:=most_eq 1 (by omega) x.N
     have e:((1:Nat):Int)=1:=rfl
     rw [e] at this
     rw [this]
     have h1:=hg.n1
     have:(x.N<2*1)↔x.N=1:=by omega
     simp only [this]
    rw [hm]
    by_cases c3:x.N=1
    ·rw [if_pos (d_t c3),if_pos c3,lead_eq _ _ _ _ _ _ _ _ hg.n1 hg.n7 hg.i0 hg.iN (by omega) hg.c0,ob_some,ob_some]
     rfl
    ·rw [if_neg (d_f c3),if_neg c3,ob_some]
     rfl
 ·rw [if_pos (n_t c0),if_pos c0,ob_some,if_pos (n_t c0)]; rfl
def proX (x:Node) (text:List UInt8):Node:=
 ⟨x.N,x.ID,x.Term,x.Vote,x.Log++[⟨x.Term,text⟩],x.Role,((cntD (gd x.N x.Term (x.Log++[⟨x.Term,text⟩]) (lset x.Have x.ID ((x.Log.length:Int)+1))) x.Commit.toNat (x.Log.length+1):Nat):Int),x.Votes,lset x.Next x.ID ((x.Log.length:Int)+2),lset x.Have x.ID ((x.Log.length:Int)+1)⟩
def propS (x:Node) (text:List UInt8):Node×Fault:=
 if ¬ (nodeF x).Code=0 then (nE,nodeF x)
 else if ¬ x.Role=2 then (nE,⟨11,0⟩)
 else if 200<text.length then (nE,⟨8,0⟩)
 else if x.Log.length=100 then (nE,⟨2,0⟩)
 else (proX x text,⟨0,0⟩)
theorem propose_eq {x:Node} (h:Small x) (text:List UInt8):raft_Propose x text=some (n11 (propS x text).1 (propS x text).2):=by
 unfold raft_Propose propS
 rw [h.check,ob_some]
 by_cases c0:(nodeF x).Code=0
 ·have hg:=nodeF_good.1 c0
  have hl:=hg.len
  rw [if_neg (n_f c0),if_neg (not_not_intro c0),nodeF_zero hg]
  by_cases c1:x.Role=2
  ·rw [if_neg (n_f c1),if_neg (not_not_intro c1)]
   by_cases c2:200<text.length
   ·rw [if_pos (d_t (by omega)),if_pos c2]; rfl
   ·rw [if_neg (d_f (by omega)),if_neg c2]
    by_cases c3:x.Log.length=100
    ·rw [if_pos (d_t (by omega)),if_pos c3]; rfl
    ·obtain ⟨l1,l2,l3,l4,l5⟩:=hg.lead c1
     have i0:=hg.i0
     have iN:=hg.iN
     have hap:((x.Log++[(⟨x.Term,text⟩:Entry)]).length:Int)=(x.Log.length:Int)+1:=by simp
     have hw:w64 ((x.Log.length:Int)+1+1)=(x.Log.length:Int)+2:=by rw [w64_id (by omega) (by omega)]; omega
     have hsm:=hg.small
     obtain ⟨c,hc⟩:∃ c:Nat,x.Commit=(c:Int):=⟨x.Commit.toNat,by have:=hg.c0; omega⟩
     rw [if_neg (d_f (by omega)),if_neg c3,ob_some,if_neg (by decide),own_eq h,ob_some]
     dsimp only [lt]
     rw [asrt_pos (by omega),asrt_pos (by omega),asrt_pos (by omega),asrt_pos (by omega),asrt_pos (by omega),hap,hw,hc,rcount1_eq _ _ _ _ _ _ _ _ _ _ (by simp; omega) (by rw [lset_len]; omega),ob_some]
     unfold proX
     rw [hc,Int.toNat_natCast]
     simp [n11]
  ·rw [if_pos (n_t c1),if_pos c1]; rfl
 ·rw [if_pos (n_t c0),if_pos c0,ob_some,if_pos (n_t c0)]; rfl
def beatS (x:Node):List Mail×Fault:=
 if ¬ (nodeF x).Code=0 then ([],nodeF x) else if ¬ x.Role=2 then ([],⟨11,0⟩) else (mls x.ID (bringM x) x.N.toNat,⟨0,0⟩)
theorem beat_eq {x:Node} (h:Small x):raft_Beat x=some (beatS x):=by
 unfold raft_Beat beatS
 rw [h.check,ob_some]
 by_cases c0:(nodeF x).Code=0
 ·have hg:=nodeF_good.1 c0
  rw [if_neg (not_not_intro c0),nodeF_zero hg]
  by_cases c1:x.Role=2
  ·obtain ⟨l1,l2,l3,l4,l5⟩:=hg.lead c1
   rw [if_neg (by simp [c1]),if_neg (not_not_intro c1),ob_some,if_neg (by simp),beats_eq x hg.n1 hg.n7 h.l l1 l3,ob_some]
  ·rw [if_pos (by simp [c1]),if_pos c1]; rfl
 ·have e:∀ b:Bool,(decide ((nodeF x).Code=0)&&b)=false:=fun b=>by rw [decide_eq_false c0]; rfl
  rw [if_pos c0,e,if_neg (by decide),ob_some,if_pos (n_t c0)]
def restS (x:Node):Node×Fault:=
 if ¬ (nodeF x).Code=0 then (nE,nodeF x) else (⟨x.N,x.ID,x.Term,x.Vote,x.Log,0,0,[],[],[]⟩,nodeF x)
theorem rest_eq {x:Node} (h:Small x):raft_Restart x=some (n8 (restS x).1 (restS x).2):=by
 unfold raft_Restart restS
 rw [h.check,ob_some]
 by_cases c0:(nodeF x).Code=0
 ·rw [if_neg (n_f c0),if_neg (not_not_intro c0),own_eq h,ob_some]; rfl
 ·rw [if_pos (n_t c0),if_pos c0]; rfl
def finM (x:Node) (m:Mail):Prop:=
 (1≤m.Kind∧m.Kind≤4)∧m.To=x.ID∧m.From≠x.ID∧(0≤m.From∧m.From<x.N)∧(1≤m.Term∧m.Term≤1000000000)∧(0≤m.A∧m.A≤1000000000)∧(0≤m.B∧m.B≤1000000000)∧(0≤m.C0∧m.C0≤1000000000)∧m.Entries.length≤5∧(m.Entries.length=0∨m.Kind=3)∧(fof m.Entries).Code=0∧tat m.Entries (m.Entries.length:Int)≤m.Term
instance (x:Node) (m:Mail):Decidable (finM x m):=by unfold finM; infer_instance
theorem fine_eq (x:Node) (h7:1≤x.N∧x.N≤7) (m:Mail) (hm:m.Entries.length≤1000000):raft_fine m x=some (decide (finM x m)):=by
 have hw:w64 (x.N - 1)=x.N - 1:=w64_id (by omega) (by omega)
 unfold raft_fine
 dsimp only [lt]
 simp only [within_eq,hw,echeck_eq,tat_eq _ hm]
 by_cases c:(inW 1 4 m.Kind=true∧m.To=x.ID∧m.From≠x.ID∧inW 0 (x.N - 1) m.From=true∧inW 1 1000000000 m.Term=true∧inW 0 1000000000 m.A=true∧inW 0 1000000000 m.B=true∧inW 0 1000000000 m.C0=true∧m.Entries.length≤5∧(m.Entries.length=0∨m.Kind=3))
 ·obtain ⟨c1,c2,c3,c4,c5,c6,c7,c8,c9,c10⟩:=c
  have d9:decide ((m.Entries.length:Int)≤5)=true:=d_t (by omega)
  have d10:(decide ((m.Entries.length:Int)=0)||decide (m.Kind=3))=true:=by
   rcases c10 with h | h
   ·rw [d_t (show (m.Entries.length:Int)=0 by omega)]; rfl
   ·rw [d_t h]; simp
  rw [c1,c4,c5,c6,c7,c8,d9,d10,decide_eq_true c2,decide_eq_false c3]
  simp only [Bool.true_and,Bool.and_true,Bool.not_false,if_true,ob_some]
  have e:finM x m↔(fof m.Entries).Code=0∧tat m.Entries (m.Entries.length:Int)≤m.Term:=by
   rw [inW_iff] at c1 c4 c5 c6 c7 c8
   unfold finM
   constructor
   ·rintro ⟨_,_,_,_,_,_,_,_,_,_,h⟩; exact h
   ·intro h; exact ⟨c1,c2,c3,by omega,c5,c6,c7,c8,c9,c10,h⟩
  by_cases g:(fof m.Entries).Code=0
  ·rw [if_pos (d_t g),ob_some,decide_eq_true g,Bool.true_and]
   congr 1
   exact decide_eq_decide.2 (by rw [e]; exact ⟨fun h=>⟨g,h⟩,fun h=>h.2⟩)
  ·rw [if_neg (d_f g),ob_some,decide_eq_false g,Bool.false_and]
   congr 1
   exact (decide_eq_false (fun h=>g (e.1 h).1)).symm
 ·have hf:¬ finM x m:=by
   rintro ⟨a1,a2,a3,a4,a5,a6,a7,a8,a9,a10,_⟩
   exact c ⟨inW_iff.2 a1,a2,a3,inW_iff.2 (by omega),inW_iff.2 a5,inW_iff.2 a6,inW_iff.2 a7,inW_iff.2 a8,a9,a10⟩
  have hb:(((((((((inW 1 4 m.Kind&&(decide (m.To=x.ID)))&&(!decide (m.From=x.ID)))&&inW 0 (x.N - 1) m.From)&&inW 1 1000000000 m.Term)&&inW 0 1000000000 m.A)&&inW 0 1000000000 m.B)&&inW 0 1000000000 m.C0)&&(decide ((m.Entries.length:Int)≤5)))&&((decide ((m.Entries.length:Int)=0))||(decide (m.Kind=3))))=false:=by
   rw [Bool.eq_false_iff]
   intro h
   simp only [Bool.and_eq_true,Bool.or_eq_true,Bool.not_eq_true',decide_eq_true_eq,decide_eq_false_iff_not] at h
   obtain ⟨⟨⟨⟨⟨⟨⟨⟨⟨a1,a2⟩,a3⟩,a4⟩,a5⟩,a6⟩,a7⟩,a8⟩,a9⟩,a10⟩:=h
   exact c ⟨a1,a2,a3,a4,a5,a6,a7,a8,by omega,by omega⟩
  rw [hb]
  simp only [Bool.false_and,Bool.false_eq_true,if_false,ob_some]
  rw [decide_eq_false hf]
def bas (x:Node) (m:Mail):Node:=if x.Term<m.Term then ⟨x.N,x.ID,m.Term,0,x.Log,0,x.Commit,[],[],[]⟩ else x
def fol (y:Node):Node:=⟨y.N,y.ID,y.Term,y.Vote,y.Log,0,y.Commit,[],[],[]⟩
def ans (y:Node) (m:Mail) (kind a:Int) (ok:Bool):Mail:=⟨kind,y.ID,m.From,y.Term,a,0,0,[],ok⟩
def askB (y:Node) (m:Mail):Prop:=m.Term=y.Term∧(y.Vote=0∨y.Vote=m.From+1)∧¬ (m.B<tat y.Log (y.Log.length:Int)∨(m.B=tat y.Log (y.Log.length:Int)∧m.A<(y.Log.length:Int)))
instance (y:Node) (m:Mail):Decidable (askB y m):=by unfold askB; infer_instance
def take1 (y:Node) (m:Mail):Node×List Mail:=
 (⟨y.N,y.ID,y.Term,if askB y m then m.From+1 else y.Vote,y.Log,y.Role,y.Commit,y.Votes,y.Next,y.Have⟩,[ans y m 2 0 (decide (askB y m))])
def vts (y:Node) (m:Mail):List Int:=if m.From∈y.Votes then y.Votes else y.Votes++[m.From]
def wv (y:Node) (v:List Int):Node:=⟨y.N,y.ID,y.Term,y.Vote,y.Log,y.Role,y.Commit,v,y.Next,y.Have⟩
def take2 (y:Node) (m:Mail):Node×List Mail:=
 if y.Role≠1∨m.Term≠y.Term∨m.Ok=false then (y,[])
 else if y.N<2*((vts y m).length:Int) then (leaderN (wv y (vts y m)),mls y.ID (bringM (leaderN (wv y (vts y m)))) y.N.toNat)
 else (wv y (vts y m),[])
noncomputable def take3 (y:Node) (m:Mail):Node×List Mail:=
 if m.Term<y.Term then (y,[ans y m 4 0 false])
 else if y.Role=2 then (y,[])
 else if ¬ (putS y.Log m.A m.B m.Entries).2.2.Code=0 then (fol y,[])
 else if (putS y.Log m.A m.B m.Entries).2.1=false then (fol y,[ans y m 4 (max 0 (min (m.A - 1) (y.Log.length:Int))) false])
 else if ((putS y.Log m.A m.B m.Entries).1.length:Int)<y.Commit∨(putS y.Log m.A m.B m.Entries).1.take y.Commit.toNat≠y.Log.take y.Commit.toNat then (fol y,[])
 else (⟨y.N,y.ID,y.Term,y.Vote,(putS y.Log m.A m.B m.Entries).1,0,max y.Commit (min m.C0 (m.A+(m.Entries.length:Int))),[],[],[]⟩,[ans y m 4 (m.A+(m.Entries.length:Int)) true])
def hav (y:Node) (m:Mail):List Int:=lset y.Have m.From (max (lget y.Have m.From) (min m.A (y.Log.length:Int)))
def take4 (y:Node) (m:Mail):Node×List Mail:=
 if y.Role≠2∨m.Term≠y.Term then (y,[])
 else if m.Ok=true then (⟨y.N,y.ID,y.Term,y.Vote,y.Log,y.Role,((cntD (gd y.N y.Term y.Log (hav y m)) y.Commit.toNat y.Log.length:Nat):Int),y.Votes,lset y.Next m.From (max (lget y.Have m.From) (min m.A (y.Log.length:Int))+1),hav y m⟩,[])
 else (⟨y.N,y.ID,y.Term,y.Vote,y.Log,y.Role,y.Commit,y.Votes,lset y.Next m.From (max (lget y.Have m.From+1) (min (lget y.Next m.From - 1) (m.A+1))),y.Have⟩,[])
noncomputable def takeK (y:Node) (m:Mail):Node×List Mail:=if m.Kind=1 then take1 y m else if m.Kind=2 then take2 y m else if m.Kind=3 then take3 y m else take4 y m
def takF (x:Node) (m:Mail):Fault:=if (nodeF x).Code=0 then (if finM x m then ⟨0,0⟩ else ⟨5,0⟩) else nodeF x
noncomputable def takeS (x:Node) (m:Mail):Node×List Mail×Fault:=if (takF x m).Code=0 then ((takeK (bas x m) m).1,(takeK (bas x m) m).2,⟨0,0⟩) else (nE,[],takF x m)
structure Fit (y:Node) (m:Mail):Prop where
 n:1≤y.N∧y.N≤7
 i:0≤y.ID∧y.ID<y.N
 v:y.Vote≤7
 vlo:0≤y.Vote
 c:0≤y.Commit∧y.Commit≤(y.Log.length:Int)
 l:y.Log.length≤100
 vo:y.Votes.length≤100
 f:0≤m.From∧m.From<y.N
 a:0≤m.A∧m.A≤1000000000
 e:m.Entries.length≤5
 ld:y.Role=2→(y.Next.length:Int)=y.N∧(y.Have.length:Int)=y.N∧(∀ k∈y.Next,1≤k∧k≤(y.Log.length:Int)+1)∧(∀ k∈y.Have,0≤k∧k≤(y.Log.length:Int))
theorem asked_eq {y:Node} {m:Mail} (h:Fit y m):raft_asked m y.N y.ID y.Term y.Vote y.Role y.Commit y.Log y.Votes y.Next y.Have=some ([ans y m 2 0 (decide (askB y m))],y.N,y.ID,y.Term,if askB y m then m.From+1 else y.Vote,y.Role,y.Commit):=by
 have hl:=h.l
 have hf:=h.f
 have hn:=h.n
 have hw:w64 (m.From+1)=m.From+1:=w64_id (by omega) (by omega)
 unfold raft_asked
 rw [tat_eq _ (by omega),ob_some]
 dsimp only [lt]
 rw [hw]
 have hb:(((decide (m.Term=y.Term))&&((decide (y.Vote=0))||(decide (y.Vote=m.From+1))))&&(!((decide (m.B<tat y.Log (y.Log.length:Int)))||((decide (m.B=tat y.Log (y.Log.length:Int)))&&(decide (m.A<(y.Log.length:Int)))))))=decide (askB y m):=by
  rw [Bool.eq_iff_iff,decide_eq_true_iff]
  unfold askB
  simp only [Bool.and_eq_true,Bool.or_eq_true,Bool.not_eq_true',decide_eq_true_eq,Bool.or_eq_false_iff,Bool.and_eq_false_imp,decide_eq_false_iff_not,not_or,not_and,and_assoc]
 rw [hb]
 by_cases c:askB y m
 ·rw [if_pos (d_t c),ob_some,if_pos c,decide_eq_true c]; rfl
 ·rw [if_neg (d_f c),ob_some,if_neg c,decide_eq_false c]; rfl
theorem contains_eq (l:List Int) (hl:l.length≤1000000) (v:Int):slices_Contains_int_int l v=some (decide (v∈l)):=by
 rcases loop_first (step:=fun y=>slices_Index_int_int_B1 l v y) l.length (fun k=>(k:Int)) (fun k=>v=lget l (k:Int)) (fun k=>(k:Int)) (r:=(-1:Int))
  (fun k hk hb=>by
   have hw:w64 ((k:Int)+1)=((k+1:Nat):Int):=by rw [w64_id (by omega) (by omega)]; omega
   simp only [slices_Index_int_int_B1]
   rw [if_pos (d_t (by omega)),asrt_pos (by omega),if_neg (d_f hb),hw])
  (fun k hk hb=>by
   simp only [slices_Index_int_int_B1]
   rw [if_pos (d_t (by omega)),asrt_pos (by omega),if_pos (d_t hb)])
  (by
   simp only [slices_Index_int_int_B1]
   rw [if_neg (d_f (by omega))]; rfl) with ⟨j,h1,h2,_,h4⟩ | ⟨h1,h2⟩
 ·have hm:v∈l:=mem_lget.2 ⟨j,h1,h2.symm⟩
  have e:slices_Index_int_int l v=some (j:Int):=h4
  unfold slices_Contains_int_int
  rw [e,ob_some,decide_eq_true hm,decide_eq_true (by omega)]
 ·have hm:¬ v∈l:=fun h=>by obtain ⟨k,hk,e⟩:=mem_lget.1 h; exact h1 k hk e.symm
  have e:slices_Index_int_int l v=some (-1):=h2
  unfold slices_Contains_int_int
  rw [e,ob_some,decide_eq_false hm,decide_eq_false (by omega)]
theorem vts_len (y:Node) (m:Mail):(vts y m).length≤y.Votes.length+1:=by
 unfold vts; split
 ·omega
 ·simp
theorem given_eq {y:Node} {m:Mail} (h:Fit y m):∃ a b,raft_given m y.N y.ID y.Term y.Vote y.Role y.Commit y.Log y.Votes y.Next y.Have=some ((take2 y m).2,(take2 y m).1.N,(take2 y m).1.ID,(take2 y m).1.Term,(take2 y m).1.Vote,(take2 y m).1.Log,(take2 y m).1.Role,(take2 y m).1.Commit,(take2 y m).1.Votes,(take2 y m).1.Next,(take2 y m).1.Have,a,b):=by
 have hl:=h.l
 have hn:=h.n
 have hi:=h.i
 have hc:=h.c
 have hvo:=h.vo
 have hvl:=vts_len y m
 unfold raft_given take2
 by_cases c1:y.Role≠1∨m.Term≠y.Term∨m.Ok=false
 ·rw [if_pos c1,if_pos (by
   simp only [Bool.or_eq_true,Bool.not_eq_true',decide_eq_false_iff_not]
   rcases c1 with c1 | c1 | c1
   ·exact .inl (.inl c1)
   ·exact .inl (.inr c1)
   ·exact .inr c1)]
  exact ⟨_,_,rfl⟩
 ·rw [if_neg c1,if_neg (by
   simp only [Bool.or_eq_true,Bool.not_eq_true',decide_eq_false_iff_not]
   rintro ((c | c) | c)
   ·exact c1 (.inl c)
   ·exact c1 (.inr (.inl c))
   ·exact c1 (.inr (.inr c)))]
  rw [contains_eq _ (by omega),ob_some]
  have e:(if (!decide (m.From∈y.Votes))=true then asrt (((y.Votes++([m.From]:List Int)).length:Int)*8≤140737488351232) (some (y.Votes++([m.From]:List Int))) else some y.Votes)=some (vts y m):=by
   unfold vts
   by_cases c:m.From∈y.Votes
   ·rw [if_neg (n_f c),if_pos c]
   ·rw [if_pos (n_t c),if_neg c,asrt_pos (by rw [List.length_append,List.length_singleton]; omega)]
  rw [e,ob_some]
  dsimp only [lt]
  rw [most_eq _ (by omega)]
  by_cases c2:y.N<2*((vts y m).length:Int)
  ·rw [if_neg (n_f c2),if_pos c2,lead1_eq _ _ _ _ _ _ _ _ _ _ hn.1 hn.2 hi.1 hi.2 (by omega) hc.1,ob_some]
   have hb:=beats1_eq (leaderN (wv y (vts y m))) hn.1 hn.2 (show y.Log.length≤1000 by omega) (by simp [leaderN,wv]; omega) (by
    intro k hk
    have:k=(y.Log.length:Int)+1:=by
     have hk':k∈List.replicate y.N.toNat ((y.Log.length:Int)+1):=hk
     exact (List.mem_replicate.1 hk').2
    subst this
    show 1≤(y.Log.length:Int)+1∧(y.Log.length:Int)+1≤(y.Log.length:Int)+1
    omega)
   have hb':raft_beats_v1 y.N y.ID y.Term y.Vote 2 ((cntD (gd y.N y.Term y.Log ((List.replicate y.N.toNat (0:Int)).set y.ID.toNat (y.Log.length:Int))) y.Commit.toNat y.Log.length:Nat):Int) y.Log (List.replicate y.N.toNat ((y.Log.length:Int)+1)) ((List.replicate y.N.toNat (0:Int)).set y.ID.toNat (y.Log.length:Int))=_:=hb
   dsimp only
   rw [hb',ob_some]
   exact ⟨_,_,rfl⟩
  ·rw [if_pos (n_t c2),if_neg c2]
   exact ⟨_,_,rfl⟩
theorem answered_eq {y:Node} {m:Mail} (h:Fit y m):raft_answered m y.N y.ID y.Term y.Vote y.Role y.Commit y.Log y.Votes y.Next y.Have=some ((take4 y m).1.N,(take4 y m).1.ID,(take4 y m).1.Term,(take4 y m).1.Vote,(take4 y m).1.Role,(take4 y m).1.Commit,(take4 y m).1.Next,(take4 y m).1.Have)∧(take4 y m).1.Log=y.Log∧(take4 y m).1.Votes=y.Votes∧(take4 y m).2=[]:=by
 have hl:=h.l
 have hn:=h.n
 have hf:=h.f
 have hc:=h.c
 have ha:=h.a
 unfold raft_answered take4
 by_cases c1:y.Role≠2∨m.Term≠y.Term
 ·rw [if_pos c1,if_pos (by simp only [Bool.or_eq_true,Bool.not_eq_true',decide_eq_false_iff_not]; exact c1)]
  exact ⟨rfl,rfl,rfl,rfl⟩
 ·rw [if_neg c1,if_neg (by simp only [Bool.or_eq_true,Bool.not_eq_true',decide_eq_false_iff_not]; exact c1)]
  have hr:y.Role=2:=by
   by_cases g:y.Role=2
   ·exact g
   ·exact absurd (.inl g) c1
  obtain ⟨l1,l2,l3,l4⟩:=h.ld hr
  have hh:=l4 _ (lget_mem y.Have m.From (by omega))
  have hx:=l3 _ (lget_mem y.Next m.From (by omega))
  by_cases c2:m.Ok=true
  ·obtain ⟨c,hcc⟩:∃ c:Nat,y.Commit=(c:Int):=⟨y.Commit.toNat,by omega⟩
   have hhl:(hav y m).length=y.Have.length:=by unfold hav; rw [lset_len]
   have hg:lget (hav y m) m.From=max (lget y.Have m.From) (min m.A (y.Log.length:Int)):=by
    unfold hav; rw [lget_lset _ _ _ _ (by omega) (by omega),if_pos rfl]
   have hw:w64 (lget (hav y m) m.From+1)=max (lget y.Have m.From) (min m.A (y.Log.length:Int))+1:=by
    rw [hg,w64_id (by omega) (by omega)]
   have ehav:lset y.Have m.From (max (lget y.Have m.From) (min m.A (y.Log.length:Int)))=hav y m:=rfl
   rw [if_pos c2,if_pos c2,asrt_pos (by omega),asrt_pos (by omega),asrt_pos (by omega),asrt_pos (by omega)]
   dsimp only [lt]
   rw [ehav,asrt_pos (by omega),asrt_pos (by omega),asrt_pos (by omega),asrt_pos (by omega),hw,hcc,rcount1_eq _ _ _ _ _ _ _ _ _ _ (by omega) (by omega),ob_some,Int.toNat_natCast]
   exact ⟨rfl,rfl,rfl,rfl⟩
  ·have hw1:w64 (lget y.Have m.From+1)=lget y.Have m.From+1:=w64_id (by omega) (by omega)
   have hw2:w64 (lget y.Next m.From - 1)=lget y.Next m.From - 1:=w64_id (by omega) (by omega)
   have hw3:w64 (m.A+1)=m.A+1:=w64_id (by omega) (by omega)
   rw [if_neg c2,if_neg c2,asrt_pos (by omega),asrt_pos (by omega),asrt_pos (by omega),asrt_pos (by omega),asrt_pos (by omega),asrt_pos (by omega),hw1,hw2,hw3]
   exact ⟨rfl,rfl,rfl,rfl⟩
theorem sequal_eq (a b:List Entry) (ha:a.length≤1000000):slices_Equal_api_Entry_api_Entry a b=some (decide (a=b)):=by
 unfold slices_Equal_api_Entry_api_Entry
 by_cases c:a.length=b.length
 ·rw [if_neg (n_f (by omega))]
  have ee:∀ k:Nat,(decide ((lget a (k:Int)).Term=(lget b (k:Int)).Term)&&(decide ((lget a (k:Int)).Text=(lget b (k:Int)).Text)&&true))=decide (lget a (k:Int)=lget b (k:Int)):=fun k=>by
   cases lget a (k:Int); cases lget b (k:Int); simp
  rcases loop_any (step:=fun y=>slices_Equal_api_Entry_api_Entry_B1 a b y) a.length (fun k=>(k:Int)) (fun k=>¬ lget a (k:Int)=lget b (k:Int)) (rb:=false) (r:=true)
   (fun k hk hb=>by
    have hw:w64 ((k:Int)+1)=((k+1:Nat):Int):=by rw [w64_id (by omega) (by omega)]; omega
    simp only [slices_Equal_api_Entry_api_Entry_B1]
    rw [if_pos (d_t (by omega)),asrt_pos (by omega),asrt_pos (by omega),ee,if_neg (n_f (Classical.not_not.1 hb)),hw])
   (fun k hk hb=>by
    simp only [slices_Equal_api_Entry_api_Entry_B1]
    rw [if_pos (d_t (by omega)),asrt_pos (by omega),asrt_pos (by omega),ee,if_pos (n_t hb)])
   (by
    simp only [slices_Equal_api_Entry_api_Entry_B1]
    rw [if_neg (d_f (by omega))]; rfl) with ⟨⟨k,hk,hb⟩,h2⟩ | ⟨h1,h2⟩
  ·have:¬ a=b:=fun e=>hb (by rw [e])
   rw [decide_eq_false this]; exact h2
  ·have:a=b:=ext_lget c (fun k hk=>Classical.not_not.1 (h1 k hk))
   rw [decide_eq_true this]; exact h2
 ·rw [if_pos (n_t (by omega)),decide_eq_false (fun e=>c (by rw [e]))]
theorem putS_len {l:List Entry} {p t:Int} {more:List Entry} (h:(putS l p t more).2.2.Code=0):(putS l p t more).1.length≤100∧(putS l p t more).2.2=⟨0,0⟩:=by
 unfold putS at h ⊢
 by_cases c:(putF l p t more).Code=0
 ·obtain ⟨h1,h2,h3,_⟩:=putF_good c
  rw [if_pos c] at h ⊢
  by_cases f:fits l p t
  ·rw [if_pos f] at h ⊢
   by_cases g:(fof (put p.toNat l more)).Code=0
   ·rw [if_pos g]; exact ⟨(fof_good g).1,(fof_good g).2.1⟩
   ·rw [if_neg g] at h; exact absurd h g
  ·rw [if_neg f]; exact ⟨(fof_good h2).1,h1⟩
 ·rw [if_neg c] at h; exact absurd h c
theorem bringing_eq {y:Node} {m:Mail} (h:Fit y m) (hv:m.C0≤1000000000∧0≤m.C0):∃ a,raft_bringing m y.N y.ID y.Term y.Vote y.Role y.Commit y.Log y.Votes y.Next y.Have=some ((take3 y m).2,(take3 y m).1.N,(take3 y m).1.ID,(take3 y m).1.Term,(take3 y m).1.Vote,(take3 y m).1.Log,(take3 y m).1.Role,(take3 y m).1.Commit,(take3 y m).1.Votes,(take3 y m).1.Next,(take3 y m).1.Have,a):=by
 have hl:=h.l
 have hn:=h.n
 have hc:=h.c
 have ha:=h.a
 have he:=h.e
 unfold raft_bringing take3
 by_cases c1:m.Term<y.Term
 ·rw [if_pos (d_t c1),if_pos c1]; exact ⟨_,rfl⟩
 rw [if_neg (d_f c1),if_neg c1]
 by_cases c2:y.Role=2
 ·rw [if_pos (d_t c2),if_pos c2]; exact ⟨_,rfl⟩
 rw [if_neg (d_f c2),if_neg c2,put_eq]
 dsimp only [lt,raft_follow]
 rw [ob_some]
 by_cases c3:(putS y.Log m.A m.B m.Entries).2.2.Code=0
 ·obtain ⟨hpl,_⟩:=putS_len c3
  rw [if_neg (n_f c3),if_neg (not_not_intro c3)]
  by_cases c4:(putS y.Log m.A m.B m.Entries).2.1=false
  ·have hw:w64 (m.A - 1)=m.A - 1:=w64_id (by omega) (by omega)
   rw [if_pos (by rw [c4]; rfl),if_pos c4,hw]; exact ⟨_,rfl⟩
  ·rw [if_neg (by rw [Bool.not_eq_false] at c4; rw [c4]; decide),if_neg c4]
   generalize (putS y.Log m.A m.B m.Entries).1=L at *
   have hw:w64 (m.A+(m.Entries.length:Int))=m.A+(m.Entries.length:Int):=w64_id (by omega) (by omega)
   by_cases c5:(L.length:Int)<y.Commit
   ·rw [if_pos (d_t c5),if_pos (.inl c5)]
    exact ⟨_,rfl⟩
   ·have e1:ltake L y.Commit=L.take y.Commit.toNat:=rfl
    have e2:ltake y.Log y.Commit=y.Log.take y.Commit.toNat:=rfl
    rw [if_neg (d_f c5),asrt_pos (by omega),asrt_pos (by omega),e1,e2,sequal_eq _ _ (by rw [List.length_take]; omega),ob_some]
    by_cases c6:L.take y.Commit.toNat=y.Log.take y.Commit.toNat
    ·rw [decide_eq_true c6,if_neg (by decide),if_neg (by rintro (g | g); exact c5 g; exact g c6),hw]
     exact ⟨_,rfl⟩
    ·rw [decide_eq_false c6,if_pos (by rfl),if_pos (.inr c6)]
     exact ⟨_,rfl⟩
 ·rw [if_pos (n_t c3),if_pos c3]; exact ⟨_,rfl⟩
theorem votes_small {x:Node} (h:NGood x):x.Votes.length≤7:=by
 have hf:=h.form
 have h7:=h.n7
 unfold formB at hf
 simp only [Bool.and_eq_true] at hf
 have h1:=hf.1
 by_cases c:x.Role=1
 ·rw [if_pos c] at h1
  simp only [Bool.and_eq_true,Bool.not_eq_true',decide_eq_false_iff_not] at h1
  omega
 ·rw [if_neg c] at h1
  have:=of_decide_eq_true h1
  omega
theorem bas_fit {x:Node} {m:Mail} (hg:NGood x) (hf:finM x m):Fit (bas x m) m:=by
 obtain ⟨_,_,_,f4,_,f6,_,_,f9,_,_,_⟩:=hf
 have h1:=hg.n1
 have h2:=hg.n7
 have h3:=hg.i0
 have h4:=hg.iN
 have h5:=hg.vN
 have h6:=hg.c0
 have h7:=hg.cl
 have h8:=hg.len
 have h9:=votes_small hg
 unfold bas
 split
 ·exact ⟨⟨h1,h2⟩,⟨h3,h4⟩,by show (0:Int)≤7; omega,by show (0:Int)≤0; omega,⟨h6,h7⟩,h8,by show ([]:List Int).length≤100; simp,f4,f6,f9,fun h=>absurd (show (0:Int)=2 from h) (by omega)⟩
 ·refine ⟨⟨h1,h2⟩,⟨h3,h4⟩,by omega,hg.v0,⟨h6,h7⟩,h8,by omega,f4,f6,f9,fun h=>?_⟩
  obtain ⟨l1,l2,l3,l4,_⟩:=hg.lead h
  exact ⟨l1,l2,l3,l4⟩
theorem takF_zero {x:Node} {m:Mail} (h:(takF x m).Code=0):NGood x∧finM x m∧takF x m=⟨0,0⟩:=by
 unfold takF at h ⊢
 by_cases c:(nodeF x).Code=0
 ·rw [if_pos c] at h ⊢
  by_cases f:finM x m
  ·rw [if_pos f]; exact ⟨nodeF_good.1 c,f,rfl⟩
  ·rw [if_neg f] at h; cases h
 ·rw [if_neg c] at h; exact absurd h c
theorem take_eq {x:Node} (hx:Small x) (m:Mail) (hm:m.Entries.length≤1000000):raft_Take x m=some (takeS x m):=by
 unfold raft_Take
 rw [hx.check,ob_some]
 have e1:(ob (if (decide ((nodeF x).Code=0))=true then (raft_fine m x) else some default) fun x2=>
   ob (
    if ((decide ((nodeF x).Code=0))&&(!x2))=true then
     lt (raft_fault 5 0) fun x3=>
     some x3
    else
     some (nodeF x)) fun (v:Fault)=>some v)=some (takF x m):=by
  unfold takF
  by_cases c:(nodeF x).Code=0
  ·have hg:=nodeF_good.1 c
   rw [if_pos (d_t c),fine_eq x ⟨hg.n1,hg.n7⟩ m hm,ob_some,if_pos c]
   by_cases f:finM x m
   ·rw [decide_eq_true f,if_neg (by simp),if_pos f,ob_some,nodeF_zero hg]
   ·rw [decide_eq_false f,if_pos (by simp [c]),if_neg f]; rfl
  ·rw [if_neg (d_f c),ob_some,if_neg (by simp [c]),if_neg c,ob_some]
 have e2:∀ (k:Fault→Option (Node×List Mail×Fault)),(ob (if (decide ((nodeF x).Code=0))=true then (raft_fine m x) else some default) fun x2=>
   ob (
    if ((decide ((nodeF x).Code=0))&&(!x2))=true then
     lt (raft_fault 5 0) fun x3=>
     some x3
    else
     some (nodeF x)) k)=k (takF x m):=by
  intro k
  obtain ⟨b,hb,e⟩:=ob_elim e1
  obtain ⟨v,hv,e⟩:=ob_elim e
  rw [hb,ob_some,hv,ob_some,← some_elim e]
 rw [e2]
 unfold takeS
 by_cases c:(takF x m).Code=0
 ·obtain ⟨hg,hf,hz⟩:=takF_zero c
  rw [if_neg (n_f c),if_pos c,own_eq hx,ob_some,hz]
  have hfit:=bas_fit hg hf
  obtain ⟨f1,_,_,_,_,_,_,f8,_⟩:=hf
  have hb:(if (decide (x.Term<m.Term))=true then
    lt (raft_follow x.N x.ID m.Term 0 x.Role x.Commit x.Log x.Votes x.Next x.Have) fun x5=>
    some (x5.1,x5.2.1,x5.2.2.1,x5.2.2.2.1,x5.2.2.2.2.1,x5.2.2.2.2.2,([]:List Int),([]:List Int),([]:List Int))
   else
    some (x.N,x.ID,x.Term,x.Vote,x.Role,x.Commit,x.Votes,x.Next,x.Have))=some ((bas x m).N,(bas x m).ID,(bas x m).Term,(bas x m).Vote,(bas x m).Role,(bas x m).Commit,(bas x m).Votes,(bas x m).Next,(bas x m).Have):=by
   unfold bas
   by_cases g:x.Term<m.Term
   ·rw [if_pos (d_t g),if_pos g]; rfl
   ·rw [if_neg (d_f g),if_neg g]
  have hlog:x.Log=(bas x m).Log:=by unfold bas; split <;> rfl
  dsimp only
  rw [hb,ob_some,hlog]
  generalize bas x m=y at *
  dsimp only
  unfold takeK
  by_cases k1:m.Kind=1
  ·rw [if_pos (d_t k1),if_pos k1,asked_eq hfit,ob_some,ob_some]; rfl
  ·rw [if_neg (d_f k1),if_neg k1]
   by_cases k2:m.Kind=2
   ·obtain ⟨a,b,q⟩:=given_eq hfit
    rw [if_pos (d_t k2),if_pos k2,q,ob_some,ob_some]
   ·rw [if_neg (d_f k2),if_neg k2]
    by_cases k3:m.Kind=3
    ·obtain ⟨a,q⟩:=bringing_eq hfit ⟨f8.2,f8.1⟩
     rw [if_pos (d_t k3),if_pos k3,q,ob_some,ob_some]
    ·obtain ⟨q1,q2,q3,q4⟩:=answered_eq hfit
     rw [if_neg (d_f k3),if_neg k3,if_pos (d_t (by omega)),q1,ob_some,ob_some]
     dsimp only
     rw [← q2,← q3,q4]
 ·rw [if_pos (n_t c),if_neg c]; rfl
theorem place_eq (p t:Int):R_PlaceFault p t=entry_ranged p t:=by
 rw [ranged_eq]
 unfold R_PlaceFault R_Num R_F lt
 by_cases c1:p<0∨1000000000<p
 ·have:(decide (0≤p)&&decide (p≤1000000000))=false:=by simp; omega
  rw [if_pos c1]; simp [this]
 ·have h1:(decide (0≤p)&&decide (p≤1000000000))=true:=by simp; omega
  rw [if_neg c1]
  by_cases c2:t<0∨1000000000<t
  ·have:(decide (0≤t)&&decide (t≤1000000000))=false:=by simp; omega
   rw [if_pos c2]; simp [h1,this]
  ·have:(decide (0≤t)&&decide (t≤1000000000))=true:=by simp; omega
   rw [if_neg c2]; simp [h1,this]
theorem logs_eq (a b:List Entry):R_LogsFault a b=some (two a b):=by
 unfold R_LogsFault two
 simp only [rlog_eq,ob_some]
 by_cases ca:(fof a).Code=0
 ·by_cases cb:(fof b).Code=0
  ·simp [ca,cb,ob_some]
  ·simp [ca,cb,ob_some]
 ·simp [ca,ob_some]
theorem copyLog_eq (l:List Entry) (h:l.length≤1000000):R_CopyLog l=some l:=by
 unfold R_CopyLog; rw [asrt_pos (by omega)]
def pend (L:List Entry):List Entry×Bool×Fault:=if (fof L).Code=0 then (L,true,fof L) else ([],false,⟨(fof L).Code,-1⟩)
theorem rput_J2 (L:List Entry):R_PutLog_J2 (L)=some (pend L):=by
 unfold R_PutLog_J2 pend
 simp only [rlog_eq,ob_some]
 by_cases c:(fof L).Code=0 <;> simp [c,lt,R_F]
theorem rput_L1 (p:Nat) (more x:List Entry) (hp:p≤1000000) (hm:more.length≤1000000) (hx:p+more.length=x.length):∀ (m k:Nat),more.length - k=m→k≤more.length→x.drop (p+k)=more.drop k→
  R_PutLog_L1 (p:Int) more (x,(k:Int))=some (pend x)
 | 0,k,e,hk,hd=>by
  have:k=more.length:=by omega
  subst this
  refine loopO_inr ?_
  simp only [R_PutLog_B1]
  rw [if_neg (d_f (by omega))]
  simp only [R_PutLog_J3,rput_J2,inrO]
 | m+1,k,e,hk,hd=>by
  have hlt:k<more.length:=by omega
  have hw:w64 ((k:Int)+1)=((k+1:Nat):Int):=by rw [w64_id (by omega) (by omega)]; omega
  have hw2:w64 ((p:Int)+(k:Int))=((p+k:Nat):Int):=by rw [w64_id (by omega) (by omega)]; omega
  have h1:(k:Int)<(more.length:Int):=by omega
  rw [lget_drop more k hlt,lget_drop x (p+k) (by omega)] at hd
  have hd1:=List.head_eq_of_cons_eq hd
  have hd2:=List.tail_eq_of_cons_eq hd
  refine (loopO_inl (y:=(x,((k+1:Nat):Int))) ?_).trans (rput_L1 p more x hp hm hx m (k+1) (by omega) (by omega) hd2)
  simp only [R_PutLog_B1,hw2,hw]
  rw [if_pos (d_t h1),asrt_pos (by omega),asrt_pos (by omega),asrt_pos (by omega)]
  have e2:(⟨(lget more (k:Int)).Term,(lget more (k:Int)).Text⟩:Entry)=lget x ((p+k:Nat):Int):=by rw [hd1]
  rw [e2,lset_same x (p+k) (by omega)]
  rfl
theorem rput_J1 (l more:List Entry) (p k:Nat) (hl:l.length≤1000) (hm:more.length≤1000) (hp:p+k≤l.length) (hk:k≤more.length) (h:∀ hlt:k<more.length,¬ (p+k<l.length∧(lget l ((p+k:Nat):Int)).Term=(lget more (k:Int)).Term)) :
  R_PutLog_J1 l (p:Int) more ((k:Int))=some (pend (put (p+k) l (more.drop k))):=by
 unfold R_PutLog_J1
 have hw2:w64 ((p:Int)+(k:Int))=((p+k:Nat):Int):=by rw [w64_id (by omega) (by omega)]; omega
 simp only [hw2,copyLog_eq l (by omega),ob_some]
 by_cases c:k<more.length
 ·have c':(k:Int)<(more.length:Int):=by omega
  have e0:put (p+k) l (more.drop k)=l.take (p+k)++more.drop k:=by
   rw [lget_drop more k c]; exact put_not _ _ _ _ hp (h c)
  rw [if_pos (d_t c'),asrt_pos (by omega),ltake_nat,copyLog_eq _ (by simp; omega),ob_some,asrt_pos (by omega),ldrop_nat,asrt_pos (by simp; omega),e0]
  refine rput_L1 p more _ (by omega) (by omega) ?_ (more.length - k) k rfl hk ?_
  ·simp; omega
  ·rw [List.drop_append_of_le_length (by simp; omega),List.drop_of_length_le (by simp; omega)]; rfl
 ·have c':¬ (k:Int)<(more.length:Int):=by omega
  rw [if_neg (d_f c'),rput_J2,List.drop_of_length_le (by omega)]; rfl
theorem rput_L2 (l more:List Entry) (p:Nat) (hl:l.length≤1000) (hm:more.length≤1000):∀ (m k:Nat),more.length - k=m→k≤more.length→p+k≤l.length→
  R_PutLog_L2 l (p:Int) more ((k:Int))=some (pend (put (p+k) l (more.drop k)))
 | m,k,e,hk,hp=>by
  have hw:w64 ((k:Int)+1)=((k+1:Nat):Int):=by rw [w64_id (by omega) (by omega)]; omega
  have hw2:w64 ((p:Int)+(k:Int))=((p+k:Nat):Int):=by rw [w64_id (by omega) (by omega)]; omega
  by_cases c:k<more.length∧p+k<l.length∧(lget l ((p+k:Nat):Int)).Term=(lget more (k:Int)).Term
  ·match m,e with
   | 0,e=>omega
   | m+1,e=>
   have ih:=rput_L2 l more p hl hm m (k+1) (by omega) (by omega) (by omega)
   rw [lget_drop more k c.1,put,if_pos c.2]
   refine (loopO_inl (y:=(((k+1:Nat):Int))) ?_).trans ih
   simp only [R_PutLog_B2,hw2,hw]
   rw [asrt_pos (fun _=>by omega),asrt_pos (fun _=>by omega),if_pos]
   simp only [Bool.and_eq_true,decide_eq_true_eq]
   exact ⟨⟨by omega,by omega⟩,c.2.2⟩
  ·refine loopO_inr ?_
   simp only [R_PutLog_B2,hw2,hw]
   rw [asrt_pos,asrt_pos,if_neg,rput_J1 l more p k hl hm hp hk (fun h1 h2=>c ⟨h1,h2⟩)]
   ·rfl
   ·simp only [Bool.and_eq_true,decide_eq_true_eq]
    intro ⟨⟨a,b⟩,d⟩; exact c ⟨by omega,by omega,d⟩
   ·simp only [Bool.and_eq_true,decide_eq_true_eq]; omega
   ·simp only [Bool.and_eq_true,decide_eq_true_eq]; omega
theorem rput_eq (l:List Entry) (p t:Int) (more:List Entry):R_PutLog l p t more=some (putS l p t more):=by
 unfold R_PutLog
 simp only [logs_eq,ob_some,place_eq]
 have e:(if (decide ((two l more).Code=0))=true then lt (entry_ranged p t) fun x1=>some x1 else some (two l more))=some (putF l p t more):=by
  unfold putF
  by_cases c:(two l more).Code=0 <;> simp [c,lt]
 rw [e]
 simp only [ob_some]
 by_cases c:(putF l p t more).Code=0
 ·obtain ⟨h1,h2,h3,h4,h5,h6⟩:=putF_good c
  have hl:=(fof_good h2).1
  have hm:=(fof_good h3).1
  unfold putS
  rw [if_neg (by simp [c]),if_pos c]
  by_cases cp:(l.length:Int)<p
  ·have hnf:¬ fits l p t:=fun h=>by have:=h.1; omega
   rw [asrt_pos (by simp; intro _ h; omega),if_pos (by simp [cp]),copyLog_eq l (by omega),if_neg hnf]; rfl
  ·have ht:tat l p=if p=0 then 0 else (lget l (p - 1)).Term:=by
    unfold tat
    by_cases h0:p=0
    ·rw [if_pos (by omega),if_pos h0]
    ·rw [if_neg (by omega),if_neg h0]
   have hw:p≠0→w64 (p - 1)=p - 1:=fun h=>w64_id (by omega) (by omega)
   by_cases hf:fits l p t
   ·have hf2:=hf.2
    rw [ht] at hf2
    rw [if_pos hf,asrt_pos,if_neg]
    ·obtain ⟨q,rfl⟩:∃ q:Nat,p=(q:Int):=⟨p.toNat,by omega⟩
     have:=rput_L2 l more q (by omega) (by omega) more.length 0 (by omega) (by omega) (by omega)
     simpa [pend] using this
    ·by_cases h0:p=0
     ·rw [if_pos h0] at hf2
      subst h0; simp [← hf2]
     ·rw [if_neg h0] at hf2
      rw [hw h0]
      simp [h0,hf2]; omega
    ·intro h _
     simp at h
     rw [hw (by omega)]; omega
   ·have hf2:¬ tat l p=t:=fun h=>hf ⟨by omega,h⟩
    rw [ht] at hf2
    rw [if_neg hf,asrt_pos,if_pos,copyLog_eq l (by omega)]
    ·rfl
    ·by_cases h0:p=0
     ·rw [if_pos h0] at hf2
      subst h0; simp; right; exact fun h=>hf2 h.symm
     ·rw [if_neg h0] at hf2
      rw [hw h0]
      simp [h0,hf2]; omega
    ·intro h _
     simp at h
     rw [hw (by omega)]; omega
 ·unfold putS
  rw [if_pos (by simp [c]),if_neg c]
theorem counted_L2 (x:Node) (h1:1≤x.N) (h7:x.N≤7) (hl:x.Log.length≤1000) (hh:x.Have.length≤1000) (c k:Nat) (hk:k≤x.Log.length) (hk1:1≤k):R_Counted_L2 x ((c:Int),(k:Int)) (0,0)=some (.inl (((if gd x.N x.Term x.Log x.Have k=true then k else c:Nat):Int),((k+1:Nat):Int))):=by
 have hwk:w64 ((k:Int) - 1)=((k - 1:Nat):Int):=by rw [w64_id (by omega) (by omega)]; omega
 have hwk2:w64 ((k:Int)+1)=((k+1:Nat):Int):=by rw [w64_id (by omega) (by omega)]; omega
 have:=loop_run (step:=fun y=>R_Counted_B2 x ((c:Int),(k:Int)) y) x.Have.length (fun i=>((haveN (x.Have.take i) (k:Int):Int),(i:Int)))
  (fun i hi=>by
   have hw:w64 ((i:Int)+1)=((i+1:Nat):Int):=by rw [w64_id (by omega) (by omega)]; omega
   have hle:=haveN_le (x.Have.take i) (k:Int)
   have hl2:(x.Have.take i).length≤1000:=by simp; omega
   have hw2:w64 ((haveN (x.Have.take i) (k:Int):Int)+1)=((haveN (x.Have.take i) (k:Int)+1:Nat):Int):=by rw [w64_id (by omega) (by omega)]; omega
   simp only [R_Counted_B2]
   rw [if_pos (d_t (by omega)),asrt_pos (by omega),haveN_take _ _ _ hi,hw]
   by_cases g:(k:Int)≤lget x.Have (i:Int)
   ·rw [if_pos (d_t g),ob_some,if_pos g,hw2]
   ·rw [if_neg (d_f g),ob_some,if_neg g]; rfl)
  (r:=.inl (((if gd x.N x.Term x.Log x.Have k=true then k else c:Nat):Int),((k+1:Nat):Int)))
  (by
   simp only [R_Counted_B2]
   rw [if_neg (d_f (by omega)),List.take_length]
   simp only [R_Counted_J2]
   rw [hwk,hwk2,asrt_pos (by omega)]
   dsimp only [lt]
   rw [maj_eq _ _ h1 h7]
   unfold gd
   rw [tat_in _ _ hk1 hk,Bool.and_comm]
   by_cases g:(decide (x.N<2*(haveN x.Have (k:Int):Int))&&decide ((lget x.Log ((k - 1:Nat):Int)).Term=x.Term))=true
   ·rw [if_pos g,if_pos g]; rfl
   ·rw [if_neg g,if_neg g]; rfl)
 simpa [R_Counted_L2,haveN] using this
theorem counted_eq (x:Node) (h1:1≤x.N) (h7:x.N≤7) (hl:x.Log.length≤1000) (hh:x.Have.length≤1000) (hc:0≤x.Commit) (hcl:x.Commit≤(x.Log.length:Int)):R_Counted x=some ⟨x.N,x.ID,x.Term,x.Vote,x.Log,x.Role,((cntD (gd x.N x.Term x.Log x.Have) x.Commit.toNat x.Log.length:Nat):Int),x.Votes,x.Next,x.Have⟩:=by
 obtain ⟨c,hcc⟩:∃ c:Nat,x.Commit=(c:Int):=⟨x.Commit.toNat,by omega⟩
 have hw:w64 ((c:Int)+1)=((c+1:Nat):Int):=by rw [w64_id (by omega) (by omega)]; omega
 unfold R_Counted
 rw [hcc,hw,Int.toNat_natCast]
 have key:∀ (m k:Nat),x.Log.length+1 - k=m→c+1≤k→k≤x.Log.length+1→R_Counted_L1 x ((cntD (gd x.N x.Term x.Log x.Have) c (k - 1):Int),(k:Int))=some ⟨x.N,x.ID,x.Term,x.Vote,x.Log,x.Role,((cntD (gd x.N x.Term x.Log x.Have) c x.Log.length:Nat):Int),x.Votes,x.Next,x.Have⟩:=by
  intro m
  induction m with
  | zero=>
   intro k e h1 h2
   have:k=x.Log.length+1:=by omega
   subst this
   refine loopO_inr ?_
   simp only [R_Counted_B1]
   rw [if_neg (d_f (by omega))]; rfl
  | succ m ih=>
   intro k e g1 g2
   have h2:=counted_L2 x h1 h7 hl hh (cntD (gd x.N x.Term x.Log x.Have) c (k - 1)) k (by omega) (by omega)
   refine (loopO_inl (y:=(((cntD (gd x.N x.Term x.Log x.Have) c k:Nat):Int),((k+1:Nat):Int))) ?_).trans (ih (k+1) (by omega) (by omega) (by omega))
   simp only [R_Counted_B1]
   rw [if_pos (d_t (by omega)),h2]
   congr 3
   match k,g1 with
   | k+1,g1=>
    rw [cntD,if_neg (show ¬ k+1≤c by omega)]
    rfl
 have e0:cntD (gd x.N x.Term x.Log x.Have) c c=c:=by
  cases c with
  | zero=>rfl
  | succ k=>rw [cntD,if_pos (Nat.le_refl _)]
 have:=key (x.Log.length+1 - (c+1)) (c+1) rfl (Nat.le_refl _) (by omega)
 rw [Nat.add_sub_cancel,e0] at this
 exact this
theorem leader_eq (x:Node) (h1:1≤x.N) (h7:x.N≤7) (hi:0≤x.ID) (hin:x.ID<x.N) (hl:x.Log.length≤1000) (hc:0≤x.Commit) (hcl:x.Commit≤(x.Log.length:Int)):R_Leader x=some (leaderN x):=by
 have hw:w64 ((x.Log.length:Int)+1)=(x.Log.length:Int)+1:=w64_id (by omega) (by omega)
 obtain ⟨hs,ehs⟩:∃ hs,hs=(List.replicate x.N.toNat (0:Int)).set x.ID.toNat (x.Log.length:Int):=⟨_,rfl⟩
 have hhl:hs.length=x.N.toNat:=by rw [ehs]; simp
 have hg:∀ k:Nat,k<x.N.toNat→lget hs (k:Int)=if (k:Int)=x.ID then (x.Log.length:Int) else 0:=by
  intro k hk
  have hk':k<hs.length:=by omega
  rw [lget_nat hs k hk']
  simp only [ehs,List.getElem_set]
  by_cases g:x.ID.toNat=k
  ·rw [if_pos g,if_pos (by omega)]
  ·rw [if_neg g,if_neg (by omega)]; simp
 unfold R_Leader R_Follower
 rw [copyLog_eq _ (by omega),ob_some,ob_some]
 have:=loop_run (step:=fun y=>R_Leader_B1 (x.N,x.ID,x.Term,x.Vote,x.Log,0,x.Commit) y) x.N.toNat (fun k=>(List.replicate k ((x.Log.length:Int)+1),hs.take k,(k:Int)))
  (fun k hk=>by
   have hwk:w64 ((k:Int)+1)=((k+1:Nat):Int):=by rw [w64_id (by omega) (by omega)]; omega
   have htl:(hs.take k).length=k:=by simp; omega
   simp only [R_Leader_B1]
   rw [if_pos (d_t (by omega)),asrt_pos (by simp; omega),hw,hwk,lget_take hs k (by omega),hg k hk,List.replicate_succ']
   by_cases g:(k:Int)=x.ID
   ·rw [if_pos (d_t g),asrt_pos (by simp; omega),ob_some,if_pos g]
   ·rw [if_neg (d_f g),asrt_pos (by simp; omega),ob_some,if_neg g])
  (r:=leaderN x)
  (by
   simp only [R_Leader_B1]
   rw [if_neg (d_f (by omega)),← hhl,List.take_length]
   simp only [R_Leader_J1]
   rw [counted_eq ⟨x.N,x.ID,x.Term,x.Vote,x.Log,2,x.Commit,[],List.replicate hs.length ((x.Log.length:Int)+1),hs⟩ h1 h7 hl (by show hs.length≤1000; omega) hc hcl,ob_some,hhl]
   simp only [leaderN,← ehs,inrO])
 simpa [R_Leader_L1] using this
theorem rbeats_eq (x:Node) (h1:1≤x.N) (h7:x.N≤7) (hl:x.Log.length≤1000) (hn:(x.Next.length:Int)=x.N) (hk:∀ k∈x.Next,1≤k∧k≤(x.Log.length:Int)+1):R_Beats x=some (mls x.ID (bringM x) x.N.toNat):=by
 have:=loop_run (step:=fun y=>R_Beats_B1 x y) x.N.toNat (fun k=>(mls x.ID (bringM x) k,(k:Int)))
  (fun k hk2=>by
   have hwk:w64 ((k:Int)+1)=((k+1:Nat):Int):=by rw [w64_id (by omega) (by omega)]; omega
   have hml:=mls_len x.ID (bringM x) k
   have hnk:=hk _ (lget_mem x.Next (k:Int) (by omega))
   have hw2:w64 (lget x.Next (k:Int) - 1)=lget x.Next (k:Int) - 1:=w64_id (by omega) (by omega)
   have hw3:w64 (lget x.Next (k:Int) - 1+5)=lget x.Next (k:Int) - 1+5:=w64_id (by omega) (by omega)
   simp only [R_Beats_B1]
   rw [if_pos (d_t (by omega)),hwk,mls]
   by_cases g:(k:Int)=x.ID
   ·rw [if_pos (d_t g),ob_some,if_pos g]
   ·have hm:(if (decide ((x.Log.length:Int)<(w64 ((w64 ((lget x.Next (k:Int)) - 1))+5))))=true then some (x.Log.length:Int) else some (w64 ((w64 ((lget x.Next (k:Int)) - 1))+5)))=some (min (lget x.Next (k:Int) - 1+5) (x.Log.length:Int)):=by
     rw [hw2,hw3]
     by_cases c:(x.Log.length:Int)<lget x.Next (k:Int) - 1+5
     ·rw [if_pos (d_t c)]; congr 1; omega
     ·rw [if_neg (d_f c)]; congr 1; omega
    obtain ⟨p,hp⟩:∃ p:Nat,lget x.Next (k:Int) - 1=(p:Int):=⟨(lget x.Next (k:Int) - 1).toNat,by omega⟩
    have hta:=tat_take x.Log p (by omega)
    rw [if_neg (d_f g),if_neg g,asrt_pos (by omega),hm,ob_some,hw2,asrt_pos (by omega),last_eq _ (by simp [ltake]; omega),ob_some,asrt_pos (by omega),copyLog_eq _ (by simp [ldrop,ltake]; omega),ob_some,asrt_pos (by simp; omega)]
    dsimp only [lt]
    rw [ob_some]
    unfold bringM
    rw [hp,ltake_nat,hta]
    rfl)
  (r:=mls x.ID (bringM x) x.N.toNat)
  (by
   simp only [R_Beats_B1]
   rw [if_neg (d_f (by omega))]; rfl)
 simpa [R_Beats,R_Beats_L1,mls] using this
theorem follower_eq {x:Node} (h:Small x):R_Follower x=some (x.N,x.ID,x.Term,x.Vote,x.Log,0,x.Commit):=by
 have h1:=h.l
 unfold R_Follower
 rw [copyLog_eq _ (by omega),ob_some]
theorem rcopy_eq {x:Node} (h:Small x):R_CopyNode x=some (x.N,x.ID,x.Term,x.Vote,x.Log,x.Role,x.Commit,x.Votes,x.Next,x.Have):=by
 have h1:=h.l
 have h2:=h.v
 have h3:=h.n
 have h4:=h.h
 unfold R_CopyNode
 rw [copyLog_eq _ (by omega),ob_some,asrt_pos (by omega),asrt_pos (by omega),asrt_pos (by omega)]
theorem slog_self (a:List Entry) (h:a.length≤1000000):R_SameLog a a=some true:=by
 unfold R_SameLog
 rw [if_neg (by simp)]
 exact loop_run (step:=fun y=>R_SameLog_B1 a a y) a.length (fun k=>(k:Int)) (fun k hk=>by
  have hw:w64 ((k:Int)+1)=((k+1:Nat):Int):=by rw [w64_id (by omega) (by omega)]; omega
  simp only [R_SameLog_B1]
  rw [if_pos (d_t (by omega)),asrt_pos (by omega),asrt_pos (by omega),if_neg (by simp),hw]) (by
  simp only [R_SameLog_B1]
  rw [if_neg (d_f (by omega))]; rfl)
theorem rstand_eq {x:Node} (h:Small x):R_StandNode x=some (standS x):=by
 unfold R_StandNode standS
 rw [h.rcheck,ob_some]
 by_cases c0:(nodeF x).Code=0
 ·have hg:=nodeF_good.1 c0
  have hl:=hg.len
  rw [if_neg (not_not_intro c0),nodeF_zero hg]
  by_cases c1:x.Role=2
  ·rw [if_pos (by simp [c1]),if_pos c1]
   dsimp only [lt,R_F]
   rw [ob_some,if_neg (by simp),ob_some,if_pos (by simp)]; rfl
  ·rw [if_neg (by simp [c1]),if_neg c1,ob_some]
   by_cases c2:x.Term=1000000000
   ·rw [if_pos (by simp; omega),if_pos c2]
    dsimp only [lt,R_F]
    rw [ob_some,if_pos (by simp)]; rfl
   ·have h0:=hg.t0
    have ht1:=hg.t1
    have hw1:w64 (x.Term+1)=x.Term+1:=w64_id (by omega) (by omega)
    have hw2:w64 (x.ID+1)=x.ID+1:=by have:=hg.i0; have:=hg.iN; have:=hg.n7; exact w64_id (by omega) (by omega)
    rw [if_neg (by simp; omega),if_neg c2,ob_some,if_neg (by simp),follower_eq h,ob_some]
    have n1:=hg.n1
    have n7:=hg.n7
    have:=loop_run (step:=fun y=>R_StandNode_B1 x ⟨0,0⟩ (x.N,x.ID,x.Term,x.Vote,x.Log,0,x.Commit) y) x.N.toNat (fun k=>(mls x.ID (askM x.ID (x.Term+1) x.Log) k,(k:Int)))
     (fun k hk=>by
      have hwk:w64 ((k:Int)+1)=((k+1:Nat):Int):=by rw [w64_id (by omega) (by omega)]; omega
      have hml:=mls_len x.ID (askM x.ID (x.Term+1) x.Log) k
      simp only [R_StandNode_B1]
      rw [if_pos (d_t (by omega)),hwk,mls,hw1]
      by_cases g:(k:Int)=x.ID
      ·rw [if_neg (n_f g),ob_some,if_pos g]
      ·rw [if_pos (n_t g),if_neg g,last_eq _ (by omega),ob_some,asrt_pos (by simp; omega)]
       rfl)
     (r:=(if x.N=1 then leaderN (stX x) else stX x,mls x.ID (askM x.ID (x.Term+1) x.Log) x.N.toNat,⟨0,0⟩))
     (by
      simp only [R_StandNode_B1]
      rw [if_neg (d_f (by omega))]
      simp only [R_StandNode_J1]
      rw [hw1,hw2]
      by_cases c3:x.N=1
      ·rw [if_pos (d_t c3),if_pos c3,leader_eq (⟨x.N,x.ID,x.Term+1,x.ID+1,x.Log,1,x.Commit,[x.ID],[],[]⟩:Node) n1 n7 hg.i0 hg.iN (by show x.Log.length≤1000; omega) hg.c0 hg.cl,ob_some,ob_some]
       rfl
      ·rw [if_neg (d_f c3),if_neg c3,ob_some]
       rfl)
    simpa [R_StandNode_L1,mls] using this
 ·have e:∀ b:Bool,(decide ((nodeF x).Code=0)&&b)=false:=fun b=>by rw [decide_eq_false c0]; rfl
  rw [if_pos c0,e,if_neg (by decide),ob_some,e,if_neg (by decide),ob_some,if_pos (n_t c0)]; rfl
theorem rpropose_eq {x:Node} (h:Small x) (text:List UInt8):R_ProposeNode x text=some (propS x text):=by
 unfold R_ProposeNode propS
 rw [h.rcheck,ob_some]
 by_cases c0:(nodeF x).Code=0
 ·have hg:=nodeF_good.1 c0
  have hl:=hg.len
  rw [if_neg (not_not_intro c0),nodeF_zero hg]
  by_cases c1:x.Role=2
  ·rw [if_neg (by simp [c1]),if_neg (not_not_intro c1),ob_some]
   by_cases c2:200<text.length
   ·rw [if_pos (by simp; omega),if_pos c2]
    dsimp only [lt,R_F]
    rw [ob_some,if_neg (by simp),ob_some,if_pos (by simp)]; rfl
   ·rw [if_neg (by simp; omega),if_neg c2,ob_some]
    by_cases c3:x.Log.length=100
    ·rw [if_pos (by simp; omega),if_pos c3]
     dsimp only [lt,R_F]
     rw [ob_some,if_pos (by simp)]; rfl
    ·obtain ⟨l1,l2,l3,l4,l5⟩:=hg.lead c1
     have i0:=hg.i0
     have iN:=hg.iN
     have hap:((x.Log++[(⟨x.Term,text⟩:Entry)]).length:Int)=(x.Log.length:Int)+1:=by simp
     have hw:w64 ((x.Log.length:Int)+1+1)=(x.Log.length:Int)+2:=by rw [w64_id (by omega) (by omega)]; omega
     have hsm:=hg.small
     rw [if_neg (by simp; omega),if_neg c3,ob_some,if_neg (by simp),rcopy_eq h,ob_some]
     dsimp only [lt]
     rw [asrt_pos (by omega),asrt_pos (by omega),asrt_pos (by omega),asrt_pos (by omega),asrt_pos (by omega),hap,hw]
     rw [counted_eq (⟨x.N,x.ID,x.Term,x.Vote,x.Log++[(⟨x.Term,text⟩:Entry)],x.Role,x.Commit,x.Votes,lset x.Next x.ID ((x.Log.length:Int)+2),lset x.Have x.ID ((x.Log.length:Int)+1)⟩:Node) hg.n1 hg.n7 (by show (x.Log++[(⟨x.Term,text⟩:Entry)]).length≤1000; simp; omega) (by show (lset x.Have x.ID ((x.Log.length:Int)+1)).length≤1000; rw [lset_len]; omega) hg.c0 (by show x.Commit≤((x.Log++[(⟨x.Term,text⟩:Entry)]).length:Int); have:=hg.cl; omega),ob_some]
     unfold proX
     simp
  ·rw [if_pos (by simp [c1]),if_pos c1]
   dsimp only [lt,R_F]
   rw [ob_some,if_neg (by simp),ob_some,if_neg (by simp),ob_some,if_pos (by simp)]; rfl
 ·have e:∀ b:Bool,(decide ((nodeF x).Code=0)&&b)=false:=fun b=>by rw [decide_eq_false c0]; rfl
  rw [if_pos c0,e,if_neg (by decide),ob_some,e,if_neg (by decide),ob_some,e,if_neg (by decide),ob_some,if_pos (n_t c0)]; rfl
theorem rbeat_eq {x:Node} (h:Small x):R_BeatNode x=some (beatS x):=by
 unfold R_BeatNode beatS
 rw [h.rcheck,ob_some]
 by_cases c0:(nodeF x).Code=0
 ·have hg:=nodeF_good.1 c0
  rw [if_neg (not_not_intro c0),nodeF_zero hg]
  by_cases c1:x.Role=2
  ·obtain ⟨l1,l2,l3,l4,l5⟩:=hg.lead c1
   rw [if_neg (by simp [c1]),if_neg (not_not_intro c1),ob_some,if_neg (by simp),rbeats_eq x hg.n1 hg.n7 h.l l1 l3,ob_some]
  ·rw [if_pos (by simp [c1]),if_pos c1]; rfl
 ·have e:∀ b:Bool,(decide ((nodeF x).Code=0)&&b)=false:=fun b=>by rw [decide_eq_false c0]; rfl
  rw [if_pos c0,e,if_neg (by decide),ob_some,if_pos (n_t c0)]
theorem rrest_eq {x:Node} (h:Small x):R_RestartNode x=some (n11 (restS x).1 (restS x).2):=by
 unfold R_RestartNode restS
 rw [h.rcheck,ob_some]
 by_cases c0:(nodeF x).Code=0
 ·rw [if_neg (n_f c0),if_neg (not_not_intro c0),follower_eq h,ob_some]; rfl
 ·rw [if_pos (n_t c0),if_pos c0]; rfl
theorem num_iff (v:Int):R_Num v=true↔0≤v∧v≤1000000000:=by unfold R_Num; simp
theorem rfine_eq (x:Node) (m:Mail) (hm:m.Entries.length≤1000000):R_MailFine x m=some (decide (finM x m)):=by
 unfold R_MailFine
 dsimp only [lt]
 simp only [rlog_eq,last_eq _ hm]
 by_cases c:(1≤m.Kind∧m.Kind≤4)∧m.To=x.ID∧m.From≠x.ID∧(0≤m.From∧m.From<x.N)∧(1≤m.Term∧m.Term≤1000000000)∧(0≤m.A∧m.A≤1000000000)∧(0≤m.B∧m.B≤1000000000)∧(0≤m.C0∧m.C0≤1000000000)
 ·have n1:=(num_iff m.Term).2 (by omega)
  have n2:=(num_iff m.A).2 (by omega)
  have n3:=(num_iff m.B).2 (by omega)
  have n4:=(num_iff m.C0).2 (by omega)
  rw [n1,n2,n3,n4,if_neg (by simp only [Bool.or_eq_true,decide_eq_true_eq,Bool.not_eq_true',decide_eq_false_iff_not,Bool.not_true,Bool.false_eq_true,or_false]; omega)]
  by_cases d:m.Entries.length≤5∧(m.Kind=3∨m.Entries.length=0)
  ·have d9:decide ((m.Entries.length:Int)≤5)=true:=d_t (by omega)
   have d10:(decide (m.Kind=3)||decide ((m.Entries.length:Int)=0))=true:=by
    rcases d.2 with h | h
    ·rw [d_t h]; rfl
    ·rw [d_t (show (m.Entries.length:Int)=0 by omega)]; simp
   rw [d9,d10]
   simp only [Bool.true_and,if_true,ob_some]
   have e:finM x m↔(fof m.Entries).Code=0∧tat m.Entries (m.Entries.length:Int)≤m.Term:=by
    unfold finM
    constructor
    ·rintro ⟨_,_,_,_,_,_,_,_,_,_,h⟩; exact h
    ·intro h; exact ⟨c.1,c.2.1,c.2.2.1,c.2.2.2.1,c.2.2.2.2.1,c.2.2.2.2.2.1,c.2.2.2.2.2.2.1,c.2.2.2.2.2.2.2,d.1,d.2.symm,h⟩
   by_cases g:(fof m.Entries).Code=0
   ·rw [if_pos (d_t g),ob_some,decide_eq_true g,Bool.true_and]
    congr 1
    exact decide_eq_decide.2 (by rw [e]; exact ⟨fun h=>⟨g,h⟩,fun h=>h.2⟩)
   ·rw [if_neg (d_f g),ob_some,decide_eq_false g,Bool.false_and]
    congr 1
    exact (decide_eq_false (fun h=>g (e.1 h).1)).symm
  ·have hb:((decide ((m.Entries.length:Int)≤5))&&((decide (m.Kind=3))||(decide ((m.Entries.length:Int)=0))))=false:=by
    rw [Bool.eq_false_iff]
    intro h
    simp only [Bool.and_eq_true,Bool.or_eq_true,decide_eq_true_eq] at h
    exact d ⟨by omega,by omega⟩
   have hf:¬ finM x m:=by rintro ⟨_,_,_,_,_,_,_,_,a9,a10,_⟩; exact d ⟨a9,a10.symm⟩
   rw [hb]
   simp only [Bool.false_and,Bool.false_eq_true,if_false,ob_some]
   rw [decide_eq_false hf]
 ·have hf:¬ finM x m:=by rintro ⟨a1,a2,a3,a4,a5,a6,a7,a8,_⟩; exact c ⟨a1,a2,a3,a4,a5,a6,a7,a8⟩
  rw [if_pos,decide_eq_false hf]
  by_cases n1:R_Num m.Term=true
  ·by_cases n2:R_Num m.A=true
   ·by_cases n3:R_Num m.B=true
    ·by_cases n4:R_Num m.C0=true
     ·have q1:=(num_iff m.Term).1 n1
      have q2:=(num_iff m.A).1 n2
      have q3:=(num_iff m.B).1 n3
      have q4:=(num_iff m.C0).1 n4
      simp only [Bool.or_eq_true,decide_eq_true_eq,Bool.not_eq_true',decide_eq_false_iff_not]
      omega
     ·rw [Bool.not_eq_true] at n4; rw [n4]; simp
    ·rw [Bool.not_eq_true] at n3; rw [n3]; simp
   ·rw [Bool.not_eq_true] at n2; rw [n2]; simp
  ·rw [Bool.not_eq_true] at n1; rw [n1]; simp
theorem rolder_eq (l:List Entry) (hl:l.length≤1000000) (n t:Int):R_OlderLog l n t=some (decide (tat l (l.length:Int)<t∨(tat l (l.length:Int)=t∧(l.length:Int)<n))):=by
 unfold R_OlderLog
 rw [last_eq l hl,ob_some]
 by_cases c:tat l (l.length:Int)=t
 ·rw [if_neg (n_f c)]
  congr 1
  exact decide_eq_decide.2 ⟨fun h=>.inr ⟨c,h⟩,fun h=>by omega⟩
 ·rw [if_pos (n_t c),ob_some]
  congr 1
  exact decide_eq_decide.2 ⟨fun h=>.inl h,fun h=>by omega⟩
def nt (y:Node) (ms:List Mail) (f:Fault):Int×Int×Int×Int×List Entry×Int×Int×List Int×List Int×List Int×List Mail×Fault:=(y.N,y.ID,y.Term,y.Vote,y.Log,y.Role,y.Commit,y.Votes,y.Next,y.Have,ms,f)
def n10 (y:Node):Int×Int×Int×Int×List Entry×Int×Int×List Int×List Int×List Int:=(y.N,y.ID,y.Term,y.Vote,y.Log,y.Role,y.Commit,y.Votes,y.Next,y.Have)
theorem rput_loop (x:Node) (m:Mail) (v:Fault) (y:Node) (hid:x.ID=y.ID) (L:List Entry) (o:Bool) (f:Fault) (hc:0≤y.Commit∧y.Commit≤(y.Log.length:Int)) (hl:y.Log.length≤1000) (ha:0≤m.A∧m.A≤1000000000) (he:m.Entries.length≤5) :
  R_TakeNode_L1 x m v (n10 y) (y.N,y.ID,y.Term,y.Vote,y.Log,0,y.Commit) (L,o,f) 0 =
   some (if (L.length:Int)<y.Commit∨L.take y.Commit.toNat≠y.Log.take y.Commit.toNat then nt (fol y) [] v else nt ⟨y.N,y.ID,y.Term,y.Vote,L,0,max y.Commit (min m.C0 (m.A+(m.Entries.length:Int))),[],[],[]⟩ [ans y m 4 (m.A+(m.Entries.length:Int)) true] v):=by
 have hw:w64 (m.A+(m.Entries.length:Int))=m.A+(m.Entries.length:Int):=w64_id (by omega) (by omega)
 have ee:∀ k:Nat,(decide ((lget L (k:Int)).Term=(lget y.Log (k:Int)).Term)&&(decide ((lget L (k:Int)).Text=(lget y.Log (k:Int)).Text)&&true))=decide (lget L (k:Int)=lget y.Log (k:Int)):=fun k=>by
  cases lget L (k:Int); cases lget y.Log (k:Int); simp
 rcases loop_any (step:=fun z=>R_TakeNode_B1 x m v (n10 y) (y.N,y.ID,y.Term,y.Vote,y.Log,0,y.Commit) (L,o,f) z) y.Commit.toNat (fun k=>(k:Int)) (fun k=>(L.length:Int)≤(k:Int)∨¬ lget L (k:Int)=lget y.Log (k:Int))
  (rb:=nt (fol y) [] v) (r:=nt ⟨y.N,y.ID,y.Term,y.Vote,L,0,max y.Commit (min m.C0 (m.A+(m.Entries.length:Int))),[],[],[]⟩ [ans y m 4 (m.A+(m.Entries.length:Int)) true] v)
  (fun k hk hb=>by
   have hw:w64 ((k:Int)+1)=((k+1:Nat):Int):=by rw [w64_id (by omega) (by omega)]; omega
   have h1:¬ (L.length:Int)≤(k:Int):=fun g=>hb (.inl g)
   have h2:lget L (k:Int)=lget y.Log (k:Int):=Classical.not_not.1 (fun g=>hb (.inr g))
   simp only [R_TakeNode_B1]
   rw [if_pos (d_t (by omega)),asrt_pos (fun _=>by omega),asrt_pos (fun _=>by omega),asrt_pos (fun _=>by omega),asrt_pos (fun _=>by omega),ee,decide_eq_false h1,decide_eq_true h2,if_neg (by decide),hw])
  (fun k hk hb=>by
   simp only [R_TakeNode_B1]
   by_cases h1:(L.length:Int)≤(k:Int)
   ·have d:=decide_eq_true h1
    rw [if_pos (d_t (by omega)),d,asrt_pos (fun g=>by cases g),asrt_pos (fun g=>by cases g),asrt_pos (fun g=>by cases g),asrt_pos (fun g=>by cases g),if_pos (by rfl)]; rfl
   ·have h2:=hb.resolve_left h1
    rw [if_pos (d_t (by omega)),asrt_pos (fun _=>by omega),asrt_pos (fun _=>by omega),asrt_pos (fun _=>by omega),asrt_pos (fun _=>by omega),ee,decide_eq_false h1,decide_eq_false h2,if_pos (by decide)]; rfl)
  (by
   simp only [R_TakeNode_B1]
   rw [if_neg (d_f (by omega))]
   unfold R_TakeNode_J1
   rw [hw]
   have e1:(if (decide (m.A+(m.Entries.length:Int)<m.C0))=true then some (m.A+(m.Entries.length:Int)) else some m.C0)=some (min m.C0 (m.A+(m.Entries.length:Int))):=by
    by_cases g:m.A+(m.Entries.length:Int)<m.C0
    ·rw [if_pos (d_t g)]; congr 1; omega
    ·rw [if_neg (d_f g)]; congr 1; omega
   have e2:(if (decide (y.Commit<min m.C0 (m.A+(m.Entries.length:Int))))=true then some (min m.C0 (m.A+(m.Entries.length:Int))) else some y.Commit)=some (max y.Commit (min m.C0 (m.A+(m.Entries.length:Int)))):=by
    by_cases g:y.Commit<min m.C0 (m.A+(m.Entries.length:Int))
    ·rw [if_pos (d_t g)]; congr 1; omega
    ·rw [if_neg (d_f g)]; congr 1; omega
   rw [e1,ob_some,e2,ob_some,hid]; rfl) with ⟨⟨k,hk,hb⟩,h2⟩ | ⟨h1,h2⟩
 ·have hcond:(L.length:Int)<y.Commit∨L.take y.Commit.toNat≠y.Log.take y.Commit.toNat:=by
   by_cases g:(L.length:Int)<y.Commit
   ·exact .inl g
   ·refine .inr (fun e=>?_)
    rcases hb with hb | hb
    ·omega
    ·have q1:=lget_ltake L y.Commit (k:Int) (by omega)
     have q2:=lget_ltake y.Log y.Commit (k:Int) (by omega)
     have e':ltake L y.Commit=ltake y.Log y.Commit:=e
     exact hb (by rw [← q1,← q2,e'])
  rw [if_pos hcond]; exact h2
 ·have hcond:¬ ((L.length:Int)<y.Commit∨L.take y.Commit.toNat≠y.Log.take y.Commit.toNat):=by
   have hL:¬ (L.length:Int)<y.Commit:=fun g=>h1 L.length (by omega) (.inl (by omega))
   rintro (g | g)
   ·exact hL g
   ·refine g (ext_lget (by rw [List.length_take,List.length_take]; omega) (fun n hn=>?_))
    rw [List.length_take] at hn
    have q1:=lget_ltake L y.Commit (n:Int) (by omega)
    have q2:=lget_ltake y.Log y.Commit (n:Int) (by omega)
    have e1:ltake L y.Commit=L.take y.Commit.toNat:=rfl
    have e2:ltake y.Log y.Commit=y.Log.take y.Commit.toNat:=rfl
    rw [e1] at q1; rw [e2] at q2
    rw [q1,q2]
    exact Classical.not_not.1 (fun hne=>h1 n (by omega) (.inr hne))
  rw [if_neg hcond]; exact h2
theorem fit_small {y:Node} {m:Mail} (h:Fit y m) (hn:y.Next.length≤1000) (hh:y.Have.length≤1000):Small y:=⟨by have:=h.l; omega,by have:=h.vo; omega,hn,hh⟩
theorem rtake_eq {x:Node} (hx:Small x) (m:Mail) (hm:m.Entries.length≤1000000):R_TakeNode x m=some (nt (takeS x m).1 (takeS x m).2.1 (takeS x m).2.2):=by
 unfold R_TakeNode
 rw [hx.rcheck,ob_some]
 have e1:(ob (if (decide ((nodeF x).Code=0))=true then (R_MailFine x m) else some default) fun x2=>
   ob (
    if ((decide ((nodeF x).Code=0))&&(!x2))=true then
     lt (R_F 5 0) fun x3=>
     some x3
    else
     some (nodeF x)) fun (v:Fault)=>some v)=some (takF x m):=by
  unfold takF
  by_cases c:(nodeF x).Code=0
  ·have hg:=nodeF_good.1 c
   rw [if_pos (d_t c),rfine_eq x m hm,ob_some,if_pos c]
   by_cases f:finM x m
   ·rw [decide_eq_true f,if_neg (by simp),if_pos f,ob_some,nodeF_zero hg]
   ·rw [decide_eq_false f,if_pos (by simp [c]),if_neg f]; rfl
  ·rw [if_neg (d_f c),ob_some,if_neg (by simp [c]),if_neg c,ob_some]
 have e2:∀ {β:Type} (k:Fault→Option β),(ob (if (decide ((nodeF x).Code=0))=true then (R_MailFine x m) else some default) fun x2=>
   ob (
    if ((decide ((nodeF x).Code=0))&&(!x2))=true then
     lt (R_F 5 0) fun x3=>
     some x3
    else
     some (nodeF x)) k)=k (takF x m):=by
  intro β k
  obtain ⟨b,hb,e⟩:=ob_elim e1
  obtain ⟨v,hv,e⟩:=ob_elim e
  rw [hb,ob_some,hv,ob_some,← some_elim e]
 rw [e2]
 unfold takeS
 by_cases c:(takF x m).Code=0
 ·obtain ⟨hg,hf,hz⟩:=takF_zero c
  rw [if_neg (n_f c),if_pos c,rcopy_eq hx,ob_some,hz]
  have hfit:=bas_fit hg hf
  obtain ⟨f1,_,_,f4,_,f6,f7,f8,_⟩:=hf
  have hb:(if (decide (x.Term<m.Term))=true then
    ob (R_Follower x) fun x5=>
    some (x5.1,x5.2.1,m.Term,0,x5.2.2.2.2.1,x5.2.2.2.2.2.1,x5.2.2.2.2.2.2,([]:List Int),([]:List Int),([]:List Int))
   else
    some (x.N,x.ID,x.Term,x.Vote,x.Log,x.Role,x.Commit,x.Votes,x.Next,x.Have))=some (n10 (bas x m)):=by
   unfold bas
   by_cases g:x.Term<m.Term
   ·rw [if_pos (d_t g),follower_eq hx,ob_some,if_pos g]; rfl
   ·rw [if_neg (d_f g),if_neg g]; rfl
  have hid:x.ID=(bas x m).ID:=by unfold bas; split <;> rfl
  have hsm:Small (bas x m):=fit_small hfit (by
   unfold bas; split
   ·show ([]:List Int).length≤1000; simp
   ·exact hx.n) (by
   unfold bas; split
   ·show ([]:List Int).length≤1000; simp
   ·exact hx.h)
  dsimp only
  rw [hb,ob_some,hid]
  have hid2:x.ID=(bas x m).ID:=hid
  generalize bas x m=y at *
  have hl:=hfit.l
  have hn:=hfit.n
  have hi:=hfit.i
  have hcm:=hfit.c
  have hvo:=hfit.vo
  have hfr:=hfit.f
  have ha:=hfit.a
  have hvv:=hfit.v
  have p1:(n10 y).1=y.N:=rfl
  have p2:(n10 y).2.1=y.ID:=rfl
  have p3:(n10 y).2.2.1=y.Term:=rfl
  have p4:(n10 y).2.2.2.1=y.Vote:=rfl
  have p5:(n10 y).2.2.2.2.1=y.Log:=rfl
  have p6:(n10 y).2.2.2.2.2.1=y.Role:=rfl
  have p7:(n10 y).2.2.2.2.2.2.1=y.Commit:=rfl
  have p8:(n10 y).2.2.2.2.2.2.2.1=y.Votes:=rfl
  have p9:(n10 y).2.2.2.2.2.2.2.2.1=y.Next:=rfl
  have p10:(n10 y).2.2.2.2.2.2.2.2.2=y.Have:=rfl
  rw [p1,p2,p3,p4,p5,p6,p7,p8,p9,p10]
  unfold takeK
  by_cases k1:m.Kind=1
  ·rw [if_pos (d_t k1),if_pos k1,rolder_eq _ (by omega),ob_some,last_eq _ (by omega)]
   unfold take1
   have hv2:(ob (if (!(!decide (m.A=(y.Log.length:Int))))=true then (if (!decide (tat y.Log (y.Log.length:Int)<m.B∨(tat y.Log (y.Log.length:Int)=m.B∧(y.Log.length:Int)<m.A)))=true then some (tat y.Log (y.Log.length:Int)) else some default) else some default) fun x7=>
     some ((!decide (tat y.Log (y.Log.length:Int)<m.B∨(tat y.Log (y.Log.length:Int)=m.B∧(y.Log.length:Int)<m.A)))&&((!decide (m.A=(y.Log.length:Int)))||(!decide (m.B=x7)))))=some (decide (m.B<tat y.Log (y.Log.length:Int)∨(m.B=tat y.Log (y.Log.length:Int)∧m.A<(y.Log.length:Int)))):=by
    by_cases o:tat y.Log (y.Log.length:Int)<m.B∨(tat y.Log (y.Log.length:Int)=m.B∧(y.Log.length:Int)<m.A)
    ·rw [decide_eq_true o]
     have:¬ (m.B<tat y.Log (y.Log.length:Int)∨(m.B=tat y.Log (y.Log.length:Int)∧m.A<(y.Log.length:Int))):=by omega
     rw [decide_eq_false this]
     by_cases g:m.A=(y.Log.length:Int)
     ·rw [decide_eq_true g]; rfl
     ·rw [decide_eq_false g]; rfl
    ·rw [decide_eq_false o]
     by_cases g:m.A=(y.Log.length:Int)
     ·rw [decide_eq_true g,if_pos (by decide),if_pos (by decide),ob_some]
      congr 1
      by_cases g2:m.B=tat y.Log (y.Log.length:Int)
      ·rw [decide_eq_true g2,decide_eq_false (show ¬ (m.B<tat y.Log (y.Log.length:Int)∨(m.B=tat y.Log (y.Log.length:Int)∧m.A<(y.Log.length:Int))) by omega)]; rfl
      ·rw [decide_eq_false g2,decide_eq_true (show (m.B<tat y.Log (y.Log.length:Int)∨(m.B=tat y.Log (y.Log.length:Int)∧m.A<(y.Log.length:Int))) by omega)]; rfl
     ·rw [decide_eq_false g,if_neg (by decide),ob_some]
      congr 1
      rw [decide_eq_true (show (m.B<tat y.Log (y.Log.length:Int)∨(m.B=tat y.Log (y.Log.length:Int)∧m.A<(y.Log.length:Int))) by omega)]; rfl
   obtain ⟨x7,h7,e7⟩:=ob_elim hv2
   rw [h7,ob_some]
   dsimp only [lt]
   rw [some_elim e7]
   have hw1:w64 (m.From+1)=m.From+1:=w64_id (by omega) (by omega)
   have hask:(((decide (m.Term=y.Term))&&((decide (y.Vote=0))||(decide ((w64 (y.Vote - 1))=m.From))))&&(!decide (m.B<tat y.Log (y.Log.length:Int)∨(m.B=tat y.Log (y.Log.length:Int)∧m.A<(y.Log.length:Int)))))=decide (askB y m):=by
    have hge:0≤y.Vote∨y.Vote<0:=by omega
    have hvote:(w64 (y.Vote - 1)=m.From)↔y.Vote=m.From+1:=by
     have hlo:=hfit.vlo
     rw [w64_id (by omega) (by omega)]; omega
    rw [Bool.eq_iff_iff,decide_eq_true_iff]
    unfold askB
    simp only [Bool.and_eq_true,Bool.or_eq_true,Bool.not_eq_true',decide_eq_true_eq,decide_eq_false_iff_not,hvote,and_assoc]
   rw [hask,hw1]
   by_cases g:askB y m
   ·rw [if_pos (d_t g),ob_some,if_pos g,decide_eq_true g]; rfl
   ·rw [if_neg (d_f g),ob_some,if_neg g,decide_eq_false g]; rfl
  ·rw [if_neg (d_f k1),if_neg k1]
   by_cases k2:m.Kind=2
   ·rw [if_pos (d_t k2),if_pos k2]
    unfold take2
    by_cases c1:y.Role≠1∨m.Term≠y.Term∨m.Ok=false
    ·rw [if_pos c1,if_pos (by
      simp only [Bool.or_eq_true,Bool.not_eq_true',decide_eq_false_iff_not]
      rcases c1 with c1 | c1 | c1
      ·exact .inl (.inl c1)
      ·exact .inl (.inr c1)
      ·exact .inr c1)]
     rfl
    ·rw [if_neg c1,if_neg (by
      simp only [Bool.or_eq_true,Bool.not_eq_true',decide_eq_false_iff_not]
      rintro ((c | c) | c)
      ·exact c1 (.inl c)
      ·exact c1 (.inr (.inl c))
      ·exact c1 (.inr (.inr c)))]
     rw [has_eq _ (by omega),ob_some]
     have e:(if (!decide (m.From∈y.Votes))=true then asrt (((y.Votes++([m.From]:List Int)).length:Int)*8≤140737488351232) (some (y.Votes++([m.From]:List Int))) else some y.Votes)=some (vts y m):=by
      unfold vts
      by_cases c:m.From∈y.Votes
      ·rw [if_neg (n_f c),if_pos c]
      ·rw [if_pos (n_t c),if_neg c,asrt_pos (by rw [List.length_append,List.length_singleton]; omega)]
     rw [e,ob_some]
     dsimp only [lt]
     rw [maj_eq _ _ hn.1 hn.2]
     by_cases c2:y.N<2*((vts y m).length:Int)
     ·have hle:=leader_eq (wv y (vts y m)) hn.1 hn.2 hi.1 hi.2 (show y.Log.length≤1000 by omega) hcm.1 hcm.2
      have hbe:=rbeats_eq (leaderN (wv y (vts y m))) hn.1 hn.2 (show y.Log.length≤1000 by omega) (by simp [leaderN,wv]; omega) (by
       intro k hk
       have:k=(y.Log.length:Int)+1:=by
        have hk':k∈List.replicate y.N.toNat ((y.Log.length:Int)+1):=hk
        exact (List.mem_replicate.1 hk').2
       subst this
       show 1≤(y.Log.length:Int)+1∧(y.Log.length:Int)+1≤(y.Log.length:Int)+1
       omega)
      have hle':R_Leader ⟨y.N,y.ID,y.Term,y.Vote,y.Log,y.Role,y.Commit,vts y m,y.Next,y.Have⟩=_:=hle
      rw [if_pos (d_t c2),if_pos c2,hle',ob_some,hbe,ob_some]; rfl
     ·rw [if_neg (d_f c2),if_neg c2]; rfl
   ·rw [if_neg (d_f k2),if_neg k2]
    by_cases k3:m.Kind=3
    ·rw [if_pos (d_t k3),if_pos k3]
     unfold take3
     by_cases c1:m.Term<y.Term
     ·rw [if_pos (d_t c1),if_pos c1]; rfl
     rw [if_neg (d_f c1),if_neg c1]
     by_cases c2:y.Role=2
     ·rw [if_pos (d_t c2),if_pos c2]; rfl
     have hfo:=follower_eq hsm
     have hfo':R_Follower ⟨y.N,y.ID,y.Term,y.Vote,y.Log,y.Role,y.Commit,y.Votes,y.Next,y.Have⟩=_:=hfo
     rw [if_neg (d_f c2),if_neg c2,hfo',ob_some]
     dsimp only
     rw [rput_eq,ob_some]
     by_cases c3:(putS y.Log m.A m.B m.Entries).2.2.Code=0
     ·rw [if_neg (n_f c3),if_neg (not_not_intro c3)]
      by_cases c4:(putS y.Log m.A m.B m.Entries).2.1=false
      ·have hw:w64 (m.A - 1)=m.A - 1:=w64_id (by omega) (by omega)
       rw [if_pos (by rw [c4]; rfl),if_pos c4,hw]
       by_cases g:m.A - 1<(y.Log.length:Int)
       ·rw [if_pos (d_t g),ob_some]
        dsimp only
        by_cases g2:m.A - 1<0
        ·have e:max 0 (min (m.A - 1) (y.Log.length:Int))=0:=by omega
         rw [if_pos (d_t g2),ob_some,e]; rfl
        ·have e:max 0 (min (m.A - 1) (y.Log.length:Int))=m.A - 1:=by omega
         rw [if_neg (d_f g2),ob_some,e]; rfl
       ·rw [if_neg (d_f g),ob_some]
        dsimp only
        have e:max 0 (min (m.A - 1) (y.Log.length:Int))=(y.Log.length:Int):=by omega
        rw [if_neg (d_f (by omega)),ob_some,e]; rfl
      ·have hlo:=rput_loop x m ⟨0,0⟩ y hid2 (putS y.Log m.A m.B m.Entries).1 (putS y.Log m.A m.B m.Entries).2.1 (putS y.Log m.A m.B m.Entries).2.2 hcm (by omega) ha hfit.e
       rw [if_neg (by rw [Bool.not_eq_false] at c4; rw [c4]; decide),if_neg c4]
       refine hlo.trans ?_
       by_cases g:((putS y.Log m.A m.B m.Entries).1.length:Int)<y.Commit∨(putS y.Log m.A m.B m.Entries).1.take y.Commit.toNat≠y.Log.take y.Commit.toNat
       ·rw [if_pos g,if_pos g]
       ·rw [if_neg g,if_neg g]
     ·rw [if_pos (n_t c3),if_pos c3]; rfl
    ·rw [if_neg (d_f k3),if_neg k3]
     unfold take4
     by_cases c1:y.Role≠2∨m.Term≠y.Term
     ·rw [if_pos c1,if_pos (by simp only [Bool.or_eq_true,Bool.not_eq_true',decide_eq_false_iff_not]; exact c1)]; rfl
     ·rw [if_neg c1,if_neg (by simp only [Bool.or_eq_true,Bool.not_eq_true',decide_eq_false_iff_not]; exact c1)]
      have hr:y.Role=2:=by
       by_cases g:y.Role=2
       ·exact g
       ·exact absurd (.inl g) c1
      obtain ⟨l1,l2,l3,l4⟩:=hfit.ld hr
      have hh:=l4 _ (lget_mem y.Have m.From (by omega))
      have hxx:=l3 _ (lget_mem y.Next m.From (by omega))
      by_cases c2:m.Ok=true
      ·have hhl:(hav y m).length=y.Have.length:=by unfold hav; rw [lset_len]
       have hg:lget (hav y m) m.From=max (lget y.Have m.From) (min m.A (y.Log.length:Int)):=by
        unfold hav; rw [lget_lset _ _ _ _ (by omega) (by omega),if_pos rfl]
       have hw:w64 (lget (hav y m) m.From+1)=max (lget y.Have m.From) (min m.A (y.Log.length:Int))+1:=by
        rw [hg,w64_id (by omega) (by omega)]
       have e1:(if (decide ((y.Log.length:Int)<m.A))=true then some (y.Log.length:Int) else some m.A)=some (min m.A (y.Log.length:Int)):=by
        by_cases g:(y.Log.length:Int)<m.A
        ·rw [if_pos (d_t g)]; congr 1; omega
        ·rw [if_neg (d_f g)]; congr 1; omega
       have e2:(if (decide (lget y.Have m.From<min m.A (y.Log.length:Int)))=true then
          asrt (0≤m.From∧m.From<(y.Have.length:Int)) <|
          asrt (0≤m.From∧m.From<(y.Have.length:Int)) <|
          some (lset y.Have m.From (min m.A (y.Log.length:Int)))
         else some y.Have)=some (hav y m):=by
        unfold hav
        by_cases g:lget y.Have m.From<min m.A (y.Log.length:Int)
        ·have e:max (lget y.Have m.From) (min m.A (y.Log.length:Int))=min m.A (y.Log.length:Int):=by omega
         rw [if_pos (d_t g),asrt_pos (by omega),asrt_pos (by omega),e]
        ·have e:max (lget y.Have m.From) (min m.A (y.Log.length:Int))=lget y.Have m.From:=by omega
         rw [if_neg (d_f g),e]
         obtain ⟨q,hq⟩:∃ q:Nat,m.From=(q:Int):=⟨m.From.toNat,by omega⟩
         rw [hq,lset_same y.Have q (by omega)]
       rw [if_pos c2,if_pos c2,e1,ob_some,asrt_pos (by omega),asrt_pos (by omega),e2,ob_some,asrt_pos (by omega),asrt_pos (by omega),asrt_pos (by omega),asrt_pos (by omega),hw]
       have hco:=counted_eq ⟨y.N,y.ID,y.Term,y.Vote,y.Log,y.Role,y.Commit,y.Votes,lset y.Next m.From (max (lget y.Have m.From) (min m.A (y.Log.length:Int))+1),hav y m⟩ hn.1 hn.2 (show y.Log.length≤1000 by omega) (show (hav y m).length≤1000 by omega) hcm.1 hcm.2
       rw [hco,ob_some]; rfl
      ·have hw1:w64 (lget y.Have m.From+1)=lget y.Have m.From+1:=w64_id (by omega) (by omega)
       have hw2:w64 (lget y.Next m.From - 1)=lget y.Next m.From - 1:=w64_id (by omega) (by omega)
       have hw3:w64 (m.A+1)=m.A+1:=w64_id (by omega) (by omega)
       have e1:(if (decide (m.A+1<lget y.Next m.From - 1))=true then some (m.A+1) else some (lget y.Next m.From - 1))=some (min (lget y.Next m.From - 1) (m.A+1)):=by
        by_cases g:m.A+1<lget y.Next m.From - 1
        ·rw [if_pos (d_t g)]; congr 1; omega
        ·rw [if_neg (d_f g)]; congr 1; omega
       have e2:(if (decide (min (lget y.Next m.From - 1) (m.A+1)<lget y.Have m.From+1))=true then
          asrt (0≤m.From∧m.From<(y.Have.length:Int)) <|
          asrt (0≤m.From∧m.From<(y.Have.length:Int)) <|
          some (lget y.Have m.From+1)
         else some (min (lget y.Next m.From - 1) (m.A+1)))=some (max (lget y.Have m.From+1) (min (lget y.Next m.From - 1) (m.A+1))):=by
        by_cases g:min (lget y.Next m.From - 1) (m.A+1)<lget y.Have m.From+1
        ·rw [if_pos (d_t g),asrt_pos (by omega),asrt_pos (by omega)]; congr 1; omega
        ·rw [if_neg (d_f g)]; congr 1; omega
       rw [if_neg c2,if_neg c2,asrt_pos (by omega),asrt_pos (by omega),hw1,hw2,hw3,e1,ob_some,asrt_pos (by omega),asrt_pos (by omega),e2,ob_some,asrt_pos (by omega),asrt_pos (by omega)]; rfl
 ·rw [if_pos (n_t c),if_neg c]; rfl
theorem takeK_mails {y:Node} {m:Mail} (hf:Fit y m):(takeK y m).2.length≤7∧∀ z∈(takeK y m).2,z.Entries.length≤1000:=by
 have hl:=hf.l
 have hn:=hf.n
 have one:∀ k a o,([ans y m k a o]:List Mail).length≤7∧∀ z∈([ans y m k a o]:List Mail),z.Entries.length≤1000:=fun k a o=>⟨by simp,by simp [ans]⟩
 have none_:([]:List Mail).length≤7∧∀ z∈([]:List Mail),z.Entries.length≤1000:=⟨by simp,by simp⟩
 unfold takeK
 split
 ·exact one _ _ _
 ·split
  ·unfold take2
   split
   ·exact none_
   ·split
    ·have:=mls_len y.ID (bringM (leaderN (wv y (vts y m)))) y.N.toNat
     refine ⟨by show (mls _ _ _).length≤7; omega,fun z hz=>?_⟩
     obtain ⟨j,_,_,e⟩:=mls_mem hz
     rw [e]; simp [bringM,leaderN,wv]; omega
    ·exact none_
  ·split
   ·unfold take3
    repeat' split
    all_goals first | exact none_ | exact one _ _ _
   ·unfold take4
    repeat' split
    all_goals exact none_
theorem cntD_le (g:Nat→Bool) (c:Nat):∀ k,c≤cntD g c k∧cntD g c k≤max c k
 | 0=>by rw [cntD]; omega
 | k+1=>by
  have:=cntD_le g c k
  rw [cntD]
  split
  ·omega
  ·split
   ·omega
   ·omega
theorem put_cases (m:List Entry):∀ (p:Nat) (l:List Entry),p≤l.length→put p l m=l∨∃ q rest,rest≠[]∧rest <:+ m∧put p l m=l.take q++rest:=by
 induction m with
 | nil=>intro p l h; exact .inl rfl
 | cons e m ih=>
  intro p l h
  by_cases c:p<l.length∧(lget l (p:Int)).Term=e.Term
  ·rw [put,if_pos c]
   rcases ih (p+1) l (by omega) with h1 | ⟨q,rest,h1,h2,h3⟩
   ·exact .inl h1
   ·exact .inr ⟨q,rest,h1,h2.trans (List.suffix_cons e m),h3⟩
  ·exact .inr ⟨p,e::m,by simp,List.suffix_refl _,put_not e m p l h c⟩
theorem tat_last (l:List Entry) (h:l≠[]):tat l (l.length:Int)=(l.getLast h).Term:=by
 have hl:0<l.length:=List.length_pos_iff.2 h
 unfold tat
 have e:(l.length:Int) - 1=((l.length - 1:Nat):Int):=by omega
 rw [if_neg (by omega),e,lget_nat _ _ (by omega),List.getLast_eq_getElem]
theorem put_last (m:List Entry) (p:Nat) (l:List Entry) (hp:p≤l.length):tat (put p l m) ((put p l m).length:Int)=tat l (l.length:Int)∨tat (put p l m) ((put p l m).length:Int)=tat m (m.length:Int):=by
 rcases put_cases m p l hp with h | ⟨q,rest,h1,h2,h3⟩
 ·left; rw [h]
 ·right
  obtain ⟨pre,hpre⟩:=h2
  have hm:m≠[]:=by rw [← hpre]; simp [h1]
  have e1:put p l m≠[]:=by rw [h3]; simp [h1]
  rw [tat_last _ e1,tat_last _ hm]
  congr 1
  have a1:(put p l m).getLast e1=rest.getLast h1:=by
   have:∀ (z:List Entry) (hz:z≠[]),z=l.take q++rest→z.getLast hz=rest.getLast h1:=by
    intro z hz e; subst e; exact List.getLast_append_of_ne_nil _ h1
   exact this _ _ h3
  have a2:m.getLast hm=rest.getLast h1:=by
   have:∀ (z:List Entry) (hz:z≠[]),z=pre++rest→z.getLast hz=rest.getLast h1:=by
    intro z hz e; subst e; exact List.getLast_append_of_ne_nil _ h1
   exact this _ _ hpre.symm
  rw [a1,a2]
theorem form0 (y:Node) (hr:y.Role=0) (h1:y.Votes=[]) (h2:y.Next=[]) (h3:y.Have=[]):formB y=true:=by
 unfold formB; simp [hr,h1,h2,h3]
theorem bas_good {x:Node} {m:Mail} (hg:NGood x) (hf:finM x m):NGood (bas x m)∧m.Term≤(bas x m).Term:=by
 obtain ⟨_,_,_,_,f5,_⟩:=hf
 unfold bas
 by_cases c:x.Term<m.Term
 ·rw [if_pos c]
  have h1:=hg.last
  refine ⟨⟨hg.n1,hg.n7,hg.i0,hg.iN,by show 0≤m.Term; omega,by show m.Term≤1000000000; omega,by show (0:Int)≤0; omega,by show 0≤x.N; have:=hg.n1; omega,by show (0:Int)≤0; omega,by show (0:Int)≤2; omega,hg.c0,hg.cl,hg.log,?_,form0 _ rfl rfl rfl rfl⟩,Int.le_refl _⟩
  show ¬ m.Term<tat x.Log (x.Log.length:Int)
  omega
 ·rw [if_neg c]; exact ⟨hg,by omega⟩
theorem fol_good {y:Node} (hg:NGood y):NGood (fol y):=⟨hg.n1,hg.n7,hg.i0,hg.iN,hg.t0,hg.t1,hg.v0,hg.vN,by show (0:Int)≤0; omega,by show (0:Int)≤2; omega,hg.c0,hg.cl,hg.log,hg.last,form0 _ rfl rfl rfl rfl⟩
theorem mem_lset {α:Type} {l:List α} {n:Int} {x y:α} (h:y∈lset l n x):y∈l∨y=x:=by
 unfold lset at h; exact List.mem_or_eq_of_mem_set h
theorem form2 (y:Node) (hr:y.Role=2) (h0:y.Votes=[]) (h1:(y.Next.length:Int)=y.N) (h2:(y.Have.length:Int)=y.N) (h3:∀ k∈y.Next,1≤k∧k≤(y.Log.length:Int)+1) (h4:∀ k∈y.Have,0≤k∧k≤(y.Log.length:Int)):formB y=true:=by
 unfold formB
 rw [if_pos hr,if_neg (by omega)]
 simp only [Bool.and_eq_true,decide_eq_true_eq,List.all_eq_true,inW_iff]
 exact ⟨by rw [h0]; rfl,⟨⟨h1,h2⟩,h3⟩,h4⟩
theorem lead_good {y:Node} (hg:NGood y) (v:List Int):NGood (leaderN (wv y v)):=by
 have h1:=hg.n1
 have h2:=hg.i0
 have h3:=hg.iN
 have hc:=cntD_le (gd y.N y.Term y.Log ((List.replicate y.N.toNat (0:Int)).set y.ID.toNat (y.Log.length:Int))) y.Commit.toNat y.Log.length
 have h4:=hg.c0
 have h5:=hg.cl
 refine ⟨hg.n1,hg.n7,hg.i0,hg.iN,hg.t0,hg.t1,hg.v0,hg.vN,by show (0:Int)≤2; omega,by show (2:Int)≤2; omega,?_,?_,hg.log,hg.last,form2 _ rfl rfl ?_ ?_ ?_ ?_⟩
 ·show (0:Int)≤((cntD _ _ _:Nat):Int); omega
 ·show ((cntD _ _ _:Nat):Int)≤(y.Log.length:Int)
  have hc':cntD (gd y.N y.Term y.Log ((List.replicate y.N.toNat (0:Int)).set y.ID.toNat (y.Log.length:Int))) y.Commit.toNat y.Log.length≤y.Log.length:=by omega
  exact Int.ofNat_le.2 hc'
 ·show ((List.replicate y.N.toNat _).length:Int)=y.N; rw [List.length_replicate]; omega
 ·show (((List.replicate y.N.toNat (0:Int)).set _ _).length:Int)=y.N; rw [List.length_set,List.length_replicate]; omega
 ·intro k hk
  have hk':k∈List.replicate y.N.toNat ((y.Log.length:Int)+1):=hk
  have:=(List.mem_replicate.1 hk').2
  subst this
  show 1≤(y.Log.length:Int)+1∧(y.Log.length:Int)+1≤(y.Log.length:Int)+1
  omega
 ·intro k hk
  have hk':k∈(List.replicate y.N.toNat (0:Int)).set y.ID.toNat (y.Log.length:Int):=hk
  show 0≤k∧k≤(y.Log.length:Int)
  rcases List.mem_or_eq_of_mem_set hk' with g | g
  ·have:=(List.mem_replicate.1 g).2
   omega
  ·omega
theorem putS_ok {l:List Entry} {p t:Int} {more:List Entry} (h:(putS l p t more).2.2.Code=0) (ho:(putS l p t more).2.1=true):0≤p∧p≤(l.length:Int)∧(putS l p t more).1=put p.toNat l more∧(fof (put p.toNat l more)).Code=0:=by
 unfold putS at h ho ⊢
 by_cases c:(putF l p t more).Code=0
 ·obtain ⟨h1,h2,h3,h4,_⟩:=putF_good c
  rw [if_pos c] at h ho ⊢
  by_cases f:fits l p t
  ·rw [if_pos f] at h ho ⊢
   by_cases g:(fof (put p.toNat l more)).Code=0
   ·rw [if_pos g]; exact ⟨h4,f.1,rfl,g⟩
   ·rw [if_neg g] at h; exact absurd h g
  ·rw [if_neg f] at ho; cases ho
 ·rw [if_neg c] at h; exact absurd h c
structure Keeps (y z:Node) (ms:List Mail):Prop where
 g:NGood z
 i:z.ID=y.ID
 n:z.N=y.N
 t:z.Term=y.Term
 v:y.Vote≠0→z.Vote=y.Vote
 c:y.Commit≤z.Commit
 l:z.Log.take y.Commit.toNat=y.Log.take y.Commit.toNat
 m:∀ w∈ms,w.From=y.ID∧w.To≠y.ID∧(0≤w.To∧w.To<y.N)∧w.Term=y.Term
theorem takeK_keeps {y:Node} {m:Mail} (hg:NGood y) (hf:Fit y m) (ht:m.Term≤y.Term) (hfr:m.From≠y.ID) (hc0:0≤m.C0∧m.C0≤1000000000) (hlast:tat m.Entries (m.Entries.length:Int)≤m.Term):Keeps y (takeK y m).1 (takeK y m).2:=by
 have hff:=hf.f
 have hcm:=hf.c
 have han:∀ k a o,∀ w∈([ans y m k a o]:List Mail),w.From=y.ID∧w.To≠y.ID∧(0≤w.To∧w.To<y.N)∧w.Term=y.Term:=by
  intro k a o w hw
  rw [List.mem_singleton] at hw
  subst hw
  exact ⟨rfl,hfr,hff,rfl⟩
 have hno:∀ w∈([]:List Mail),w.From=y.ID∧w.To≠y.ID∧(0≤w.To∧w.To<y.N)∧w.Term=y.Term:=by simp
 have hself:∀ ms,(∀ w∈ms,w.From=y.ID∧w.To≠y.ID∧(0≤w.To∧w.To<y.N)∧w.Term=y.Term)→Keeps y y ms:=fun ms h=>⟨hg,rfl,rfl,rfl,fun _=>rfl,Int.le_refl _,rfl,h⟩
 have hfol:∀ ms,(∀ w∈ms,w.From=y.ID∧w.To≠y.ID∧(0≤w.To∧w.To<y.N)∧w.Term=y.Term)→Keeps y (fol y) ms:=fun ms h=>⟨fol_good hg,rfl,rfl,rfl,fun _=>rfl,Int.le_refl _,rfl,h⟩
 unfold takeK
 split
 ·unfold take1
  have hN:=hg.n1
  refine ⟨⟨hg.n1,hg.n7,hg.i0,hg.iN,hg.t0,hg.t1,?_,?_,hg.r0,hg.r2,hg.c0,hg.cl,hg.log,hg.last,hg.form⟩,rfl,rfl,rfl,?_,Int.le_refl _,rfl,han _ _ _⟩
  ·show 0≤(if askB y m then m.From+1 else y.Vote); split
   ·omega
   ·exact hg.v0
  ·show (if askB y m then m.From+1 else y.Vote)≤y.N; split
   ·omega
   ·exact hg.vN
  ·intro hv
   show (if askB y m then m.From+1 else y.Vote)=y.Vote
   split
   ·rename_i ha
    rcases ha.2.1 with g | g
    ·exact absurd g hv
    ·exact g.symm
   ·rfl
 ·split
  ·unfold take2
   split
   ·exact hself _ hno
   ·rename_i c1
    have hr:y.Role=1:=Classical.not_not.1 (fun g=>c1 (.inl g))
    split
    ·refine ⟨lead_good hg _,rfl,rfl,rfl,fun _=>rfl,?_,rfl,?_⟩
     ·show y.Commit≤((cntD _ _ _:Nat):Int)
      have:=(cntD_le (gd y.N y.Term y.Log ((List.replicate y.N.toNat (0:Int)).set y.ID.toNat (y.Log.length:Int))) y.Commit.toNat y.Log.length).1
      have h2:((y.Commit.toNat:Nat):Int)≤((cntD (gd y.N y.Term y.Log ((List.replicate y.N.toNat (0:Int)).set y.ID.toNat (y.Log.length:Int))) y.Commit.toNat y.Log.length:Nat):Int):=Int.ofNat_le.2 this
      have h3:((y.Commit.toNat:Nat):Int)=y.Commit:=by omega
      rw [h3] at h2; exact h2
     ·intro w hw
      obtain ⟨j,h1,h2,e⟩:=mls_mem hw
      subst e
      refine ⟨rfl,h2,⟨by show (0:Int)≤(j:Int); omega,by show (j:Int)<y.N; omega⟩,rfl⟩
    ·rename_i c2
     have hfo:=hg.form
     unfold formB at hfo
     rw [if_pos hr,if_neg (by omega)] at hfo
     simp only [Bool.and_eq_true,decide_eq_true_eq] at hfo
     obtain ⟨⟨⟨hv1,hv2⟩,hv3⟩,hv4,hv5⟩:=hfo
     refine ⟨⟨hg.n1,hg.n7,hg.i0,hg.iN,hg.t0,hg.t1,hg.v0,hg.vN,hg.r0,hg.r2,hg.c0,hg.cl,hg.log,hg.last,?_⟩,rfl,rfl,rfl,fun _=>rfl,Int.le_refl _,rfl,hno⟩
     have hvb:voteB y=true:=hv1
     unfold voteB at hvb
     have hvb:=of_decide_eq_true hvb
     have hnew:(∀ v∈vts y m,inW 0 (y.N - 1) v=true)∧(vts y m).Nodup:=by
      unfold vts
      split
      ·exact hvb
      ·rename_i hn
       refine ⟨fun v hv=>?_,nodup_snoc.2 ⟨hvb.2,hn⟩⟩
       rcases List.mem_append.1 hv with g | g
       ·exact hvb.1 v g
       ·rw [List.mem_singleton] at g; subst g; exact inW_iff.2 (by omega)
     have hidm:y.ID∈vts y m:=by
      unfold vts; split
      ·exact hv2
      ·exact List.mem_append_left _ hv2
     unfold formB
     have e1:(wv y (vts y m)).Role=1:=hr
     rw [if_pos e1,if_neg (show ¬ (wv y (vts y m)).Role=2 by rw [e1]; omega)]
     have e2:voteB (wv y (vts y m))=true:=by unfold voteB; exact decide_eq_true hnew
     simp only [Bool.and_eq_true,decide_eq_true_eq]
     refine ⟨⟨⟨e2,hidm⟩,?_⟩,hv4,hv5⟩
     simp only [Bool.not_eq_true',decide_eq_false_iff_not]; exact c2
  ·split
   ·unfold take3
    split
    ·exact hself _ (han _ _ _)
    ·rename_i c1
     split
     ·exact hself _ hno
     ·split
      ·exact hfol _ hno
      ·rename_i c3
       have c3:=Classical.not_not.1 c3
       split
       ·exact hfol _ (han _ _ _)
       ·rename_i c4
        rw [Bool.not_eq_false] at c4
        obtain ⟨p0,p1,p2,p3⟩:=putS_ok c3 c4
        split
        ·exact hfol _ hno
        ·rename_i c5
         have d1:¬ ((putS y.Log m.A m.B m.Entries).1.length:Int)<y.Commit:=fun g=>c5 (.inl g)
         have d2:(putS y.Log m.A m.B m.Entries).1.take y.Commit.toNat=y.Log.take y.Commit.toNat:=Classical.not_not.1 (fun g=>c5 (.inr g))
         rw [p2] at d1 d2 ⊢
         have hpl:=(put_len m.Entries m.A.toNat y.Log (by omega)).1
         refine ⟨⟨hg.n1,hg.n7,hg.i0,hg.iN,hg.t0,hg.t1,hg.v0,hg.vN,by show (0:Int)≤0; omega,by show (0:Int)≤2; omega,?_,?_,p3,?_,form0 _ rfl rfl rfl rfl⟩,rfl,rfl,rfl,fun _=>rfl,?_,d2,han _ _ _⟩
         ·show 0≤max _ _; omega
         ·show max y.Commit (min m.C0 (m.A+(m.Entries.length:Int)))≤((put m.A.toNat y.Log m.Entries).length:Int); omega
         ·show ¬ y.Term<tat (put m.A.toNat y.Log m.Entries) ((put m.A.toNat y.Log m.Entries).length:Int)
          have h1:=hg.last
          rcases put_last m.Entries m.A.toNat y.Log (by omega) with g | g
          ·rw [g]; exact h1
          ·rw [g]; omega
         ·show y.Commit≤max _ _; omega
   ·unfold take4
    split
    ·exact hself _ hno
    ·rename_i c1
     have hr:y.Role=2:=Classical.not_not.1 (fun g=>c1 (.inl g))
     obtain ⟨l1,l2,l3,l4,l5⟩:=hg.lead hr
     have hh:=l4 _ (lget_mem y.Have m.From (by omega))
     have hx:=l3 _ (lget_mem y.Next m.From (by omega))
     have ha:=hf.a
     split
     ·have hc:=cntD_le (gd y.N y.Term y.Log (hav y m)) y.Commit.toNat y.Log.length
      have hhl:(hav y m).length=y.Have.length:=by unfold hav; rw [lset_len]
      refine ⟨⟨hg.n1,hg.n7,hg.i0,hg.iN,hg.t0,hg.t1,hg.v0,hg.vN,hg.r0,hg.r2,?_,?_,hg.log,hg.last,form2 _ hr l5 ?_ ?_ ?_ ?_⟩,rfl,rfl,rfl,fun _=>rfl,?_,rfl,hno⟩
      ·show (0:Int)≤((cntD _ _ _:Nat):Int); omega
      ·show ((cntD (gd y.N y.Term y.Log (hav y m)) y.Commit.toNat y.Log.length:Nat):Int)≤(y.Log.length:Int); omega
      ·show ((lset _ _ _).length:Int)=y.N; rw [lset_len]; exact l1
      ·show ((hav y m).length:Int)=y.N; omega
      ·intro k hk
       show 1≤k∧k≤(y.Log.length:Int)+1
       rcases mem_lset hk with g | g
       ·exact l3 k g
       ·omega
      ·intro k hk
       show 0≤k∧k≤(y.Log.length:Int)
       have hk':k∈hav y m:=hk
       unfold hav at hk'
       rcases mem_lset hk' with g | g
       ·exact l4 k g
       ·omega
      ·show y.Commit≤((cntD (gd y.N y.Term y.Log (hav y m)) y.Commit.toNat y.Log.length:Nat):Int); omega
     ·refine ⟨⟨hg.n1,hg.n7,hg.i0,hg.iN,hg.t0,hg.t1,hg.v0,hg.vN,hg.r0,hg.r2,hg.c0,hg.cl,hg.log,hg.last,form2 _ hr l5 ?_ l2 ?_ l4⟩,rfl,rfl,rfl,fun _=>rfl,Int.le_refl _,rfl,hno⟩
      ·show ((lset _ _ _).length:Int)=y.N; rw [lset_len]; exact l1
      ·intro k hk
       show 1≤k∧k≤(y.Log.length:Int)+1
       rcases mem_lset hk with g | g
       ·exact l3 k g
       ·omega
theorem good_small {x:Node} (h:NGood x):Small x:=by
 have h1:=h.len
 have h2:=votes_small h
 have h3:=h.small
 exact ⟨by omega,by omega,by omega,by omega⟩
structure OkR (x r:Node) (ms:List Mail):Prop where
 g:NGood r
 n:r.N=x.N
 i:r.ID=x.ID
 t:(x.Role≠0→1≤x.Term)→r.Role≠0→1≤r.Term
 len:ms.length≤7
 m:∀ w∈ms,(0≤w.To∧w.To<x.N)∧w.Entries.length≤1000
theorem chk_snoc:∀ (l:List Entry) (last i:Int) (e:Entry),(chk l last i).Code=0→1≤e.Term→e.Term≤1000000000→(e.Text.length:Int)≤200→(l=[]→last≤e.Term)→(l≠[]→tat l (l.length:Int)≤e.Term)→(chk (l++[e]) last i).Code=0
 | [],last,i,e,h,h1,h2,h3,h4,h5=>by
  have:=h4 rfl
  rw [List.nil_append,chk,if_neg (by omega),if_neg (by omega),if_neg (by omega)]; rfl
 | a::l,last,i,e,h,h1,h2,h3,h4,h5=>by
  rw [chk] at h
  rw [List.cons_append,chk]
  by_cases c1:a.Term<1∨1000000000<a.Term
  ·rw [if_pos c1] at h; cases h
  ·rw [if_neg c1] at h ⊢
   by_cases c2:a.Term<last
   ·rw [if_pos c2] at h; cases h
   ·rw [if_neg c2] at h ⊢
    by_cases c3:200<(a.Text.length:Int)
    ·rw [if_pos c3] at h; cases h
    ·rw [if_neg c3] at h ⊢
     have h6:=h5 (by simp)
     refine chk_snoc l a.Term (i+1) e h h1 h2 h3 (fun hl=>?_) (fun hl=>?_)
     ·subst hl
      unfold tat at h6
      rw [if_neg (by simp)] at h6
      exact h6
     ·have hl1:1≤l.length:=by
       cases l with
       | nil=>exact absurd rfl hl
       | cons b r=>simp
      unfold tat at h6 ⊢
      rw [if_neg (by simp; omega)] at h6
      rw [if_neg (by omega)]
      have:lget (a::l) (((a::l).length:Int) - 1)=lget l ((l.length:Int) - 1):=by
       have e1:((a::l).length:Int) - 1=((l.length - 1+1:Nat):Int):=by rw [List.length_cons]; omega
       have e2:(l.length:Int) - 1=((l.length - 1:Nat):Int):=by omega
       rw [e1,e2,lget_nat (a::l) _ (by simp; omega),lget_nat l _ (by omega),List.getElem_cons_succ]
      rw [this] at h6; exact h6
theorem stand_ok {x:Node} (h:(standS x).2.2.Code=0):OkR x (standS x).1 (standS x).2.1:=by
 unfold standS at h ⊢
 by_cases c0:(nodeF x).Code=0
 ·have hg:=nodeF_good.1 c0
  rw [if_neg (not_not_intro c0)] at h ⊢
  by_cases c1:x.Role=2
  ·rw [if_pos c1] at h; cases h
  ·rw [if_neg c1] at h ⊢
   by_cases c2:x.Term=1000000000
   ·rw [if_pos c2] at h; cases h
   ·rw [if_neg c2] at h ⊢
    have h1:=hg.n1
    have h7:=hg.n7
    have hi0:=hg.i0
    have hin:=hg.iN
    have ht0:=hg.t0
    have ht1:=hg.t1
    have hml:=mls_len x.ID (askM x.ID (x.Term+1) x.Log) x.N.toNat
    have hlast:=hg.last
    have hm:∀ w∈mls x.ID (askM x.ID (x.Term+1) x.Log) x.N.toNat,(0≤w.To∧w.To<x.N)∧w.Entries.length≤1000:=by
     intro w hw
     obtain ⟨j,hj,_,e⟩:=mls_mem hw
     rw [e]
     exact ⟨⟨by show 0≤(j:Int); omega,by show (j:Int)<x.N; omega⟩,by simp [askM]⟩
    by_cases cn:x.N=1
    ·rw [if_pos cn]
     have hy:NGood ⟨x.N,x.ID,x.Term+1,x.ID+1,x.Log,0,x.Commit,[],[],[]⟩:=⟨hg.n1,hg.n7,hg.i0,hg.iN,by show 0≤x.Term+1; omega,by show x.Term+1≤1000000000; omega,by show 0≤x.ID+1; omega,by show x.ID+1≤x.N; omega,by show (0:Int)≤0; omega,by show (0:Int)≤2; omega,hg.c0,hg.cl,hg.log,by show ¬ x.Term+1<tat x.Log (x.Log.length:Int); omega,form0 _ rfl rfl rfl rfl⟩
     have hl:=lead_good hy [x.ID]
     exact ⟨hl,rfl,rfl,fun _ _=>by show 1≤x.Term+1; omega,by dsimp only; omega,hm⟩
    ·rw [if_neg cn]
     refine ⟨⟨hg.n1,hg.n7,hg.i0,hg.iN,by show 0≤x.Term+1; omega,by show x.Term+1≤1000000000; omega,by show 0≤x.ID+1; omega,by show x.ID+1≤x.N; omega,by show (0:Int)≤1; omega,by show (1:Int)≤2; omega,hg.c0,hg.cl,hg.log,by show ¬ x.Term+1<tat x.Log (x.Log.length:Int); omega,?_⟩,rfl,rfl,fun _ _=>by show 1≤x.Term+1; omega,by dsimp only; omega,hm⟩
     have hv:voteB (stX x)=true:=by
      unfold voteB
      refine decide_eq_true ⟨?_,by simp [stX]⟩
      intro v hv
      simp only [stX,List.mem_singleton] at hv
      subst hv
      exact inW_iff.2 ⟨hi0,by show x.ID≤x.N - 1; omega⟩
     have e1:(decide ((stX x).ID∈(stX x).Votes))=true:=decide_eq_true (by simp [stX])
     have e2:(!decide ((stX x).N<2*(((stX x).Votes).length:Int)))=true:=by
      rw [decide_eq_false (show ¬ (stX x).N<2*(((stX x).Votes).length:Int) by simp [stX]; omega)]; rfl
     show formB (stX x)=true
     unfold formB
     rw [if_pos (show (stX x).Role=1 from rfl),if_neg (show ¬ (stX x).Role=2 from show ¬ (1:Int)=2 by decide),hv,e1,e2]
     rfl
 ·rw [if_pos c0] at h; exact absurd h c0
theorem rest_ok {x:Node} (h:(restS x).2.Code=0):OkR x (restS x).1 []:=by
 unfold restS at h ⊢
 by_cases c0:(nodeF x).Code=0
 ·have hg:=nodeF_good.1 c0
  have hc:=hg.c0
  have hcl:=hg.cl
  rw [if_neg (not_not_intro c0)]
  exact ⟨⟨hg.n1,hg.n7,hg.i0,hg.iN,hg.t0,hg.t1,hg.v0,hg.vN,by show (0:Int)≤0; omega,by show (0:Int)≤2; omega,by show (0:Int)≤0; omega,by show (0:Int)≤(x.Log.length:Int); omega,hg.log,hg.last,form0 _ rfl rfl rfl rfl⟩,rfl,rfl,fun _ g=>absurd rfl g,by simp,fun w hw=>by cases hw⟩
 ·rw [if_pos c0] at h; exact absurd h c0
theorem beat_ok {x:Node} (h:(beatS x).2.Code=0):OkR x x (beatS x).1:=by
 unfold beatS at h ⊢
 by_cases c0:(nodeF x).Code=0
 ·have hg:=nodeF_good.1 c0
  rw [if_neg (not_not_intro c0)] at h ⊢
  by_cases c1:x.Role=2
  ·rw [if_neg (not_not_intro c1)]
   have h1:=hg.n1
   have h7:=hg.n7
   have hml:=mls_len x.ID (bringM x) x.N.toNat
   have hl:=hg.len
   refine ⟨hg,rfl,rfl,fun g=>g,by dsimp only; omega,fun w hw=>?_⟩
   obtain ⟨j,hj,_,e⟩:=mls_mem hw
   rw [e]
   refine ⟨⟨by show 0≤(j:Int); omega,by show (j:Int)<x.N; omega⟩,?_⟩
   simp [bringM]; omega
  ·rw [if_pos c1] at h; cases h
 ·rw [if_pos c0] at h; exact absurd h c0
theorem prop_ok {x:Node} {text:List UInt8} (ht:x.Role≠0→1≤x.Term) (h:(propS x text).2.Code=0):OkR x (propS x text).1 []:=by
 unfold propS at h ⊢
 by_cases c0:(nodeF x).Code=0
 ·have hg:=nodeF_good.1 c0
  rw [if_neg (not_not_intro c0)] at h ⊢
  by_cases c1:x.Role=2
  ·rw [if_neg (not_not_intro c1)] at h ⊢
   by_cases c2:200<text.length
   ·rw [if_pos c2] at h; cases h
   ·rw [if_neg c2] at h ⊢
    by_cases c3:x.Log.length=100
    ·rw [if_pos c3] at h; cases h
    ·rw [if_neg c3]
     have ht1:=ht (by omega)
     have hl:=hg.len
     have h1:=hg.n1
     have h7:=hg.n7
     have hi0:=hg.i0
     have hin:=hg.iN
     have hlast:=hg.last
     obtain ⟨hn,hh,hnb,hhb,hv0⟩:=hg.lead c1
     have hcd:=cntD_le (gd x.N x.Term (x.Log++[⟨x.Term,text⟩]) (lset x.Have x.ID ((x.Log.length:Int)+1))) x.Commit.toNat (x.Log.length+1)
     have hcl:=hg.cl
     have hc0:=hg.c0
     have hlog:(fof (x.Log++[⟨x.Term,text⟩])).Code=0:=by
      have hf:=hg.log
      unfold fof at hf ⊢
      rw [if_neg (by omega)] at hf
      rw [if_neg (by rw [List.length_append]; simp; omega)]
      refine chk_snoc x.Log 0 0 ⟨x.Term,text⟩ hf ht1 hg.t1 (by show (text.length:Int)≤200; omega) (fun _=>by show 0≤x.Term; omega) (fun _=>by show _≤x.Term; omega)
     have hlt:¬ x.Term<tat (x.Log++[⟨x.Term,text⟩]) ((x.Log++[(⟨x.Term,text⟩:Entry)]).length:Int):=by
      unfold tat
      rw [if_neg (by rw [List.length_append]; simp; omega)]
      rw [lget_app_r _ _ _ (by rw [List.length_append]; simp)]
      have:((x.Log++[(⟨x.Term,text⟩:Entry)]).length:Int) - 1 - (x.Log.length:Int)=0:=by simp
      rw [this]
      show ¬ x.Term<x.Term
      omega
     refine ⟨⟨hg.n1,hg.n7,hg.i0,hg.iN,hg.t0,hg.t1,hg.v0,hg.vN,hg.r0,hg.r2,?_,?_,hlog,hlt,?_⟩,rfl,rfl,fun _ _=>ht1,by simp,fun w hw=>by cases hw⟩
     ·show (0:Int)≤((_:Nat):Int); omega
     ·show ((_:Nat):Int)≤((x.Log++[(⟨x.Term,text⟩:Entry)]).length:Int)
      rw [List.length_append]
      simp only [List.length_singleton]
      omega
     ·have hv:x.Votes=[]:=by
       have hf:=hg.form
       unfold formB at hf
       rw [if_neg (show ¬ x.Role=1 by omega)] at hf
       simp only [Bool.and_eq_true,decide_eq_true_eq] at hf
       exact List.eq_nil_of_length_eq_zero hf.1
      refine form2 _ c1 hv (by show ((lset x.Next _ _).length:Int)=x.N; rw [lset_len]; exact hn) (by show ((lset x.Have _ _).length:Int)=x.N; rw [lset_len]; exact hh) (fun k hk=>?_) (fun k hk=>?_)
      ·have hlen:((x.Log++[(⟨x.Term,text⟩:Entry)]).length:Int)=(x.Log.length:Int)+1:=by rw [List.length_append]; simp
       show 1≤k∧k≤((x.Log++[(⟨x.Term,text⟩:Entry)]).length:Int)+1
       rw [hlen]
       rcases mem_lset hk with g | g
       ·have:=hnb k g; omega
       ·omega
      ·have hlen:((x.Log++[(⟨x.Term,text⟩:Entry)]).length:Int)=(x.Log.length:Int)+1:=by rw [List.length_append]; simp
       show 0≤k∧k≤((x.Log++[(⟨x.Term,text⟩:Entry)]).length:Int)
       rw [hlen]
       rcases mem_lset hk with g | g
       ·have:=hhb k g; omega
       ·omega
  ·rw [if_pos c1] at h; cases h
 ·rw [if_pos c0] at h; exact absurd h c0
theorem takeK_role {y:Node} {m:Mail} (h:(takeK y m).1.Role≠0):y.Role≠0:=by
 intro hy
 apply h
 unfold takeK
 split
 ·exact hy
 split
 ·unfold take2
  rw [if_pos (Or.inl (by omega))]; exact hy
 split
 ·unfold take3
  repeat' split
  all_goals first | rfl | exact hy
 ·unfold take4
  rw [if_pos (Or.inl (by omega))]; exact hy
theorem take_ok {x:Node} {m:Mail} (h:(takeS x m).2.2.Code=0):OkR x (takeS x m).1 (takeS x m).2.1:=by
 have ct:(takF x m).Code=0:=by
  apply Decidable.byContradiction
  intro c
  unfold takeS at h
  rw [if_neg c] at h
  exact c h
 obtain ⟨hg,hf,hz⟩:=takF_zero ct
 obtain ⟨hbg,hbt⟩:=bas_good hg hf
 have hfit:=bas_fit hg hf
 have hbi:(bas x m).ID=x.ID:=by unfold bas; split <;> rfl
 have hbn:(bas x m).N=x.N:=by unfold bas; split <;> rfl
 have hK:=takeK_keeps hbg hfit hbt (by rw [hbi]; exact hf.2.2.1) hf.2.2.2.2.2.2.2.1 hf.2.2.2.2.2.2.2.2.2.2.2
 obtain ⟨hml,hme⟩:=takeK_mails hfit
 unfold takeS
 rw [if_pos ct]
 refine ⟨hK.g,hK.n.trans hbn,hK.i.trans hbi,fun hx hr=>?_,hml,fun w hw=>⟨?_,hme w hw⟩⟩
 ·have h1:=takeK_role hr
  have h2:=hK.t
  show 1≤(takeK (bas x m) m).1.Term
  rw [h2]
  unfold bas at h1 ⊢
  by_cases c:x.Term<m.Term
  ·rw [if_pos c] at h1; exact absurd rfl h1
  ·rw [if_neg c] at h1 ⊢; exact hx h1
 ·have:=(hK.m w hw).2.2.1
  rw [hbn] at this; exact this
theorem node_eta (x:Node):(⟨x.N,x.ID,x.Term,x.Vote,x.Log,x.Role,x.Commit,x.Votes,x.Next,x.Have⟩:Node)=x:=rfl
def tx (n:Node):List (List UInt8):=(n.Log.take n.Commit.toNat).map (fun e=>e.Text)
def best (l:List Node):Nat→Node
 | 0=>nE
 | k+1=>if (best l k).Commit<(lget l (k:Int)).Commit then lget l (k:Int) else best l k
theorem goodJ1_eq (v:Node) (hc:0≤v.Commit∧v.Commit≤(v.Log.length:Int)) (hl:v.Log.length≤1000):clan_Good_v1_J1 v=some (tx v,⟨0,0⟩):=by
 unfold clan_Good_v1_J1
 rw [asrt_pos hc]
 have hL:(ltake v.Log v.Commit).length=v.Commit.toNat:=by unfold ltake; rw [List.length_take]; omega
 have:=loop_run (step:=fun y=>clan_Good_v1_B1 v y) v.Commit.toNat (fun k=>(((v.Log.take k).map (fun e=>e.Text)),(k:Int))) (r:=(tx v,⟨0,0⟩))
  (fun k hk=>by
   have hw:w64 ((k:Int)+1)=((k+1:Nat):Int):=by rw [w64_id (by omega) (by omega)]; omega
   have hg:=lget_ltake v.Log v.Commit (k:Int) (by omega)
   show clan_Good_v1_B1 v (_,(k:Int))=_
   unfold clan_Good_v1_B1
   dsimp only
   rw [hL,if_pos (d_t (by omega)),asrt_pos (by omega),hg,asrt_pos (by rw [List.length_append,List.length_singleton,List.length_map,List.length_take]; omega),hw,lget_take v.Log k (by omega),List.map_append]
   rfl)
  (by
   show clan_Good_v1_B1 v (_,((v.Commit.toNat:Nat):Int))=_
   unfold clan_Good_v1_B1
   dsimp only
   rw [hL,if_neg (d_f (by omega))]; rfl)
 exact this
theorem best_good (l:List Node) (k:Nat) (hk:k≤l.length):best l k=nE∨best l k∈l:=by
 induction k with
 | zero=>exact .inl rfl
 | succ k ih=>
  rw [best]
  split
  ·exact .inr (lget_mem l (k:Int) (by omega))
  ·exact ih (by omega)
theorem first_bad (p:Nat→Prop):∀ n,(¬ ∀ j,j<n→p j)→∃ j,j<n∧¬ p j∧∀ i,i<j→p i
 | 0,h=>absurd (fun j hj=>by omega) h
 | n+1,h=>by
  by_cases c:∀ j,j<n→p j
  ·refine ⟨n,by omega,fun hp=>h (fun j hj=>?_),c⟩
   by_cases e:j=n
   ·rw [e]; exact hp
   ·exact c j (by omega)
  ·obtain ⟨j,h1,h2,h3⟩:=first_bad p n c
   exact ⟨j,by omega,h2,h3⟩
theorem good_eq (c:Clan) (h7:c.Nodes.length≤7) (hs:∀ n∈c.Nodes,Small n) :
  (∃ j,j<c.Nodes.length∧¬ (nodeF (lget c.Nodes (j:Int))).Code=0∧(∀ i,i<j→(nodeF (lget c.Nodes (i:Int))).Code=0)∧clan_Good_v1 c=some ([],⟨(nodeF (lget c.Nodes (j:Int))).Code,j⟩))∨
  ((∀ j,j<c.Nodes.length→(nodeF (lget c.Nodes (j:Int))).Code=0)∧clan_Good_v1 c=some (tx (best c.Nodes c.Nodes.length),⟨0,0⟩)):=by
 have hchk:∀ k:Nat,k<c.Nodes.length→raft_Check (lget c.Nodes (k:Int))=some (nodeF (lget c.Nodes (k:Int))):=fun k hk=>(hs _ (lget_mem c.Nodes (k:Int) (by omega))).check
 have stp:∀ k:Nat,k<c.Nodes.length→(nodeF (lget c.Nodes (k:Int))).Code=0→clan_Good_v1_B2 c (best c.Nodes k,(k:Int))=some (.inl (best c.Nodes (k+1),((k+1:Nat):Int))):=by
  intro k hk hz
  have hw:w64 ((k:Int)+1)=((k+1:Nat):Int):=by rw [w64_id (by omega) (by omega)]; omega
  unfold clan_Good_v1_B2
  dsimp only
  rw [if_pos (d_t (by omega)),asrt_pos (by omega),node_eta,hchk k hk,ob_some,if_neg (n_f hz),best,hw]
  by_cases g:(best c.Nodes k).Commit<(lget c.Nodes (k:Int)).Commit
  ·rw [if_pos (d_t g),ob_some,if_pos g]
  ·rw [if_neg (d_f g),ob_some,if_neg g]
 by_cases hall:∀ j,j<c.Nodes.length→(nodeF (lget c.Nodes (j:Int))).Code=0
 ·refine .inr ⟨hall,?_⟩
  unfold clan_Good_v1
  rw [if_neg (d_f (by omega))]
  refine loop_run (step:=fun y=>clan_Good_v1_B2 c y) c.Nodes.length (fun k=>(best c.Nodes k,(k:Int))) (fun k hk=>stp k hk (hall k hk)) ?_
  show clan_Good_v1_B2 c (best c.Nodes c.Nodes.length,(c.Nodes.length:Int))=_
  unfold clan_Good_v1_B2
  dsimp only
  rw [if_neg (d_f (by omega))]
  have hb:clan_Good_v1_J1 (best c.Nodes c.Nodes.length)=some (tx (best c.Nodes c.Nodes.length),⟨0,0⟩):=by
   rcases best_good c.Nodes c.Nodes.length (Nat.le_refl _) with h | h
   ·rw [h]; exact goodJ1_eq nE (by simp [nE]) (by simp [nE])
   ·obtain ⟨k,hk,e⟩:=mem_lget.1 h
    have hg:=nodeF_good.1 (hall k hk)
    rw [← e]
    exact goodJ1_eq _ ⟨hg.c0,hg.cl⟩ (by have:=hg.len; omega)
  rw [hb]; rfl
 ·obtain ⟨j,h1,h2,h3⟩:=first_bad _ _ hall
  refine .inl ⟨j,h1,h2,h3,?_⟩
  unfold clan_Good_v1
  rw [if_neg (d_f (by omega))]
  refine loop_run (step:=fun y=>clan_Good_v1_B2 c y) j (fun k=>(best c.Nodes k,(k:Int))) (fun k hk=>stp k (by omega) (h3 k hk)) ?_
  show clan_Good_v1_B2 c (best c.Nodes j,(j:Int))=_
  unfold clan_Good_v1_B2
  dsimp only
  rw [if_pos (d_t (by omega)),asrt_pos (by omega),node_eta,hchk j h1,ob_some,if_pos (n_t h2)]; rfl
theorem mail_eta (m:Mail):(⟨m.Kind,m.From,m.To,m.Term,m.A,m.B,m.C0,m.Entries,m.Ok⟩:Mail)=m:=rfl
def act (ns:List Node) (way:List Mail) (who:Int) (r:Node×List Mail×Fault):List Node×List Mail:=if r.2.2.Code=0 then (lset ns who r.1,way++r.2.1) else (ns,way)
noncomputable def deedC (texts:List (List UInt8)) (d:Deed) (ns:List Node) (way:List Mail) (k:Nat):List Node×List Mail×Nat:=
 if d.Kind=0 then ((act ns way d.Who (standS (lget ns d.Who))).1,(act ns way d.Who (standS (lget ns d.Who))).2,k)
 else if d.Kind=1 then ((act ns way d.Who ((propS (lget ns d.Who) (lget texts (k:Int))).1,[],(propS (lget ns d.Who) (lget texts (k:Int))).2)).1,(act ns way d.Who ((propS (lget ns d.Who) (lget texts (k:Int))).1,[],(propS (lget ns d.Who) (lget texts (k:Int))).2)).2,if (propS (lget ns d.Who) (lget texts (k:Int))).2.Code=0 then k+1 else k)
 else if d.Kind=2 then ((act ns way d.Who (lget ns d.Who,(beatS (lget ns d.Who)).1,(beatS (lget ns d.Who)).2)).1,(act ns way d.Who (lget ns d.Who,(beatS (lget ns d.Who)).1,(beatS (lget ns d.Who)).2)).2,k)
 else if d.Kind=3 then ((act ns (way.eraseIdx d.N.toNat) (lget way d.N).To (takeS (lget ns (lget way d.N).To) (lget way d.N))).1,(act ns (way.eraseIdx d.N.toNat) (lget way d.N).To (takeS (lget ns (lget way d.N).To) (lget way d.N))).2,k)
 else if d.Kind=4 then (ns,way++[lget way d.N],k)
 else if d.Kind=5 then (ns,way.eraseIdx d.N.toNat,k)
 else ((act ns way d.Who ((restS (lget ns d.Who)).1,[],(restS (lget ns d.Who)).2)).1,(act ns way d.Who ((restS (lget ns d.Who)).1,[],(restS (lget ns d.Who)).2)).2,k)
def badC (texts:List (List UInt8)) (d:Deed) (ns:List Node) (way:List Mail) (k:Nat):Int:=
 if d.Kind<0∨6<d.Kind then 4
 else if ((3≤d.Kind∧d.Kind≤5)∧(d.N<0∨(way.length:Int)≤d.N))∨(¬ (3≤d.Kind∧d.Kind≤5)∧(d.Who<0∨(ns.length:Int)≤d.Who)) then 3
 else if d.Kind=1∧texts.length≤k then 6
 else 0
noncomputable def stepC (texts:List (List UInt8)) (d:Deed) (ns:List Node) (way:List Mail) (k:Nat):List Node×List Mail×Nat×Int:=
 if badC texts d ns way k≠0 then (ns,way,k,badC texts d ns way k)
 else ((deedC texts d ns way k).1,(deedC texts d ns way k).2.1,(deedC texts d ns way k).2.2,if 200<(deedC texts d ns way k).2.1.length then 9 else 0)
structure GI (n:Nat) (ns:List Node) (way:List Mail):Prop where
 h1:1≤n
 h7:n≤7
 len:ns.length=n
 nd:∀ i:Nat,i<n→NGood (lget ns (i:Int))∧(lget ns (i:Int)).N=(n:Int)∧(lget ns (i:Int)).ID=(i:Int)∧((lget ns (i:Int)).Role≠0→1≤(lget ns (i:Int)).Term)
 mails:∀ m∈way,(0≤m.To∧m.To<(n:Int))∧m.Entries.length≤1000
theorem GI.at {n:Nat} {ns:List Node} {way:List Mail} (h:GI n ns way) {w:Int} (hw:0≤w∧w<(n:Int)):NGood (lget ns w)∧(lget ns w).N=(n:Int)∧(lget ns w).ID=w∧((lget ns w).Role≠0→1≤(lget ns w).Term):=by
 have:=h.nd w.toNat (by omega)
 rwa [show ((w.toNat:Nat):Int)=w by omega] at this
theorem GI.less {n:Nat} {ns:List Node} {way way':List Mail} (h:GI n ns way) (hs:∀ m∈way',m∈way):GI n ns way':=⟨h.h1,h.h7,h.len,h.nd,fun m hm=>h.mails m (hs m hm)⟩
theorem GI.act {n:Nat} {ns:List Node} {way:List Mail} (h:GI n ns way) {w:Int} (hw:0≤w∧w<(n:Int)) {r:Node×List Mail×Fault} (hr:r.2.2.Code=0→OkR (lget ns w) r.1 r.2.1):GI n (act ns way w r).1 (act ns way w r).2∧(act ns way w r).2.length≤way.length+7:=by
 unfold G.act
 by_cases c:r.2.2.Code=0
 ·obtain ⟨g,hn,hi,ht,hl,hm⟩:=hr c
  obtain ⟨x1,x2,x3,x4⟩:=h.at hw
  rw [if_pos c]
  refine ⟨⟨h.h1,h.h7,by rw [lset_len]; exact h.len,fun i hi2=>?_,fun m hm2=>?_⟩,by rw [List.length_append]; omega⟩
  ·rw [lget_lset _ _ _ _ (by have:=h.len; omega) (by omega)]
   by_cases e:(i:Int)=w
   ·rw [if_pos e]
    exact ⟨g,hn.trans x2,by rw [hi,x3,e],ht x4⟩
   ·rw [if_neg e]; exact h.nd i hi2
  ·rcases List.mem_append.1 hm2 with g2 | g2
   ·exact h.mails m g2
   ·have:=hm m g2
    rw [x2] at this; exact this
 ·rw [if_neg c]
  exact ⟨h,by dsimp only; omega⟩
theorem without_eq (l:List Mail) (hl:l.length≤100000) (j:Nat):R_Without l (j:Int)=some (l.eraseIdx j):=by
 unfold R_Without
 have e0:(([]:List Mail),(0:Int))=((l.take 0).eraseIdx j,((0:Nat):Int)):=by simp
 rw [e0]
 refine loop_run (step:=fun y=>R_Without_B1 l (j:Int) y) l.length (fun k=>((l.take k).eraseIdx j,(k:Int))) (fun k hk=>?_) ?_
 ·have hw:w64 ((k:Int)+1)=((k+1:Nat):Int):=by rw [w64_id (by omega) (by omega)]; omega
  have htl:(l.take k).length=k:=by rw [List.length_take]; omega
  have hel:((l.take k).eraseIdx j).length≤k:=by
   have:=List.length_eraseIdx_le (l.take k) j
   omega
  show R_Without_B1 l (j:Int) (_,(k:Int))=_
  unfold R_Without_B1
  dsimp only [lt]
  rw [if_pos (d_t (by omega)),mail_eta,hw]
  by_cases c:(k:Int)=(j:Int)
  ·have e:j=k:=by omega
   subst e
   rw [if_neg (n_f c),ob_some,lget_take l j hk,List.eraseIdx_append_of_length_le (by omega),htl,Nat.sub_self]
   have:(l.take j).eraseIdx j=l.take j:=List.eraseIdx_of_length_le (by omega)
   rw [this]; simp
  ·rw [if_pos (n_t c),asrt_pos (by omega),asrt_pos (by rw [List.length_append]; simp; omega),ob_some,lget_take l k hk]
   congr 3
   by_cases g:j<k
   ·rw [List.eraseIdx_append_of_lt_length (by omega)]
   ·rw [List.eraseIdx_append_of_length_le (by omega),htl,List.eraseIdx_of_length_le (by omega:(l.take k).length≤j)]
    congr 1
    exact (List.eraseIdx_of_length_le (by simp; omega)).symm
 ·show R_Without_B1 l (j:Int) (_,(l.length:Int))=_
  unfold R_Without_B1
  dsimp only
  rw [if_neg (d_f (by omega)),List.take_length]
  rfl
theorem del_eq (l:List Mail) (hl:l.length≤100000) (j:Nat) (hj:j<l.length):slices_Delete_api_Mail_api_Mail_v2 (j:Int) (w64 ((j:Int)+1)) l=some (l.eraseIdx j):=by
 have hw:w64 ((j:Int)+1)=((j+1:Nat):Int):=by rw [w64_id (by omega) (by omega)]; omega
 have hX:l.take (j:Int).toNat++((l.drop ((j+1:Nat):Int).toNat).take (l.length - ((j+1:Nat):Int).toNat))=l.eraseIdx j:=by
  have e:(l.drop (j+1)).take (l.length - (j+1))=l.drop (j+1):=List.take_of_length_le (by rw [List.length_drop]; omega)
  rw [Int.toNat_natCast,Int.toNat_natCast,e,List.eraseIdx_eq_take_drop_succ]
 have hXl:(l.eraseIdx j).length=l.length - 1:=List.length_eraseIdx_of_lt hj
 unfold slices_Delete_api_Mail_api_Mail_v2
 rw [hw,hX,asrt_pos (by omega),if_neg (d_f (by omega)),asrt_pos (by omega),asrt_pos (by omega),asrt_pos (by omega),asrt_pos (by omega),asrt_pos (by omega),asrt_pos (by rw [List.length_map]; omega)]
 dsimp only [lt]
 have hcl:∀ (n:Nat) (z:Mail),lclear (l.eraseIdx j) ((l.eraseIdx j).length:Int).toNat n z=l.eraseIdx j:=by
  intro n z
  unfold lclear
  rw [Int.toNat_natCast,List.take_length,Nat.sub_self,Nat.min_zero,List.drop_eq_nil_of_le (by omega)]
  simp
 rw [hcl]
def BX (o:List Node×List Mail) (c:Int) (box:List (List UInt8)):Bool×List Node×List Mail×List (List UInt8):=(decide (c=0),o.1,o.2,box)
theorem fin12 {ns:List Node} {way:List Mail} {who:Int} (hw:0≤who∧who<(ns.length:Int)) (hl:way.length≤1000) (r:Node×List Mail×Fault) (hr:r.2.1.length≤1000) (box:List (List UInt8)) :
  (if (!decide (r.2.2.Code=0))=true then some (false,ns,way,box) else asrt (((way++r.2.1).length:Int)*88≤140737488351232) <| asrt (0≤who∧who<(ns.length:Int)) <| asrt (0≤who∧who<(ns.length:Int)) <| some (true,lset ns who r.1,way++r.2.1,box))=some (BX (act ns way who r) r.2.2.Code box):=by
 unfold BX act
 by_cases c:r.2.2.Code=0
 ·rw [if_neg (n_f c),if_pos c,asrt_pos (by rw [List.length_append]; omega),asrt_pos hw,asrt_pos hw,decide_eq_true c]
 ·rw [if_pos (n_t c),if_neg c,decide_eq_false c]
theorem len12 {x:Node} {r:Node×List Mail×Fault} (h:r.2.2.Code=0→OkR x r.1 r.2.1) (h0:r.2.2.Code≠0→r.2.1=[]):r.2.1.length≤1000:=by
 by_cases c:r.2.2.Code=0
 ·have:=(h c).len; omega
 ·rw [h0 c]; exact Nat.zero_le _
theorem stand_l (x:Node):(standS x).2.1.length≤1000:=by
 refine len12 (x:=x) stand_ok fun c=>?_
 unfold standS at c ⊢
 by_cases a:¬ (nodeF x).Code=0
 ·rw [if_pos a]
 ·rw [if_neg a] at c ⊢
  by_cases b:x.Role=2
  ·rw [if_pos b]
  ·rw [if_neg b] at c ⊢
   by_cases d:x.Term=1000000000
   ·rw [if_pos d]
   ·rw [if_neg d] at c; exact absurd rfl c
theorem beat_l (x:Node):(beatS x).1.length≤1000:=by
 refine len12 (x:=x) (r:=(x,(beatS x).1,(beatS x).2)) beat_ok fun c=>?_
 dsimp only at c ⊢
 unfold beatS at c ⊢
 by_cases a:¬ (nodeF x).Code=0
 ·rw [if_pos a]
 ·rw [if_neg a] at c ⊢
  by_cases b:¬ x.Role=2
  ·rw [if_pos b]
  ·rw [if_neg b] at c; exact absurd rfl c
theorem take_l (x:Node) (m:Mail):(takeS x m).2.1.length≤1000:=by
 refine len12 (x:=x) take_ok fun c=>?_
 unfold takeS at c ⊢
 by_cases a:(takF x m).Code=0
 ·rw [if_pos a] at c; exact absurd rfl c
 ·rw [if_neg a]
theorem n5_eq {ns:List Node} {way:List Mail} {who:Int} (hw:0≤who∧who<(ns.length:Int)) (hl:way.length≤1000) (hs:Small (lget ns who)) (box:List (List UInt8)):clan_game_node_v5 who box ns way=some (BX (act ns way who (standS (lget ns who))) (standS (lget ns who)).2.2.Code box):=by
 unfold clan_game_node_v5
 rw [asrt_pos hw,asrt_pos hw,node_eta,stand_eq hs,ob_some]
 exact fin12 hw hl (standS (lget ns who)) (stand_l _) box
theorem n6_eq {ns:List Node} {way:List Mail} {who:Int} (hw:0≤who∧who<(ns.length:Int)) (hl:way.length≤1000) (hs:Small (lget ns who)) (box:List (List UInt8)) (hb:0<box.length):clan_game_node_v6 who box ns way=some (BX (act ns way who ((propS (lget ns who) (lget box 0)).1,[],(propS (lget ns who) (lget box 0)).2)) (propS (lget ns who) (lget box 0)).2.Code box):=by
 unfold clan_game_node_v6 clan_game_does_1_v1
 rw [asrt_pos hw,asrt_pos hw,asrt_pos (by omega),node_eta,propose_eq hs,ob_some,ob_some]
 exact fin12 hw hl ((propS (lget ns who) (lget box 0)).1,[],(propS (lget ns who) (lget box 0)).2) (Nat.zero_le _) box
theorem n7_eq {ns:List Node} {way:List Mail} {who:Int} (hw:0≤who∧who<(ns.length:Int)) (hl:way.length≤1000) (hs:Small (lget ns who)) (box:List (List UInt8)):clan_game_node_v7 who box ns way=some (BX (act ns way who (lget ns who,(beatS (lget ns who)).1,(beatS (lget ns who)).2)) (beatS (lget ns who)).2.Code box):=by
 unfold clan_game_node_v7 clan_game_does_2
 rw [asrt_pos hw,asrt_pos hw,node_eta,beat_eq hs,ob_some,ob_some]
 exact fin12 hw hl (lget ns who,(beatS (lget ns who)).1,(beatS (lget ns who)).2) (beat_l _) box
theorem n8_eq {ns:List Node} {way:List Mail} {who:Int} (hw:0≤who∧who<(ns.length:Int)) (hl:way.length≤1000) (hs:Small (lget ns who)) (box:List (List UInt8)):clan_game_node_v8 who box ns way=some (BX (act ns way who ((restS (lget ns who)).1,[],(restS (lget ns who)).2)) (restS (lget ns who)).2.Code box):=by
 unfold clan_game_node_v8 clan_game_does_4
 rw [asrt_pos hw,asrt_pos hw,node_eta,rest_eq hs,ob_some,ob_some]
 have e:(⟨(restS (lget ns who)).1.N,(restS (lget ns who)).1.ID,(restS (lget ns who)).1.Term,(restS (lget ns who)).1.Vote,(restS (lget ns who)).1.Log,(restS (lget ns who)).1.Role,(restS (lget ns who)).1.Commit,[],[],[]⟩:Node)=(restS (lget ns who)).1:=by
  unfold restS
  split <;> rfl
 have:=fin12 hw hl ((restS (lget ns who)).1,[],(restS (lget ns who)).2) (Nat.zero_le _) box
 dsimp only [n8,lt]
 rw [e]
 exact this
theorem n3_eq {ns:List Node} {way:List Mail} {who:Int} (hw:0≤who∧who<(ns.length:Int)) (hl:way.length≤1000) (hs:Small (lget ns who)) (box:List (List UInt8)) (m:Mail) (hm:m.Entries.length≤1000000):clan_game_node_v3 who box m ns way=some (BX (act ns way who (takeS (lget ns who) m)) (takeS (lget ns who) m).2.2.Code box):=by
 unfold clan_game_node_v3 clan_game_does_3
 rw [asrt_pos hw,asrt_pos hw,node_eta,take_eq hs m hm,ob_some,ob_some]
 exact fin12 hw hl (takeS (lget ns who) m) (take_l _ _) box
theorem does_J2 (o:List Node×List Mail) (box:List (List UInt8)):clan_game_does_v1_J2 (o.1,o.2,box)=some (if 200<o.2.length then 9 else 0,o.1,o.2,box):=by
 unfold clan_game_does_v1_J2
 by_cases c:200<o.2.length
 ·rw [if_pos (d_t (by dsimp only; omega)),if_pos c]
 ·rw [if_neg (d_f (by dsimp only; omega)),if_neg c]
theorem box_at (texts:List (List UInt8)) (k:Nat) (hk:k<texts.length):lget (texts.drop k) 0=lget texts (k:Int):=by
 have:=lget_ldrop texts (k:Int) 0 (by omega)
 rw [ldrop_nat,Int.add_zero] at this
 exact this
theorem does_eq {n:Nat} {ns:List Node} {way:List Mail} (h:GI n ns way) (hw:way.length≤200) (texts:List (List UInt8)) (ht:texts.length≤1000) (d:Deed) (k:Nat) :
  clan_game_does_v1 d (texts.drop k) ns way=some ((stepC texts d ns way k).2.2.2,(stepC texts d ns way k).1,(stepC texts d ns way k).2.1,texts.drop (stepC texts d ns way k).2.2.1):=by
 have hlen:=h.len
 have h1:=h.h1
 unfold clan_game_does_v1 stepC
 have e1:(if (decide (d.Kind=0))=true then some (decide (d.Kind=0)) else if (decide (d.Kind=1))=true then some (decide (d.Kind=1)) else if (decide (d.Kind=2))=true then some (decide (d.Kind=2)) else some (decide (d.Kind=6)))=some (decide (d.Kind=0∨d.Kind=1∨d.Kind=2∨d.Kind=6)):=by
  by_cases c0:d.Kind=0
  ·simp [c0]
  ·by_cases c1:d.Kind=1
   ·simp [c1]
   ·by_cases c2:d.Kind=2
    ·simp [c2]
    ·simp [c0,c1,c2]
 have e2:(if (decide (d.Kind=3))=true then some (decide (d.Kind=3)) else if (decide (d.Kind=4))=true then some (decide (d.Kind=4)) else some (decide (d.Kind=5)))=some (decide (d.Kind=3∨d.Kind=4∨d.Kind=5)):=by
  by_cases c0:d.Kind=3
  ·simp [c0]
  ·by_cases c1:d.Kind=4
   ·simp [c1]
   ·simp [c0,c1]
 rw [e1,ob_some]
 by_cases cA:d.Kind=0∨d.Kind=1∨d.Kind=2∨d.Kind=6
 ·rw [if_pos (d_t cA)]
  by_cases cB:d.Who<0∨(ns.length:Int)≤d.Who
  ·have hb:badC texts d ns way k=3:=by
    unfold badC
    rw [if_neg (by omega),if_pos (Or.inr ⟨by omega,cB⟩)]
   rw [if_pos (or_t cB),if_pos (by rw [hb]; decide),hb]
  ·have hwho:0≤d.Who∧d.Who<(ns.length:Int):=by omega
   have hs:=good_small (h.at (w:=d.Who) (by omega)).1
   rw [if_neg (or_f cB)]
   unfold clan_game_does_v1_J1
   by_cases c1:d.Kind=1
   ·rw [if_neg (d_f (by omega)),if_pos (d_t c1)]
    by_cases c6:texts.length≤k
    ·have hb:badC texts d ns way k=6:=by
      unfold badC
      rw [if_neg (by omega),if_neg (by omega),if_pos ⟨c1,c6⟩]
     rw [if_pos (d_t (by rw [List.length_drop]; omega)),if_pos (by rw [hb]; decide),hb]
    ·have hb:badC texts d ns way k=0:=by
      unfold badC
      rw [if_neg (by omega),if_neg (by omega),if_neg (by omega)]
     rw [if_neg (d_f (by rw [List.length_drop]; omega)),if_neg (not_not_intro hb),n6_eq hwho (by omega) hs _ (by rw [List.length_drop]; omega),ob_some,box_at texts k (by omega)]
     unfold deedC
     rw [if_neg (show ¬ d.Kind=0 by omega),if_pos c1]
     generalize propS (lget ns d.Who) (lget texts (k:Int))=p
     unfold BX
     dsimp only
     have J:=does_J2 (act ns way d.Who (p.1,[],p.2))
     by_cases cp:p.2.Code=0
     ·have e3:ldrop (texts.drop k) 1=texts.drop (k+1):=by
       have:ldrop (texts.drop k) ((1:Nat):Int)=_:=ldrop_nat (texts.drop k) 1
       rw [List.drop_drop] at this
       exact this
      rw [decide_eq_true cp,if_pos rfl,asrt_pos (by rw [List.length_drop]; omega),e3,J,if_pos cp]
     ·rw [decide_eq_false cp,if_neg (by decide),J,if_neg cp]
   ·have hb:badC texts d ns way k=0:=by
     unfold badC
     rw [if_neg (by omega),if_neg (by omega),if_neg (by omega)]
    rw [if_neg (not_not_intro hb)]
    unfold deedC
    by_cases c0:d.Kind=0
    ·rw [if_pos (d_t c0),if_pos c0,n5_eq hwho (by omega) hs,ob_some]
     exact does_J2 (act ns way d.Who (standS (lget ns d.Who))) _
    ·rw [if_neg (d_f c0),if_neg c0,if_neg (d_f c1),if_neg c1]
     by_cases c2:d.Kind=2
     ·rw [if_pos (d_t c2),if_pos c2,n7_eq hwho (by omega) hs,ob_some]
      exact does_J2 (act ns way d.Who (lget ns d.Who,(beatS (lget ns d.Who)).1,(beatS (lget ns d.Who)).2)) _
     ·have c6:d.Kind=6:=by omega
      rw [if_neg (d_f c2),if_neg c2,if_neg (d_f (by omega)),if_neg (show ¬ d.Kind=3 by omega),if_neg (d_f (by omega)),if_neg (show ¬ d.Kind=4 by omega),if_neg (d_f (by omega)),if_neg (show ¬ d.Kind=5 by omega),if_pos (d_t c6),n8_eq hwho (by omega) hs,ob_some]
      exact does_J2 (act ns way d.Who ((restS (lget ns d.Who)).1,[],(restS (lget ns d.Who)).2)) _
 ·rw [if_neg (d_f cA),e2,ob_some]
  by_cases cM:d.Kind=3∨d.Kind=4∨d.Kind=5
  ·rw [if_pos (d_t cM)]
   by_cases cB:d.N<0∨(way.length:Int)≤d.N
   ·have hb:badC texts d ns way k=3:=by
     unfold badC
     rw [if_neg (by omega),if_pos (Or.inl ⟨by omega,cB⟩)]
    rw [if_pos (or_t cB),if_pos (by rw [hb]; decide),hb]
   ·have hb:badC texts d ns way k=0:=by
     unfold badC
     rw [if_neg (by omega),if_neg (by omega),if_neg (by omega)]
    rw [if_neg (or_f cB),if_neg (not_not_intro hb)]
    obtain ⟨j,hj⟩:∃ j:Nat,d.N=(j:Int):=⟨d.N.toNat,by omega⟩
    have hdel:=del_eq way (by omega) j (by omega)
    obtain ⟨hto,hen⟩:=h.mails _ (lget_mem way d.N (by omega))
    have hel:(way.eraseIdx j).length≤1000:=by
     have:=List.length_eraseIdx_le way j
     omega
    unfold clan_game_does_v1_J1 deedC
    rw [if_neg (d_f (by omega)),if_neg (show ¬ d.Kind=0 by omega),if_neg (d_f (by omega)),if_neg (show ¬ d.Kind=1 by omega),if_neg (d_f (by omega)),if_neg (show ¬ d.Kind=2 by omega)]
    have hjn:d.N.toNat=j:=by omega
    by_cases c3:d.Kind=3
    ·rw [if_pos (d_t c3),if_pos c3,asrt_pos (by omega),asrt_pos (by omega),mail_eta]
     rw [hj] at hto hen ⊢
     rw [hdel,ob_some,Int.toNat_natCast,n3_eq (by omega) hel (good_small (h.at hto).1) _ _ (by omega),ob_some]
     exact does_J2 (act ns (way.eraseIdx j) (lget way (j:Int)).To (takeS (lget ns (lget way (j:Int)).To) (lget way (j:Int)))) _
    ·rw [if_neg (d_f c3),if_neg c3]
     by_cases c4:d.Kind=4
     ·rw [if_pos (d_t c4),if_pos c4,asrt_pos (by omega),asrt_pos (by omega),asrt_pos (by rw [List.length_append]; simp; omega),mail_eta]
      exact does_J2 (ns,way++[lget way d.N]) _
     ·rw [if_neg (d_f c4),if_neg c4,if_pos (d_t (by omega)),if_pos (show d.Kind=5 by omega)]
      rw [hj,hdel,ob_some,Int.toNat_natCast]
      exact does_J2 (ns,way.eraseIdx j) _
  ·have hb:badC texts d ns way k=4:=by
    unfold badC
    rw [if_pos (by omega)]
   rw [if_neg (d_f cM),if_pos (by rw [hb]; decide),hb]
theorem gJ1_act {ns:List Node} {way0:List Mail} {K0:Int} {d:Deed} {way:List Mail} {K who:Int} (hd:d.Kind≠4∧d.Kind≠5) (hw:0≤who∧who<(ns.length:Int)) (hl:way.length≤1000) (y:Node) (ms:List Mail) (f:Fault) (hm:ms.length≤1000) :
  R_GameStep_J1 ⟨⟨ns,way0⟩,K0⟩ d (way,K,who,y.N,y.ID,y.Term,y.Vote,y.Log,y.Role,y.Commit,y.Votes,y.Next,y.Have,ms,f)=some ((act ns way who (y,ms,f)).1,(act ns way who (y,ms,f)).2,K,if 200<(act ns way who (y,ms,f)).2.length then 9 else 0):=by
 have key:∀ o:List Node×List Mail,(if (decide (200<(o.2.length:Int)))=true then some (o.1,o.2,K,(9:Int)) else some (o.1,o.2,K,0))=some (o.1,o.2,K,if 200<o.2.length then 9 else 0):=by
  intro o
  by_cases c:200<o.2.length
  ·rw [if_pos (d_t (by omega)),if_pos c]
  ·rw [if_neg (d_f (by omega)),if_neg c]
 unfold R_GameStep_J1 act
 dsimp only [lt]
 rw [node_eta]
 by_cases c:f.Code=0
 ·rw [if_pos (by simp [c,hd.1,hd.2]),asrt_pos hw,asrt_pos hw,asrt_pos (by rw [List.length_append]; omega),ob_some,if_pos c]
  exact key (lset ns who y,way++ms)
 ·rw [if_neg (by simp [c]),ob_some,if_neg c]
  exact key (ns,way)
theorem gJ1_45 {ns:List Node} {way0:List Mail} {K0:Int} {d:Deed} (hd:d.Kind=4∨d.Kind=5) (way:List Mail) (K:Int) (r:Int×Int×Int×Int×Int×List Entry×Int×Int×List Int×List Int×List Int×List Mail×Fault) :
  R_GameStep_J1 ⟨⟨ns,way0⟩,K0⟩ d (way,K,r)=some (ns,way,K,if 200<way.length then 9 else 0):=by
 unfold R_GameStep_J1
 dsimp only [lt]
 have:((!decide (d.Kind=4))&&(!decide (d.Kind=5)))=false:=by
  rcases hd with e | e <;> simp [e]
 rw [this,Bool.false_and,if_neg (by decide),ob_some]
 dsimp only
 by_cases c:200<way.length
 ·rw [if_pos (d_t (by omega)),if_pos c]
 ·rw [if_neg (d_f (by omega)),if_neg c]
theorem rstep_eq {n:Nat} {ns:List Node} {way:List Mail} (h:GI n ns way) (hw:way.length≤200) (texts:List (List UInt8)) (ht:texts.length≤1000) (d:Deed) (k:Nat) (hk:k≤texts.length) :
  R_GameStep ⟨⟨ns,way⟩,(k:Int)⟩ texts d=some ((stepC texts d ns way k).1,(stepC texts d ns way k).2.1,((stepC texts d ns way k).2.2.1:Int),(stepC texts d ns way k).2.2.2):=by
 have hlen:=h.len
 have h1:=h.h1
 have h7:=h.h7
 unfold R_GameStep stepC
 dsimp only
 rw [asrt_pos (by omega),asrt_pos (by omega)]
 by_cases c4:d.Kind<0∨6<d.Kind
 ·have hb:badC texts d ns way k=4:=by
   unfold badC
   rw [if_pos c4]
  rw [if_pos (or_t c4),if_pos (by rw [hb]; decide),hb]
 rw [if_neg (or_f c4)]
 have hbb:((((decide (3≤d.Kind))&&(decide (d.Kind≤5)))&&((decide (d.N<0))||(decide ((way.length:Int)≤d.N))))||((!((decide (3≤d.Kind))&&(decide (d.Kind≤5))))&&((decide (d.Who<0))||(decide ((ns.length:Int)≤d.Who)))))=decide (((3≤d.Kind∧d.Kind≤5)∧(d.N<0∨(way.length:Int)≤d.N))∨(¬ (3≤d.Kind∧d.Kind≤5)∧(d.Who<0∨(ns.length:Int)≤d.Who))):=by
  rw [Bool.eq_iff_iff,decide_eq_true_iff]
  simp only [Bool.or_eq_true,Bool.and_eq_true,decide_eq_true_eq,Bool.not_eq_true']
  have:((decide (3≤d.Kind))&&(decide (d.Kind≤5)))=false↔¬ (3≤d.Kind∧d.Kind≤5):=by
   rw [← Bool.not_eq_true]; simp only [Bool.and_eq_true,decide_eq_true_eq]
  rw [this]
 rw [hbb]
 by_cases c3:((3≤d.Kind∧d.Kind≤5)∧(d.N<0∨(way.length:Int)≤d.N))∨(¬ (3≤d.Kind∧d.Kind≤5)∧(d.Who<0∨(ns.length:Int)≤d.Who))
 ·have hb:badC texts d ns way k=3:=by
   unfold badC
   rw [if_neg c4,if_pos c3]
  rw [if_pos (d_t c3),if_pos (by rw [hb]; decide),hb]
 rw [if_neg (d_f c3)]
 by_cases k1:d.Kind=1
 ·have hwho:0≤d.Who∧d.Who<(ns.length:Int):=by omega
  have hs:=good_small (h.at (w:=d.Who) (by omega)).1
  rw [if_neg (d_f (by omega)),if_pos (d_t k1)]
  by_cases c6:texts.length≤k
  ·have hb:badC texts d ns way k=6:=by
    unfold badC
    rw [if_neg c4,if_neg c3,if_pos ⟨k1,c6⟩]
   rw [if_pos (d_t (by omega)),if_pos (by rw [hb]; decide),hb]
  ·have hb:badC texts d ns way k=0:=by
    unfold badC
    rw [if_neg c4,if_neg c3,if_neg (by omega)]
   rw [if_neg (d_f (by omega)),if_neg (not_not_intro hb),asrt_pos hwho,asrt_pos (by omega),node_eta,rpropose_eq hs,ob_some]
   unfold deedC
   rw [if_neg (show ¬ d.Kind=0 by omega),if_pos k1]
   have hw1:w64 ((k:Int)+1)=((k+1:Nat):Int):=by rw [w64_id (by omega) (by omega)]; omega
   rw [hw1]
   generalize propS (lget ns d.Who) (lget texts (k:Int))=p
   by_cases cp:p.2.Code=0
   ·rw [if_pos (d_t cp),gJ1_act (by omega) hwho (by omega) p.1 [] p.2 (Nat.zero_le _),if_pos cp]
   ·rw [if_neg (d_f cp),gJ1_act (by omega) hwho (by omega) p.1 [] p.2 (Nat.zero_le _),if_neg cp]
 ·have hb:badC texts d ns way k=0:=by
   unfold badC
   rw [if_neg c4,if_neg c3,if_neg (by omega)]
  rw [if_neg (not_not_intro hb)]
  unfold deedC
  by_cases k0:d.Kind=0
  ·have hwho:0≤d.Who∧d.Who<(ns.length:Int):=by omega
   have hs:=good_small (h.at (w:=d.Who) (by omega)).1
   rw [if_pos (d_t k0),if_pos k0,asrt_pos hwho,node_eta,rstand_eq hs,ob_some,gJ1_act (by omega) hwho (by omega) (standS (lget ns d.Who)).1 (standS (lget ns d.Who)).2.1 (standS (lget ns d.Who)).2.2 (stand_l _)]
  ·rw [if_neg (d_f k0),if_neg k0,if_neg (d_f k1),if_neg k1]
   by_cases k2:d.Kind=2
   ·have hwho:0≤d.Who∧d.Who<(ns.length:Int):=by omega
    have hs:=good_small (h.at (w:=d.Who) (by omega)).1
    rw [if_pos (d_t k2),if_pos k2,asrt_pos hwho,node_eta,rbeat_eq hs,ob_some,gJ1_act (by omega) hwho (by omega) (lget ns d.Who) (beatS (lget ns d.Who)).1 (beatS (lget ns d.Who)).2 (beat_l _)]
   ·rw [if_neg (d_f k2),if_neg k2]
    by_cases k3:d.Kind=3
    ·obtain ⟨j,hj⟩:∃ j:Nat,d.N=(j:Int):=⟨d.N.toNat,by omega⟩
     obtain ⟨hto,hen⟩:=h.mails _ (lget_mem way d.N (by omega))
     have hel:(way.eraseIdx j).length≤1000:=by
      have:=List.length_eraseIdx_le way j
      omega
     rw [if_pos (d_t k3),if_pos k3,asrt_pos (by omega)]
     rw [hj] at hto hen ⊢
     have hs:=good_small (h.at hto).1
     rw [without_eq way (by omega) j,ob_some,asrt_pos (by omega),node_eta,mail_eta,rtake_eq hs _ (by omega),ob_some,Int.toNat_natCast]
     exact gJ1_act (by omega) (by omega) hel (takeS (lget ns (lget way (j:Int)).To) (lget way (j:Int))).1 (takeS (lget ns (lget way (j:Int)).To) (lget way (j:Int))).2.1 (takeS (lget ns (lget way (j:Int)).To) (lget way (j:Int))).2.2 (take_l _ _)
    ·rw [if_neg (d_f k3),if_neg k3]
     by_cases k4:d.Kind=4
     ·rw [if_pos (d_t k4),if_pos k4,asrt_pos (by omega),asrt_pos (by rw [List.length_append]; simp; omega),mail_eta]
      exact gJ1_45 (.inl k4) _ _ _
     ·rw [if_neg (d_f k4),if_neg k4]
      by_cases k5:d.Kind=5
      ·obtain ⟨j,hj⟩:∃ j:Nat,d.N=(j:Int):=⟨d.N.toNat,by omega⟩
       rw [if_pos (d_t k5),if_pos k5,hj,without_eq way (by omega) j,ob_some,Int.toNat_natCast]
       exact gJ1_45 (.inr k5) _ _ _
      ·have hwho:0≤d.Who∧d.Who<(ns.length:Int):=by omega
       have hs:=good_small (h.at (w:=d.Who) (by omega)).1
       rw [if_neg (d_f k5),if_neg k5,if_pos (d_t (by omega)),asrt_pos hwho,node_eta,rrest_eq hs,ob_some]
       exact gJ1_act (by omega) hwho (by omega) (restS (lget ns d.Who)).1 [] (restS (lget ns d.Who)).2 (Nat.zero_le _)
theorem deedC_good {n:Nat} {ns:List Node} {way:List Mail} (h:GI n ns way) {texts:List (List UInt8)} {d:Deed} {k:Nat} (hk:k≤texts.length) (hb:badC texts d ns way k=0) :
  GI n (deedC texts d ns way k).1 (deedC texts d ns way k).2.1∧(deedC texts d ns way k).2.2≤texts.length:=by
 have hlen:=h.len
 have c4:¬ (d.Kind<0∨6<d.Kind):=fun c=>by unfold badC at hb; rw [if_pos c] at hb; exact absurd hb (by decide)
 have c3:¬ (((3≤d.Kind∧d.Kind≤5)∧(d.N<0∨(way.length:Int)≤d.N))∨(¬ (3≤d.Kind∧d.Kind≤5)∧(d.Who<0∨(ns.length:Int)≤d.Who))):=fun c=>by unfold badC at hb; rw [if_neg c4,if_pos c] at hb; exact absurd hb (by decide)
 have c1:¬ (d.Kind=1∧texts.length≤k):=fun c=>by unfold badC at hb; rw [if_neg c4,if_neg c3,if_pos c] at hb; exact absurd hb (by decide)
 unfold deedC
 by_cases k0:d.Kind=0
 ·rw [if_pos k0]
  exact ⟨(h.act (by omega) stand_ok).1,hk⟩
 rw [if_neg k0]
 by_cases k1:d.Kind=1
 ·rw [if_pos k1]
  refine ⟨(h.act (by omega) (r:=((propS (lget ns d.Who) (lget texts (k:Int))).1,[],(propS (lget ns d.Who) (lget texts (k:Int))).2)) fun c=>prop_ok (h.at (w:=d.Who) (by omega)).2.2.2 c).1,?_⟩
  dsimp only
  split <;> omega
 rw [if_neg k1]
 by_cases k2:d.Kind=2
 ·rw [if_pos k2]
  exact ⟨(h.act (by omega) (r:=(lget ns d.Who,(beatS (lget ns d.Who)).1,(beatS (lget ns d.Who)).2)) beat_ok).1,hk⟩
 rw [if_neg k2]
 have her:∀ m∈way.eraseIdx d.N.toNat,m∈way:=fun m hm=>List.mem_of_mem_eraseIdx hm
 by_cases k3:d.Kind=3
 ·rw [if_pos k3]
  obtain ⟨hto,_⟩:=h.mails _ (lget_mem way d.N (by omega))
  exact ⟨((h.less her).act hto take_ok).1,hk⟩
 rw [if_neg k3]
 by_cases k4:d.Kind=4
 ·rw [if_pos k4]
  refine ⟨h.less fun m hm=>?_,hk⟩
  rcases List.mem_append.1 hm with g | g
  ·exact g
  ·rw [List.mem_singleton] at g
   rw [g]; exact lget_mem way d.N (by omega)
 rw [if_neg k4]
 by_cases k5:d.Kind=5
 ·rw [if_pos k5]
  exact ⟨h.less her,hk⟩
 rw [if_neg k5]
 exact ⟨(h.act (by omega) (r:=((restS (lget ns d.Who)).1,[],(restS (lget ns d.Who)).2)) rest_ok).1,hk⟩
theorem stepC_good {n:Nat} {ns:List Node} {way:List Mail} (h:GI n ns way) {texts:List (List UInt8)} {d:Deed} {k:Nat} (hk:k≤texts.length) (hb:(stepC texts d ns way k).2.2.2=0) :
  GI n (stepC texts d ns way k).1 (stepC texts d ns way k).2.1∧(stepC texts d ns way k).2.2.1≤texts.length∧(stepC texts d ns way k).2.1.length≤200:=by
 unfold stepC at hb ⊢
 by_cases c:badC texts d ns way k=0
 ·rw [if_neg (not_not_intro c)] at hb ⊢
  obtain ⟨g1,g2⟩:=deedC_good h hk c
  refine ⟨g1,g2,?_⟩
  dsimp only at hb ⊢
  apply Decidable.byContradiction
  intro g
  rw [if_pos (by omega)] at hb
  exact absurd hb (by decide)
 ·rw [if_pos c] at hb; exact absurd hb c
def beginC (n:Nat):Nat→List Node
 | 0=>[]
 | k+1=>beginC n k++[⟨(n:Int),(k:Int),0,0,[],0,0,[],[],[]⟩]
theorem beginC_len (n:Nat):∀ k,(beginC n k).length=k
 | 0=>rfl
 | k+1=>by rw [beginC,List.length_append,beginC_len n k]; rfl
theorem beginC_get (n:Nat):∀ (k i:Nat),i<k→lget (beginC n k) (i:Int)=⟨(n:Int),(i:Int),0,0,[],0,0,[],[],[]⟩
 | 0,i,h=>by omega
 | k+1,i,h=>by
  rw [beginC]
  by_cases e:i=k
  ·subst e
   rw [lget_app_r _ _ _ (by rw [beginC_len]; omega),beginC_len,Int.sub_self]; rfl
  ·rw [lget_app_l _ _ _ (by rw [beginC_len]; omega)]
   exact beginC_get n k i (by omega)
theorem begin_good {n:Nat} (h1:1≤n) (h7:n≤7):GI n (beginC n n) []:=by
 refine ⟨h1,h7,beginC_len n n,fun i hi=>?_,fun m hm=>by cases hm⟩
 rw [beginC_get n n i hi]
 refine ⟨⟨by show 1≤(n:Int); omega,by show (n:Int)≤7; omega,by show 0≤(i:Int); omega,by show (i:Int)<(n:Int); omega,by show (0:Int)≤0; omega,by show (0:Int)≤1000000000; omega,by show (0:Int)≤0; omega,by show (0:Int)≤(n:Int); omega,by show (0:Int)≤0; omega,by show (0:Int)≤2; omega,by show (0:Int)≤0; omega,by show (0:Int)≤0; omega,rfl,?_,form0 _ rfl rfl rfl rfl⟩,rfl,rfl,fun g=>absurd rfl g⟩
 show ¬ (0:Int)<tat [] 0
 unfold tat
 rw [if_pos (Or.inl (by decide))]; decide
theorem texts_self (l:List (List UInt8)) (h:l.length≤1000000):R_SameTexts l l=some true:=by
 unfold R_SameTexts
 rw [if_neg (by simp)]
 refine loop_run (step:=fun y=>R_SameTexts_B1 l l y) l.length (fun k=>(k:Int)) (fun k hk=>?_) ?_
 ·have hw:w64 ((k:Int)+1)=((k+1:Nat):Int):=by rw [w64_id (by omega) (by omega)]; omega
  show R_SameTexts_B1 l l (k:Int)=_
  unfold R_SameTexts_B1
  rw [if_pos (d_t (by omega)),asrt_pos (by omega),asrt_pos (by omega),if_neg (by simp),hw]
 ·show R_SameTexts_B1 l l (l.length:Int)=_
  unfold R_SameTexts_B1
  rw [if_neg (d_f (by omega))]; rfl
def cb0:Node:=⟨1,0,0,0,[],0,0,[],[],[]⟩
def cb1:Node:=⟨1,0,1,1,[],2,0,[],[1],[0]⟩
def cb2:Node:=⟨1,0,1,1,[⟨1,[97]⟩],2,1,[],[2],[1]⟩
theorem ubO_self {α:Type} (b:Bool) (x:Option α):ubO b x x=x:=by
 unfold ubO
 rw [asrt_pos (fun _=>rfl)]
 simp
theorem loop_upto {σ ρ:Type} {step:σ→Option (σ⊕ρ)} (n:Nat) (st:Nat→σ) (h:∀ k,k<n→step (st k)=some (.inl (st (k+1)))):loopO step (st 0)=loopO step (st n):=by
 induction n with
 | zero=>rfl
 | succ n ih=>rw [ih (fun k hk=>h k (by omega)),loopO_inl (h n (by omega))]
theorem mclone_nil:slices_Clone_api_Mail_api_Mail []=some []:=by
 unfold slices_Clone_api_Mail_api_Mail
 rw [asrt_pos (by simp)]
 exact ubO_self _ _
theorem own_nil:clan_own []=some []:=by
 unfold clan_own
 rw [mclone_nil,ob_some]
 refine loopO_inr ?_
 unfold clan_own_B1
 rw [if_neg (d_f (by simp))]; rfl
theorem does0 (bx:List (List UInt8)):clan_game_does_v1 ⟨0,0,0⟩ bx [cb0] []=some (0,[cb1],[],bx):=by
 have hs:Small ⟨1,0,0,0,[],0,0,[],[],[]⟩:=⟨by simp,by simp,by simp,by simp⟩
 have f1:nodeF ⟨1,0,0,0,[],0,0,[],[],[]⟩=⟨0,0⟩:=by decide
 have e1:standS ⟨1,0,0,0,[],0,0,[],[],[]⟩=(⟨1,0,1,1,[],2,0,[],[1],[0]⟩,[],⟨0,0⟩):=by
  unfold standS
  rw [f1,if_neg (by decide),if_neg (by decide),if_neg (by decide),if_pos rfl]; rfl
 have hn:clan_game_node_v5 0 bx [cb0] []=some (true,[cb1],[],bx):=by
  unfold clan_game_node_v5
  rw [asrt_pos (by decide),asrt_pos (by decide)]
  have:=stand_eq hs
  show ob (raft_Stand ⟨1,0,0,0,[],0,0,[],[],[]⟩) _=_
  rw [this,ob_some,e1,if_neg (by decide),asrt_pos (by decide),asrt_pos (by decide),asrt_pos (by decide)]
  rfl
 unfold clan_game_does_v1
 show clan_game_does_v1_J1 ⟨0,0,0⟩ bx [cb0] [] ()=_
 unfold clan_game_does_v1_J1
 rw [if_pos (by decide),hn,ob_some]
 rfl
theorem does1:clan_game_does_v1 ⟨1,0,0⟩ [[97]] [cb1] []=some (0,[cb2],[],[]):=by
 have hs2:Small ⟨1,0,1,1,[],2,0,[],[1],[0]⟩:=⟨by simp,by simp,by simp,by simp⟩
 have f2:nodeF ⟨1,0,1,1,[],2,0,[],[1],[0]⟩=⟨0,0⟩:=by decide
 have e2:propS ⟨1,0,1,1,[],2,0,[],[1],[0]⟩ [97]=(⟨1,0,1,1,[⟨1,[97]⟩],2,1,[],[2],[1]⟩,⟨0,0⟩):=by
  unfold propS
  rw [f2,if_neg (by decide),if_neg (by decide),if_neg (by decide),if_neg (by decide)]; rfl
 have hd:clan_game_does_1_v1 ⟨1,0,1,1,[],2,0,[],[1],[0]⟩ [[97]] [cb1] []=some (1,0,1,1,[⟨1,[97]⟩],2,1,[],[2],[1],[],⟨0,0⟩):=by
  unfold clan_game_does_1_v1
  rw [asrt_pos (by decide)]
  show ob (raft_Propose _ [97]) _=_
  rw [propose_eq hs2,ob_some,e2]
  rfl
 have hn:clan_game_node_v6 0 [[97]] [cb1] []=some (true,[cb2],[],[[97]]):=by
  unfold clan_game_node_v6
  rw [asrt_pos (by decide),asrt_pos (by decide)]
  show ob (clan_game_does_1_v1 ⟨1,0,1,1,[],2,0,[],[1],[0]⟩ _ _ _) _=_
  rw [hd,ob_some,if_neg (by decide),asrt_pos (by decide),asrt_pos (by decide),asrt_pos (by decide)]
  rfl
 unfold clan_game_does_v1
 show clan_game_does_v1_J1 ⟨1,0,0⟩ [[97]] [cb1] [] ()=_
 unfold clan_game_does_v1_J1
 rw [if_neg (by decide),if_pos (by decide),if_neg (by decide),hn,ob_some,if_pos rfl,asrt_pos (by decide)]
 rfl
theorem play_L1:clan_Play_v1_L1 [⟨0,0,0⟩,⟨1,0,0⟩] ([cb0],[],[[97]],0)=some (⟨[cb2],[]⟩,⟨0,0⟩):=by
 refine (loopO_inl (y:=([cb1],[],[[97]],1)) ?_).trans ?_
 ·unfold clan_Play_v1_B1
  rw [if_pos (by decide),asrt_pos (by decide)]
  show ob (clan_game_does_v1 ⟨0,0,0⟩ [[97]] [cb0] []) _=_
  rw [does0,ob_some]; rfl
 refine (loopO_inl (y:=([cb2],[],[],2)) ?_).trans ?_
 ·unfold clan_Play_v1_B1
  rw [if_pos (by decide),asrt_pos (by decide)]
  show ob (clan_game_does_v1 ⟨1,0,0⟩ [[97]] [cb1] []) _=_
  rw [does1,ob_some]; rfl
 refine loopO_inr ?_
 unfold clan_Play_v1_B1
 rw [if_neg (by decide)]
 show inrO (clan_Play_v1_J2 ([cb2],[],[]))=_
 unfold clan_Play_v1_J2
 show inrO (ob (clan_own []) _)=_
 rw [own_nil]
 rfl
theorem play_eq:clan_Play_v1 1 [[97]] [⟨0,0,0⟩,⟨1,0,0⟩]=some (⟨[cb2],[]⟩,⟨0,0⟩):=by
 unfold clan_Play_v1
 rw [if_neg (by decide),if_neg (by decide),if_neg (by decide)]
 refine (loopO_inl (y:=([cb0],1)) ?_).trans ?_
 ·unfold clan_Play_v1_B2
  rw [if_pos (by decide),asrt_pos (by decide)]
  rfl
 refine loopO_inr ?_
 unfold clan_Play_v1_B2
 rw [if_neg (by decide)]
 show inrO (clan_Play_v1_J1 [[97]] [⟨0,0,0⟩,⟨1,0,0⟩] [cb0])=_
 unfold clan_Play_v1_J1
 rw [play_L1]; rfl
theorem clanBegun_eq:law_clanBegun=some true:=by
 unfold law_clanBegun
 rw [play_eq,ob_some]
 have hs:∀ n∈[cb2],Small n:=by
  intro n hn
  rw [List.mem_singleton.1 hn]
  exact ⟨by decide,by decide,by decide,by decide⟩
 have f3:(nodeF cb2).Code=0:=by decide
 rcases good_eq ⟨[cb2],[]⟩ (by decide) hs with ⟨j,h1,h2,_,_⟩ | ⟨_,h⟩
 ·exfalso
  have:j=0:=by simp at h1; exact h1
  subst this
  exact h2 f3
 ·show ob (clan_Good_v1 ⟨[cb2],[]⟩) _=_
  rw [h,ob_some]
  have ht:tx (best [cb2] 1)=[[97]]:=by decide
  show ob (if _ then R_SameTexts (tx (best [cb2] 1)) [[97]] else _) _=_
  rw [if_pos (by decide),ht,texts_self _ (by decide)]
  rfl
noncomputable def gm (texts:List (List UInt8)) (deeds:List Deed) (n:Nat):Nat→List Node×List Mail×Nat
 | 0=>(beginC n n,[],0)
 | i+1=>if (stepC texts (lget deeds (i:Int)) (gm texts deeds n i).1 (gm texts deeds n i).2.1 (gm texts deeds n i).2.2).2.2.2=0 then ((stepC texts (lget deeds (i:Int)) (gm texts deeds n i).1 (gm texts deeds n i).2.1 (gm texts deeds n i).2.2).1,(stepC texts (lget deeds (i:Int)) (gm texts deeds n i).1 (gm texts deeds n i).2.1 (gm texts deeds n i).2.2).2.1,(stepC texts (lget deeds (i:Int)) (gm texts deeds n i).1 (gm texts deeds n i).2.1 (gm texts deeds n i).2.2).2.2.1) else gm texts deeds n i
noncomputable def cd (texts:List (List UInt8)) (deeds:List Deed) (n:Nat) (i:Nat):Int:=(stepC texts (lget deeds (i:Int)) (gm texts deeds n i).1 (gm texts deeds n i).2.1 (gm texts deeds n i).2.2).2.2.2
theorem gm_good {texts:List (List UInt8)} {deeds:List Deed} {n:Nat} (h1:1≤n) (h7:n≤7):∀ i,GI n (gm texts deeds n i).1 (gm texts deeds n i).2.1∧(gm texts deeds n i).2.2≤texts.length∧(gm texts deeds n i).2.1.length≤200
 | 0=>⟨begin_good h1 h7,Nat.zero_le _,Nat.zero_le _⟩
 | i+1=>by
  have ih:=gm_good (texts:=texts) (deeds:=deeds) h1 h7 i
  rw [gm]
  split
  ·rename_i c
   exact stepC_good ih.1 ih.2.1 c
  ·exact ih
theorem gm_next {texts:List (List UInt8)} {deeds:List Deed} {n i:Nat} (c:cd texts deeds n i=0):gm texts deeds n (i+1)=((stepC texts (lget deeds (i:Int)) (gm texts deeds n i).1 (gm texts deeds n i).2.1 (gm texts deeds n i).2.2).1,(stepC texts (lget deeds (i:Int)) (gm texts deeds n i).1 (gm texts deeds n i).2.1 (gm texts deeds n i).2.2).2.1,(stepC texts (lget deeds (i:Int)) (gm texts deeds n i).1 (gm texts deeds n i).2.1 (gm texts deeds n i).2.2).2.2.1):=by
 rw [gm]
 exact if_pos c
theorem mclone_eq (l:List Mail) (h:l.length≤100000):slices_Clone_api_Mail_api_Mail l=some l:=by
 have e:asrt (((([]:List Mail)++l).length:Int)*88≤140737488351232) (some (([]:List Mail)++l))=some l:=by
  rw [asrt_pos (by simp; omega)]; rfl
 unfold slices_Clone_api_Mail_api_Mail ubO
 rw [e,asrt_pos]
 ·split
  ·rename_i c; simp at c; rw [c]
  ·rfl
 ·intro c; simp at c; rw [c]
theorem cown_eq (l:List Mail) (h:l.length≤100000) (he:∀ m∈l,m.Entries.length≤1000):clan_own l=some l:=by
 unfold clan_own
 rw [mclone_eq l h,ob_some]
 refine loop_run (step:=fun y=>clan_own_B1 l y) l.length (fun k=>(l,(k:Int))) (fun k hk=>?_) ?_
 ·have hw:w64 ((k:Int)+1)=((k+1:Nat):Int):=by rw [w64_id (by omega) (by omega)]; omega
  have hm:=he _ (lget_mem l (k:Int) (by omega))
  show clan_own_B1 l (l,(k:Int))=_
  unfold clan_own_B1
  dsimp only [lt]
  rw [if_pos (d_t (by omega)),asrt_pos (by omega),asrt_pos (by omega),eclone_eq _ (by omega),ob_some,asrt_pos (by omega),asrt_pos (by omega),mail_eta,lset_same l k hk,hw]
 ·show clan_own_B1 l (l,(l.length:Int))=_
  unfold clan_own_B1
  dsimp only
  rw [if_neg (d_f (by omega))]; rfl
section
variable {texts:List (List UInt8)} {deeds:List Deed} {n:Nat}
theorem playB (h1:1≤n) (h7:n≤7) (ht:texts.length≤1000) (hd:deeds.length≤100000) (i:Nat) (hi:i<deeds.length):clan_Play_v1_B1 deeds ((gm texts deeds n i).1,(gm texts deeds n i).2.1,texts.drop (gm texts deeds n i).2.2,(i:Int))=if cd texts deeds n i=0 then some (.inl ((gm texts deeds n (i+1)).1,(gm texts deeds n (i+1)).2.1,texts.drop (gm texts deeds n (i+1)).2.2,((i+1:Nat):Int))) else some (.inr (⟨[],[]⟩,⟨cd texts deeds n i,(i:Int)⟩)):=by
 obtain ⟨g1,g2,g3⟩:=gm_good (texts:=texts) (deeds:=deeds) h1 h7 i
 have hw:w64 ((i:Int)+1)=((i+1:Nat):Int):=by rw [w64_id (by omega) (by omega)]; omega
 have ho:(⟨(lget deeds (i:Int)).Kind,(lget deeds (i:Int)).Who,(lget deeds (i:Int)).N⟩:Deed)=lget deeds (i:Int):=rfl
 unfold clan_Play_v1_B1
 dsimp only [lt]
 rw [if_pos (d_t (by omega)),asrt_pos (by omega),ho,does_eq g1 g3 texts ht,ob_some,hw]
 dsimp only
 by_cases c:cd texts deeds n i=0
 ·rw [if_pos c,gm_next c]
  unfold cd at c
  rw [if_neg (n_f c)]
 ·rw [if_neg c]
  unfold cd at c ⊢
  rw [if_pos (n_t c)]; rfl
noncomputable def gamesTo (texts:List (List UInt8)) (deeds:List Deed) (n:Nat):Nat→List Game
 | 0=>[⟨⟨(gm texts deeds n 0).1,(gm texts deeds n 0).2.1⟩,((gm texts deeds n 0).2.2:Int)⟩]
 | i+1=>gamesTo texts deeds n i++[⟨⟨(gm texts deeds n (i+1)).1,(gm texts deeds n (i+1)).2.1⟩,((gm texts deeds n (i+1)).2.2:Int)⟩]
theorem gamesTo_len:∀ i,(gamesTo texts deeds n i).length=i+1
 | 0=>rfl
 | i+1=>by rw [gamesTo,List.length_append,gamesTo_len i]; rfl
theorem gamesTo_last:∀ i:Nat,lget (gamesTo texts deeds n i) (i:Int)=⟨⟨(gm texts deeds n i).1,(gm texts deeds n i).2.1⟩,((gm texts deeds n i).2.2:Int)⟩
 | 0=>rfl
 | i+1=>by
  rw [gamesTo,lget_app_r _ _ _ (by rw [gamesTo_len]; omega),gamesTo_len,Int.sub_self]; rfl
theorem gamesB (h1:1≤n) (h7:n≤7) (ht:texts.length≤1000) (hd:deeds.length≤100000) (i:Nat) (hi:i<deeds.length):R_Games_v1_B1 texts deeds (gamesTo texts deeds n i,(i:Int))=if cd texts deeds n i=0 then some (.inl (gamesTo texts deeds n (i+1),((i+1:Nat):Int))) else some (.inr ([],⟨cd texts deeds n i,(i:Int)⟩)):=by
 obtain ⟨g1,g2,g3⟩:=gm_good (texts:=texts) (deeds:=deeds) h1 h7 i
 have hw:w64 ((i:Int)+1)=((i+1:Nat):Int):=by rw [w64_id (by omega) (by omega)]; omega
 have ho:(⟨(lget deeds (i:Int)).Kind,(lget deeds (i:Int)).Who,(lget deeds (i:Int)).N⟩:Deed)=lget deeds (i:Int):=rfl
 have hlen:=gamesTo_len (texts:=texts) (deeds:=deeds) (n:=n) i
 unfold R_Games_v1_B1
 dsimp only [lt]
 rw [if_pos (d_t (by omega)),asrt_pos (by omega),asrt_pos (by omega),asrt_pos (by omega),ho,gamesTo_last]
 dsimp only
 rw [rstep_eq g1 g3 texts ht _ _ g2,ob_some,hw]
 dsimp only
 by_cases c:cd texts deeds n i=0
 ·rw [if_pos c,gamesTo,gm_next c]
  unfold cd at c
  rw [if_neg (n_f c),asrt_pos (by rw [List.length_append,hlen]; simp; omega)]
 ·rw [if_neg c]
  unfold cd at c ⊢
  rw [if_pos (n_t c)]; rfl
theorem begin_L (m:Nat) (hm:m≤7) {ρ:Type} {step:List Node×Int→Option ((List Node×Int)⊕ρ)} (hs:∀ k:Nat,k<m→∀ l:List Node,l.length=k→step (l,(k:Int))=some (.inl (l++[⟨(m:Int),(k:Int),0,0,[],0,0,[],[],[]⟩],((k+1:Nat):Int)))) {r:ρ} (he:step (beginC m m,(m:Int))=some (.inr r)):loopO step ([],0)=some r:=
 loop_run m (fun k=>(beginC m k,(k:Int))) (fun k hk=>hs k hk _ (beginC_len m k)) he
theorem rbegin_eq (h7:n≤7):R_Begin (n:Int)=some (beginC n n,0):=by
 refine begin_L n h7 (step:=fun y=>R_Begin_B1 (n:Int) y) (fun k hk l hl=>?_) ?_
 ·have hw:w64 ((k:Int)+1)=((k+1:Nat):Int):=by rw [w64_id (by omega) (by omega)]; omega
  show R_Begin_B1 (n:Int) (l,(k:Int))=_
  unfold R_Begin_B1
  dsimp only [lt]
  rw [if_pos (d_t (by omega)),asrt_pos (by rw [List.length_append]; simp; omega),hw]
 ·show R_Begin_B1 (n:Int) (beginC n n,(n:Int))=_
  unfold R_Begin_B1
  dsimp only
  rw [if_neg (d_f (by omega))]; rfl
theorem play_go (h1:1≤n) (h7:n≤7) (hd:deeds.length≤2000) (ht:texts.length≤100) {r:Clan×Fault} (hr:clan_Play_v1_L1 deeds ((gm texts deeds n 0).1,(gm texts deeds n 0).2.1,texts.drop (gm texts deeds n 0).2.2,((0:Nat):Int))=some r):clan_Play_v1 (n:Int) texts deeds=some r:=by
 unfold clan_Play_v1
 rw [if_neg (or_f (by omega)),if_neg (d_f (by omega)),if_neg (d_f (by omega))]
 refine begin_L n h7 (step:=fun y=>clan_Play_v1_B2 (n:Int) texts deeds y) (fun k hk l hl=>?_) ?_
 ·have hw:w64 ((k:Int)+1)=((k+1:Nat):Int):=by rw [w64_id (by omega) (by omega)]; omega
  show clan_Play_v1_B2 (n:Int) texts deeds (l,(k:Int))=_
  unfold clan_Play_v1_B2
  dsimp only [lt]
  rw [if_pos (d_t (by omega)),asrt_pos (by rw [List.length_append]; simp; omega),hw]
 ·show clan_Play_v1_B2 (n:Int) texts deeds (beginC n n,(n:Int))=_
  unfold clan_Play_v1_B2 clan_Play_v1_J1
  dsimp only
  have e:texts=texts.drop (gm texts deeds n 0).2.2:=rfl
  rw [if_neg (d_f (by omega))]
  show inrO (clan_Play_v1_L1 deeds ((gm texts deeds n 0).1,(gm texts deeds n 0).2.1,texts.drop (gm texts deeds n 0).2.2,((0:Nat):Int)))=_
  rw [hr]; rfl
theorem both (h1:1≤n) (h7:n≤7) (hd:deeds.length≤2000) (ht:texts.length≤100) :
  (∃ j,j<deeds.length∧cd texts deeds n j≠0∧clan_Play_v1 (n:Int) texts deeds=some (⟨[],[]⟩,⟨cd texts deeds n j,(j:Int)⟩)∧R_Games_v1 (n:Int) texts deeds=some ([],⟨cd texts deeds n j,(j:Int)⟩))∨
  ((∀ j,j<deeds.length→cd texts deeds n j=0)∧clan_Play_v1 (n:Int) texts deeds=some (⟨(gm texts deeds n deeds.length).1,(gm texts deeds n deeds.length).2.1⟩,⟨0,0⟩)∧R_Games_v1 (n:Int) texts deeds=some (gamesTo texts deeds n deeds.length,⟨0,0⟩)):=by
 have pB:=fun i hi=>playB (texts:=texts) (deeds:=deeds) h1 h7 (by omega) (by omega) i hi
 have gB:=fun i hi=>gamesB (texts:=texts) (deeds:=deeds) h1 h7 (by omega) (by omega) i hi
 have hG:∀ r,R_Games_v1_L1 texts deeds (gamesTo texts deeds n 0,((0:Nat):Int))=some r→R_Games_v1 (n:Int) texts deeds=some r:=by
  intro r hr
  unfold R_Games_v1
  rw [if_neg (or_f (by omega)),if_neg (d_f (by omega)),if_neg (d_f (by omega)),rbegin_eq h7,ob_some]
  exact hr
 by_cases hall:∀ j,j<deeds.length→cd texts deeds n j=0
 ·obtain ⟨g1,g2,g3⟩:=gm_good (texts:=texts) (deeds:=deeds) h1 h7 deeds.length
  refine .inr ⟨hall,play_go h1 h7 hd ht ?_,hG _ ?_⟩
  ·refine loop_run (step:=fun y=>clan_Play_v1_B1 deeds y) deeds.length (fun i=>((gm texts deeds n i).1,(gm texts deeds n i).2.1,texts.drop (gm texts deeds n i).2.2,(i:Int))) (fun i hi=>(pB i hi).trans (if_pos (hall i hi))) ?_
   show clan_Play_v1_B1 deeds (_,_,_,(deeds.length:Int))=_
   unfold clan_Play_v1_B1 clan_Play_v1_J2
   dsimp only
   rw [if_neg (d_f (by omega)),cown_eq _ (by omega) (fun m hm=>(g1.mails m hm).2),ob_some]; rfl
  ·refine loop_run (step:=fun y=>R_Games_v1_B1 texts deeds y) deeds.length (fun i=>(gamesTo texts deeds n i,(i:Int))) (fun i hi=>(gB i hi).trans (if_pos (hall i hi))) ?_
   show R_Games_v1_B1 texts deeds (_,(deeds.length:Int))=_
   unfold R_Games_v1_B1
   dsimp only
   rw [if_neg (d_f (by omega))]; rfl
 ·obtain ⟨j,hj,hc,hb⟩:=first_bad (fun j=>cd texts deeds n j=0) deeds.length hall
  refine .inl ⟨j,hj,hc,play_go h1 h7 hd ht ?_,hG _ ?_⟩
  ·have hu:=loop_upto (step:=fun y=>clan_Play_v1_B1 deeds y) j (fun i=>((gm texts deeds n i).1,(gm texts deeds n i).2.1,texts.drop (gm texts deeds n i).2.2,(i:Int))) (fun i hi=>(pB i (by omega)).trans (if_pos (hb i hi)))
   exact hu.trans (loopO_inr ((pB j hj).trans (if_neg hc)))
  ·have hu:=loop_upto (step:=fun y=>R_Games_v1_B1 texts deeds y) j (fun i=>(gamesTo texts deeds n i,(i:Int))) (fun i hi=>(gB i (by omega)).trans (if_pos (hb i hi)))
   exact hu.trans (loopO_inr ((gB j hj).trans (if_neg hc)))
end
def isN (n:Nat) (j:Int):Prop:=0≤j∧j<(n:Int)
theorem few:∀ (n:Nat) (l:List Int),l.Nodup→(∀ j∈l,isN n j)→l.length≤n
 | 0,l,_,h=>by
  cases l with
  | nil=>simp
  | cons a l=>have:=h a (by simp); unfold isN at this; omega
 | n+1,l,hn,h=>by
  by_cases c:(n:Int)∈l
  ·have h1:=few n (l.erase (n:Int)) (hn.erase _) (fun j hj=>by
    have h2:=h j (List.mem_of_mem_erase hj)
    have:j≠(n:Int):=fun e=>by subst e; exact hn.not_mem_erase hj
    unfold isN at h2 ⊢
    omega)
   rw [List.length_erase_of_mem c] at h1
   omega
  ·have:=few n l hn (fun j hj=>by
    have h2:=h j hj
    have:j≠(n:Int):=fun e=>c (e▸hj)
    unfold isN at h2 ⊢
    omega)
   omega
theorem meet {n:Nat} {a b:List Int} (ha:a.Nodup) (hb:b.Nodup) (h1:∀ j∈a,isN n j) (h2:∀ j∈b,isN n j) (ma:n<2*a.length) (mb:n<2*b.length):∃ j,j∈a∧j∈b:=by
 apply Classical.byContradiction
 intro hn
 have hd:∀ x∈a,∀ y∈b,x≠y:=fun x hx y hy e=>hn ⟨x,hx,e▸hy⟩
 have:=few n (a++b) (List.nodup_append.2 ⟨ha,hb,hd⟩) (fun j hj=>by
  rcases List.mem_append.1 hj with h | h
  ·exact h1 j h
  ·exact h2 j h)
 rw [List.length_append] at this
 omega
abbrev Log:Type:=List Entry
theorem pre_pre {α:Type} {a b c:List α} (h1:a <+: c) (h2:b <+: c) (h:a.length≤b.length):a <+: b:=List.prefix_of_prefix_length_le h1 h2 h
theorem pre_get {α:Type} {a b:List α} (h:a <+: b) {p:Nat} {e:α} (hp:a[p]?=some e):b[p]?=some e:=by
 obtain ⟨r,rfl⟩:=h
 have hl:=(List.getElem?_eq_some_iff.1 hp).1
 rw [List.getElem?_append_left hl]; exact hp
theorem pre_take {α:Type} {a b:List α} (h:a <+: b) {k:Nat} (hk:k≤a.length):b.take k=a.take k:=by
 obtain ⟨r,rfl⟩:=h
 rw [List.take_append_of_le_length hk]
def MT (l:Log):Prop:=(∀ (p q:Nat) (a b:Entry),p≤q→l[p]?=some a→l[q]?=some b→a.Term≤b.Term)∧∀ (p:Nat) (a:Entry),l[p]?=some a→1≤a.Term
theorem MT.pre {a b:Log} (h:MT b) (hp:a <+: b):MT a:=⟨fun p q x y hpq h1 h2=>h.1 p q x y hpq (pre_get hp h1) (pre_get hp h2),fun p x h1=>h.2 p x (pre_get hp h1)⟩
def lastT (l:Log):Int:=tat l (l.length:Int)
theorem tat_get {l:Log} {p:Nat} {e:Entry} (h:l[p]?=some e):tat l ((p+1:Nat):Int)=e.Term:=by
 have hl:=(List.getElem?_eq_some_iff.1 h).1
 rw [tat_in l (p+1) (by omega) (by omega),Nat.add_sub_cancel]
 simp [lget,List.getD,h]
theorem lastT_get {l:Log} {e:Entry} (h0:0<l.length) (h:l[l.length - 1]?=some e):lastT l=e.Term:=by
 have:=tat_get h
 rw [show l.length - 1+1=l.length by omega] at this
 exact this
theorem last_is {l:Log} (h:0<l.length):∃ e,l[l.length - 1]?=some e:=⟨l[l.length - 1],List.getElem?_eq_getElem (by omega)⟩
theorem lastT_nil {l:Log} (h:l.length=0):lastT l=0:=by unfold lastT tat; rw [if_pos (by omega)]
def NW (a b:Log):Prop:=lastT a<lastT b∨(lastT a=lastT b∧a.length≤b.length)
structure Gh where
 el:Int→Option (Int×Log)
 ll:Int→Log
 cl:Int→Int→Log
 vg:Int→Int→Option Int
 vl:Int→Int→Log
 gv:Int→Int→Prop
 ak:Int→Int→Nat
def LM (G:Gh) (l:Log):Prop:=∀ (p:Nat) (e:Entry),l[p]?=some e→(∃ c,G.el e.Term=some c)∧l.take (p+1) <+: G.ll e.Term
theorem LM.pre {G:Gh} {a b:Log} (h:LM G b) (hp:a <+: b):LM G a:=fun p e he=>by
 obtain ⟨h1,h2⟩:=h p e (pre_get hp he)
 have hl:=(List.getElem?_eq_some_iff.1 he).1
 rw [pre_take hp (by omega)] at h2
 exact ⟨h1,h2⟩
theorem LM.last {G:Gh} {l:Log} (h:LM G l) (h0:0<l.length):(∃ c,G.el (lastT l)=some c)∧l <+: G.ll (lastT l):=by
 obtain ⟨e,he⟩:=last_is h0
 obtain ⟨h1,h2⟩:=h _ e he
 rw [lastT_get h0 he]
 rw [show l.length - 1+1=l.length by omega,List.take_length] at h2
 exact ⟨h1,h2⟩
theorem LM.same {G:Gh} {a b:Log} (ha:LM G a) (hb:LM G b) {p:Nat} {x y:Entry} (h1:a[p]?=some x) (h2:b[p]?=some y) (e:x.Term=y.Term):a.take (p+1)=b.take (p+1):=by
 have l1:=(List.getElem?_eq_some_iff.1 h1).1
 have l2:=(List.getElem?_eq_some_iff.1 h2).1
 have g1:=(ha p x h1).2
 have g2:=(hb p y h2).2
 rw [← e] at g2
 have k1:(a.take (p+1)).length=p+1:=by rw [List.length_take]; omega
 have k2:(b.take (p+1)).length=p+1:=by rw [List.length_take]; omega
 exact (pre_pre g1 g2 (by omega)).eq_of_length (by omega)
def Cm (n:Nat) (G:Gh) (T:Int) (k:Nat):Prop:=0<k∧(∃ e:Entry,(G.ll T)[k - 1]?=some e∧e.Term=T)∧∃ Q:List Int,Q.Nodup∧n<2*Q.length∧∀ j∈Q,isN n j∧k≤G.ak j T
def Bet (G:Gh) (w:Log) (T U:Int):Prop:=∀ S,T<S→S<U→∀ c l,G.el S=some (c,l)→w <+: l
structure GG (n:Nat) (G:Gh):Prop where
 el1:∀ T c l,G.el T=some (c,l)→1≤T∧isN n c∧l <+: G.ll T∧∀ (p:Nat) (e:Entry),l[p]?=some e→e.Term<T
 el2:∀ T c l,G.el T=some (c,l)→∀ (p:Nat) (e:Entry),l.length≤p→(G.ll T)[p]?=some e→e.Term=T
 el3:∀ T c l,G.el T=some (c,l)→∃ Q:List Int,Q.Nodup∧n<2*Q.length∧∀ j∈Q,isN n j∧G.vg j T=some c∧G.gv j T∧NW (G.vl j T) l
 eln:∀ T,G.el T=none→G.ll T=[]
 llm:∀ T,LM G (G.ll T)
 llt:∀ T,MT (G.ll T)
 akl:∀ j T,G.ak j T≤(G.ll T).length
 vlt:∀ j T,G.gv j T→LM G (G.vl j T)∧MT (G.vl j T)∧∀ (p:Nat) (e:Entry),(G.vl j T)[p]?=some e→e.Term<T
 vnw:∀ j T c,G.gv j T→G.vg j T=some c→NW (G.vl j T) (G.cl T c)
 vgg:∀ j T c,G.vg j T=some c→G.gv j T∨∃ x,G.el T=some x
 gvg:∀ j T,G.gv j T→∃ c,G.vg j T=some c
 vv:∀ j U,G.gv j U→∀ T,T<U→∀ k,k≤G.ak j T→Bet G ((G.ll T).take k) T U→(G.ll T).take k <+: G.vl j U
theorem lead_has {n:Nat} {G:Gh} (h:GG n G) {T:Int} {k:Nat} (hc:Cm n G T k):∀ (m:Nat) (U c:Int) (l:Log),U≤(m:Int)→T<U→G.el U=some (c,l)→(G.ll T).take k <+: l
 | 0,U,c,l,hm,hlt,he=>by have:=(h.el1 U c l he).1; omega
 | m+1,U,c,l,hm,hlt,he=>by
  have ih:Bet G ((G.ll T).take k) T U:=fun S h1 h2 c' l' h3=>lead_has h hc m S c' l' (by omega) h1 h3
  obtain ⟨k0,⟨e,he1,heT⟩,Q1,q1,q2,q3⟩:=hc
  obtain ⟨Q2,r1,r2,r3⟩:=h.el3 U c l he
  obtain ⟨j,j1,j2⟩:=meet q1 r1 (fun j hj=>(q3 j hj).1) (fun j hj=>(r3 j hj).1) q2 r2
  obtain ⟨-,hvg,hgv,hnw⟩:=r3 j j2
  have hv:=h.vv j U hgv T hlt k (q3 j j1).2 ih
  obtain ⟨v1,v2,v3⟩:=h.vlt j U hgv
  generalize G.vl j U=v at hv v1 v2 v3 hnw
  have hkl:k≤(G.ll T).length:=by have:=(List.getElem?_eq_some_iff.1 he1).1; omega
  have htl:((G.ll T).take k).length=k:=by rw [List.length_take]; omega
  have hvl:k≤v.length:=by have:=hv.length_le; omega
  have hvT:T≤lastT v:=by
   obtain ⟨x,hx⟩:=last_is (l:=v) (by omega)
   rw [lastT_get (by omega) hx,← heT]
   have hget:v[k - 1]?=some e:=by
    refine pre_get hv ?_
    rw [List.getElem?_take,if_pos (by omega)]; exact he1
   exact v2.1 _ _ _ _ (by omega) hget hx
  have hT1:1≤T:=by rw [← heT]; exact (h.llt T).2 _ _ he1
  have hl0:0<l.length:=by
   rcases Nat.eq_zero_or_pos l.length with q | q
   ·have:=lastT_nil q
    unfold NW at hnw
    omega
   ·exact q
  have hlpre:=(h.el1 U c l he).2.2.1
  have hlm:LM G l:=(h.llm U).pre hlpre
  obtain ⟨⟨⟨c',l'⟩,g1⟩,g2⟩:=hlm.last hl0
  have hsU:lastT l<U:=by
   obtain ⟨x,hx⟩:=last_is hl0
   rw [lastT_get hl0 hx]
   exact (h.el1 U c l he).2.2.2 _ _ hx
  by_cases hs:lastT l=T
  ·
   have hvl2:lastT v=T∧v.length≤l.length:=by unfold NW at hnw; omega
   obtain ⟨-,w2⟩:=v1.last (by omega)
   rw [hvl2.1] at w2
   rw [hs] at g2
   exact hv.trans (pre_pre w2 g2 hvl2.2)
  ·have hs2:T<lastT l:=by unfold NW at hnw; omega
   have hl':=ih (lastT l) hs2 hsU c' l' g1
   obtain ⟨-,-,f1,f2⟩:=h.el1 _ _ _ g1
   have hlen:l'.length≤l.length:=by
    rcases Nat.lt_or_ge l.length l'.length with q | q
    ·obtain ⟨x,hx⟩:=last_is hl0
     have hx2:=pre_get g2 hx
     have:l'[l.length - 1]?=some x:=by
      have hq:l.length - 1<l'.length:=by omega
      have:=pre_get f1 (List.getElem?_eq_getElem hq)
      rw [hx2] at this
      rw [List.getElem?_eq_getElem hq]; exact this.symm
     have:=f2 _ _ this
     rw [lastT_get hl0 hx] at this
     omega
    ·exact q
   exact hl'.trans (pre_pre f1 g2 hlen)
theorem cm_two {n:Nat} {G:Gh} (h:GG n G) {T U:Int} {k m:Nat} (h1:Cm n G T k) (h2:Cm n G U m) (hle:T≤U):(G.ll T).take k <+: G.ll U:=by
 rcases Int.lt_or_eq_of_le hle with q | q
 ·obtain ⟨m0,⟨e,he1,heT⟩,-⟩:=h2
  obtain ⟨⟨c,l⟩,hc⟩:=((h.llm U) _ _ he1).1
  rw [heT] at hc
  exact (lead_has h h1 U.toNat U c l (by have:=(h.el1 U c l hc).1; omega) q hc).trans (h.el1 U c l hc).2.2.1
 ·rw [← q]; exact List.take_prefix _ _
def KN (n:Nat) (G:Gh) (T0:Int) (l:Log) (c:Int):Prop:=0≤c∧c≤(l.length:Int)∧(c=0∨∃ T,T≤T0∧∃ k:Nat,c≤(k:Int)∧Cm n G T k∧l.take c.toNat <+: G.ll T)
theorem KN.up {n:Nat} {G:Gh} {T0 T1:Int} {l:Log} {c:Int} (h:KN n G T0 l c) (ht:T0≤T1):KN n G T1 l c:=by
 obtain ⟨h1,h2,h3⟩:=h
 refine ⟨h1,h2,?_⟩
 rcases h3 with h3 | ⟨T,a,b⟩
 ·exact .inl h3
 ·exact .inr ⟨T,by omega,b⟩
theorem KN.two {n:Nat} {G:Gh} (h:GG n G) {T0 T1:Int} {a b:Log} {c d:Int} (h1:KN n G T0 a c) (h2:KN n G T1 b d) (hcd:c≤d):a.take c.toNat <+: b.take d.toNat:=by
 obtain ⟨a1,a2,a3⟩:=h1
 obtain ⟨b1,b2,b3⟩:=h2
 rcases a3 with rfl | ⟨T,_,k,k1,k2,k3⟩
 ·exact List.nil_prefix
 ·rcases b3 with rfl | ⟨U,_,m,m1,m2,m3⟩
  ·have:c.toNat=0:=by omega
   rw [this]; exact List.nil_prefix
  ·have hkl:k≤(G.ll T).length:=by obtain ⟨k0,⟨e,he,_⟩,_⟩:=k2; have:=(List.getElem?_eq_some_iff.1 he).1; omega
   have hml:m≤(G.ll U).length:=by obtain ⟨k0,⟨e,he,_⟩,_⟩:=m2; have:=(List.getElem?_eq_some_iff.1 he).1; omega
   have l1:(a.take c.toNat).length=c.toNat:=by rw [List.length_take]; omega
   have l2:(b.take d.toNat).length=d.toNat:=by rw [List.length_take]; omega
   rcases Int.le_total T U with q | q
   ·
    have f:=cm_two h k2 m2 q
    have g:a.take c.toNat <+: (G.ll T).take k:=pre_pre k3 (List.take_prefix _ _) (by rw [l1,List.length_take]; omega)
    exact pre_pre (g.trans f) m3 (by omega)
   ·have f:=cm_two h m2 k2 q
    have g:b.take d.toNat <+: (G.ll U).take m:=pre_pre m3 (List.take_prefix _ _) (by rw [l2,List.length_take]; omega)
    exact pre_pre k3 (g.trans f) (by omega)
structure NI (n:Nat) (G:Gh) (i:Int) (x:Node):Prop where
 v0:x.Vote=0→G.vg i x.Term=none
 v1:x.Vote≠0→G.vg i x.Term=some (x.Vote - 1)
 fv:∀ T,x.Term<T→G.vg i T=none
 fa:∀ T,x.Term<T→G.ak i T=0
 fe:∀ T l,x.Term<T→G.el T≠some (i,l)
 fo:∀ j T,G.vg j T=some i→T≤x.Term
 ld:x.Role=2→(∃ l,G.el x.Term=some (i,l))∧x.Log=G.ll x.Term∧∀ j,isN n j→lget x.Have j≤(G.ak j x.Term:Int)
 st:x.Role=1→x.Log=G.cl x.Term i∧(∀ l,G.el x.Term≠some (i,l))∧∀ j∈x.Votes,isN n j∧G.vg j x.Term=some i
 A:∀ T k,T≤x.Term→k≤G.ak i T→Bet G ((G.ll T).take k) T (x.Term+1)→(G.ll T).take k <+: x.Log
 lm:LM G x.Log
 kn:KN n G x.Term x.Log x.Commit
structure MI (n:Nat) (G:Gh) (t:Int→Int) (m:Mail):Prop where
 fr:isN n m.From
 k1:m.Kind=1→m.Term≤t m.From∧((G.cl m.Term m.From).length:Int)=m.A∧lastT (G.cl m.Term m.From)=m.B
 k2:m.Kind=2→m.Ok=true→G.vg m.From m.Term=some m.To
 k3:m.Kind=3→(∃ l,G.el m.Term=some (m.From,l))∧0≤m.A∧m.A.toNat+m.Entries.length≤(G.ll m.Term).length∧m.Entries=((G.ll m.Term).take (m.A.toNat+m.Entries.length)).drop m.A.toNat∧m.B=tat (G.ll m.Term) m.A∧KN n G m.Term (G.ll m.Term) m.C0
 k4:m.Kind=4→m.Ok=true→m.A≤(G.ak m.From m.Term:Int)
structure Ex (i t0:Int) (t:Int→Int) (G H:Gh):Prop where
 el:∀ T x,G.el T=some x→H.el T=some x
 eln:∀ T j l,j≠i→H.el T=some (j,l)→G.el T=some (j,l)
 ll:∀ T,G.ll T <+: H.ll T
 lln:∀ T j l,j≠i→H.el T=some (j,l)→H.ll T=G.ll T
 cl:∀ T c,c≠i∨T≤t0→H.cl T c=G.cl T c
 vg:∀ j T c,G.vg j T=some c→H.vg j T=some c
 vgn:∀ j T,j≠i→H.vg j T=G.vg j T
 ak:∀ j T,G.ak j T≤H.ak j T
 akn:∀ j T,j≠i→H.ak j T=G.ak j T
 nv:∀ T c,c≠i→H.vg i T=some c→G.vg i T=some c∨T≤t c
theorem Ex.refl (i t0:Int) (t:Int→Int) (G:Gh):Ex i t0 t G G:=
 ⟨fun _ _ h=>h,fun _ _ _ _ h=>h,fun _=>List.prefix_refl _,fun _ _ _ _ _=>rfl,fun _ _ _=>rfl,fun _ _ _ h=>h,fun _ _ _=>rfl,fun _ _=>Nat.le_refl _,fun _ _ _=>rfl,fun _ _ _ h=>.inl h⟩
theorem Ex.trans {i t0 t1:Int} {t t':Int→Int} {G H K:Gh} (a:Ex i t0 t G H) (b:Ex i t1 t' H K) (h01:t0≤t1) (htt:∀ c,c≠i→t' c=t c):Ex i t0 t G K:=by
 refine ⟨fun T x h=>b.el T x (a.el T x h),fun T j l hj h=>a.eln T j l hj (b.eln T j l hj h),fun T=>(a.ll T).trans (b.ll T),fun T j l hj h=>(b.lln T j l hj h).trans (a.lln T j l hj (b.eln T j l hj h)),fun T c hc=>(b.cl T c ?_).trans (a.cl T c hc),
  fun j T c h=>b.vg j T c (a.vg j T c h),fun j T hj=>(b.vgn j T hj).trans (a.vgn j T hj),fun j T=>Nat.le_trans (a.ak j T) (b.ak j T),fun j T hj=>(b.akn j T hj).trans (a.akn j T hj),fun T c hc h=>?_⟩
 ·rcases hc with q | q
  ·exact .inl q
  ·exact .inr (by omega)
 ·rcases b.nv T c hc h with q | q
  ·exact a.nv T c hc q
  ·rw [htt c hc] at q; exact .inr q
theorem tat_pre {a b:Log} (h:a <+: b) {p:Int} (hp:p≤(a.length:Int)):tat b p=tat a p:=by
 have hl:=h.length_le
 unfold tat
 by_cases c:p<1
 ·rw [if_pos (.inl c),if_pos (.inl c)]
 ·rw [if_neg (by omega),if_neg (by omega)]
  obtain ⟨k,hk⟩:∃ k:Nat,p - 1=(k:Int):=⟨(p - 1).toNat,by omega⟩
  rw [hk]
  have hka:k<a.length:=by omega
  have:=pre_get h (List.getElem?_eq_getElem hka)
  simp [lget,List.getD,this,List.getElem?_eq_getElem hka]
theorem Cm.le {n:Nat} {G:Gh} {T:Int} {k:Nat} (h:Cm n G T k):k≤(G.ll T).length:=by
 obtain ⟨k0,⟨e,he,_⟩,_⟩:=h
 have:=(List.getElem?_eq_some_iff.1 he).1
 omega
section
variable {n:Nat} {i t0:Int} {t:Int→Int} {G H:Gh}
theorem Cm.ex (e:Ex i t0 t G H) {T:Int} {k:Nat} (h:Cm n G T k):Cm n H T k:=by
 obtain ⟨k0,⟨x,hx,hT⟩,Q,q1,q2,q3⟩:=h
 exact ⟨k0,⟨x,pre_get (e.ll T) hx,hT⟩,Q,q1,q2,fun j hj=>⟨(q3 j hj).1,Nat.le_trans (q3 j hj).2 (e.ak j T)⟩⟩
theorem KN.ex (e:Ex i t0 t G H) {T0:Int} {l:Log} {c:Int} (h:KN n G T0 l c):KN n H T0 l c:=by
 obtain ⟨h1,h2,h3⟩:=h
 refine ⟨h1,h2,?_⟩
 rcases h3 with h3 | ⟨T,a,k,b,d,f⟩
 ·exact .inl h3
 ·exact .inr ⟨T,a,k,b,d.ex e,f.trans (e.ll T)⟩
theorem KN.grow {T0:Int} {l m:Log} {c:Int} (h:KN n G T0 l c) (hp:l <+: m):KN n G T0 m c:=by
 obtain ⟨h1,h2,h3⟩:=h
 have:=hp.length_le
 refine ⟨h1,by omega,?_⟩
 rcases h3 with h3 | ⟨T,a,k,b,d,f⟩
 ·exact .inl h3
 ·exact .inr ⟨T,a,k,b,d,by rw [pre_take hp (by omega)]; exact f⟩
theorem LM.ex (e:Ex i t0 t G H) {l:Log} (h:LM G l):LM H l:=fun p x hx=>by
 obtain ⟨⟨c,hc⟩,h2⟩:=h p x hx
 exact ⟨⟨c,e.el _ _ hc⟩,h2.trans (e.ll _)⟩
theorem Bet.ex (e:Ex i t0 t G H) {w:Log} {T U:Int} (h:Bet H w T U):Bet G w T U:=fun S h1 h2 c l hc=>h S h1 h2 c l (e.el _ _ hc)
theorem NI.other (hG:GG n G) (e:Ex i t0 t G H) {j:Int} (hj:j≠i) {x:Node} (ht:t j=x.Term) (h:NI n G j x):NI n H j x:=by
 refine ⟨fun q=>(e.vgn j _ hj).trans (h.v0 q),fun q=>(e.vgn j _ hj).trans (h.v1 q),fun T q=>(e.vgn j _ hj).trans (h.fv T q),fun T q=>(e.akn j _ hj).trans (h.fa T q),fun T l q c=>h.fe T l q (e.eln T j l hj c),fun k T q=>?_,fun q=>?_,fun q=>?_,fun T k hT hk hb=>?_,h.lm.ex e,h.kn.ex e⟩
 ·by_cases c:k=i
  ·subst c
   rcases e.nv T j hj q with d | d
   ·exact h.fo k T d
   ·omega
  ·rw [e.vgn k T c] at q; exact h.fo k T q
 ·obtain ⟨⟨l,h1⟩,h2,h3⟩:=h.ld q
  have h4:=e.el _ _ h1
  refine ⟨⟨l,h4⟩,by rw [h2,e.lln _ j l hj h4],fun k hk=>?_⟩
  have:=h3 k hk
  have:=e.ak k x.Term
  omega
 ·obtain ⟨h1,h2,h3⟩:=h.st q
  refine ⟨by rw [h1,e.cl _ j (.inl hj)],fun l c=>h2 l (e.eln _ j l hj c),fun k hk=>⟨(h3 k hk).1,e.vg _ _ _ (h3 k hk).2⟩⟩
 ·rw [e.akn j T hj] at hk
  rw [pre_take (e.ll T) (Nat.le_trans hk (hG.akl j T))] at hb ⊢
  exact h.A T k hT hk (hb.ex e)
theorem MI.ex (e:Ex i t0 t G H) {t':Int→Int} (h0:t i=t0) (htt:∀ c,t c≤t' c) {m:Mail} (h:MI n G t m):MI n H t' m:=by
 refine ⟨h.fr,fun q=>?_,fun q o=>e.vg _ _ _ (h.k2 q o),fun q=>?_,fun q o=>?_⟩
 ·obtain ⟨h1,h2,h3⟩:=h.k1 q
  have:H.cl m.Term m.From=G.cl m.Term m.From:=by
   refine e.cl _ _ ?_
   by_cases c:m.From=i
   ·rw [c] at h1; exact .inr (by omega)
   ·exact .inl c
  rw [this]
  have:=htt m.From
  exact ⟨by omega,h2,h3⟩
 ·obtain ⟨⟨l,h1⟩,h2,h3,h4,h5,h6⟩:=h.k3 q
  have hp:=e.ll m.Term
  have hl:=hp.length_le
  refine ⟨⟨l,e.el _ _ h1⟩,h2,by omega,by rw [pre_take hp h3]; exact h4,by rw [h5,tat_pre hp (by omega)],(h6.ex e).grow hp⟩
 ·have:=h.k4 q o
  have:=e.ak m.From m.Term
  omega
end
section
variable {n:Nat} {G:Gh}
def gVote (G:Gh) (i T c:Int) (log:Log):Gh:=
 { G with vg:=fun a b=>if a=i∧b=T then some c else G.vg a b,gv:=fun a b=>G.gv a b∨(a=i∧b=T∧G.el T=none),vl:=fun a b=>if a=i∧b=T then log else G.vl a b }
theorem gVote_vg {i T c:Int} {log:Log}:(gVote G i T c log).vg i T=some c:=if_pos ⟨rfl,rfl⟩
theorem gVote_vl {i T c:Int} {log:Log}:(gVote G i T c log).vl i T=log:=if_pos ⟨rfl,rfl⟩
theorem gVote_vg_ne {i T c j U:Int} {log:Log} (h:¬ (j=i∧U=T)):(gVote G i T c log).vg j U=G.vg j U:=if_neg h
theorem gVote_vl_ne {i T c j U:Int} {log:Log} (h:¬ (j=i∧U=T)):(gVote G i T c log).vl j U=G.vl j U:=if_neg h
theorem gg_vote (h:GG n G) {i T c:Int} {log:Log} (hv:G.vg i T=none) (hlm:LM G log) (hmt:MT log) (hn:G.el T=none→(∀ (p:Nat) (e:Entry),log[p]?=some e→e.Term<T)∧NW log (G.cl T c)∧∀ T0,T0<T→∀ k,k≤G.ak i T0→Bet G ((G.ll T0).take k) T0 T→(G.ll T0).take k <+: log) :
  GG n (gVote G i T c log):=by
 have hne:∀ {j U x},G.vg j U=some x→¬ (j=i∧U=T):=fun {j U x} q d=>by rw [d.1,d.2,hv] at q; cases q
 have hgn:∀ {j U},G.gv j U→¬ (j=i∧U=T):=fun {j U} q d=>by obtain ⟨x,hx⟩:=h.gvg j U q; exact hne hx d
 refine { el1:=h.el1,el2:=h.el2,el3:=fun U d l he=>?_,eln:=h.eln,llm:=h.llm,llt:=h.llt,akl:=h.akl,vlt:=fun j U hg=>?_,vnw:=fun j U d hg hd=>?_,vgg:=fun j U d hd=>?_,gvg:=fun j U hg=>?_,vv:=fun j U hg T0 hlt k hk hb=>?_ }
 ·obtain ⟨Q,q1,q2,q3⟩:=h.el3 U d l he
  refine ⟨Q,q1,q2,fun j hj=>?_⟩
  obtain ⟨a1,a2,a3,a4⟩:=q3 j hj
  have hz:=hne a2
  exact ⟨a1,by rw [gVote_vg_ne hz]; exact a2,.inl a3,by rw [gVote_vl_ne hz]; exact a4⟩
 ·rcases hg with hg | ⟨rfl,rfl,hg⟩
  ·rw [gVote_vl_ne (hgn hg)]; exact h.vlt j U hg
  ·rw [gVote_vl]; exact ⟨hlm,hmt,(hn hg).1⟩
 ·rcases hg with hg | ⟨rfl,rfl,hg⟩
  ·rw [gVote_vg_ne (hgn hg)] at hd
   rw [gVote_vl_ne (hgn hg)]; exact h.vnw j U d hg hd
  ·rw [gVote_vg] at hd
   rw [gVote_vl]
   cases hd; exact (hn hg).2.1
 ·by_cases q:j=i∧U=T
  ·obtain ⟨rfl,rfl⟩:=q
   cases he:G.el U with
   | none=>exact .inl (.inr ⟨rfl,rfl,he⟩)
   | some x=>exact .inr ⟨x,he⟩
  ·rw [gVote_vg_ne q] at hd
   rcases h.vgg j U d hd with e | e
   ·exact .inl (.inl e)
   ·exact .inr e
 ·rcases hg with hg | ⟨rfl,rfl,hg⟩
  ·rw [gVote_vg_ne (hgn hg)]; exact h.gvg j U hg
  ·exact ⟨c,gVote_vg⟩
 ·rcases hg with hg | ⟨rfl,rfl,hg⟩
  ·rw [gVote_vl_ne (hgn hg)]; exact h.vv j U hg T0 hlt k hk hb
  ·rw [gVote_vl]; exact (hn hg).2.2 T0 hlt k hk hb
def gCl (G:Gh) (i T:Int) (log:Log):Gh:={ G with cl:=fun a b=>if a=T∧b=i then log else G.cl a b }
theorem gg_cl (h:GG n G) {i T:Int} {log:Log} (hf:∀ j,G.vg j T≠some i):GG n (gCl G i T log):=by
 refine ⟨h.el1,h.el2,h.el3,h.eln,h.llm,h.llt,h.akl,h.vlt,fun j U d hg hd=>?_,h.vgg,h.gvg,h.vv⟩
 show NW _ (if _ then _ else _)
 rw [if_neg (fun q=>hf j (by rw [← q.1,← q.2]; exact hd))]
 exact h.vnw j U d hg hd
def gEl (G:Gh) (i T:Int) (log:Log):Gh:=
 { G with el:=fun a=>if a=T then some (i,log) else G.el a,ll:=fun a=>if a=T then log else G.ll a,ak:=fun a b=>if a=i∧b=T then log.length else G.ak a b }
theorem gg_el (h:GG n G) {i T:Int} {log:Log} {Q:List Int} (hn:G.el T=none) (h1:1≤T) (hi:isN n i) (hlm:LM G log) (hmt:MT log) (hlt:∀ (p:Nat) (e:Entry),log[p]?=some e→e.Term<T) (hfv:∀ U,T<U→G.vg i U=none) (hcl:log=G.cl T i) (q1:Q.Nodup) (q2:n<2*Q.length) (q3:∀ j∈Q,isN n j∧G.vg j T=some i) :
  GG n (gEl G i T log)∧∀ t,Ex i T t G (gEl G i T log):=by
 have hll:=h.eln T hn
 have hak:∀ j,G.ak j T=0:=fun j=>by have:=h.akl j T; rw [hll] at this; simpa using this
 have hex:∀ t,Ex i T t G (gEl G i T log):=fun t=>by
  refine ⟨fun U x hx=>?_,fun U j l hj hx=>?_,fun U=>?_,fun U j l hj hx=>?_,fun _ _ _=>rfl,fun _ _ _ q=>q,fun _ _ _=>rfl,fun j U=>?_,fun j U hj=>?_,fun _ _ _ q=>.inl q⟩
  ·show (if _ then _ else _)=_
   rw [if_neg (fun q=>by rw [q,hn] at hx; cases hx)]; exact hx
  ·have hx:(if U=T then some (i,log) else G.el U)=some (j,l):=hx
   by_cases q:U=T
   ·rw [if_pos q] at hx; cases hx; exact absurd rfl hj
   ·rw [if_neg q] at hx; exact hx
  ·show _ <+: (if _ then _ else _)
   by_cases q:U=T
   ·rw [if_pos q,q,hll]; exact List.nil_prefix
   ·rw [if_neg q]; exact List.prefix_refl _
  ·have hx:(if U=T then some (i,log) else G.el U)=some (j,l):=hx
   show (if _ then _ else _)=_
   by_cases q:U=T
   ·rw [if_pos q] at hx; cases hx; exact absurd rfl hj
   ·rw [if_neg q]
  ·show _≤(if _ then _ else _)
   by_cases q:j=i∧U=T
   ·rw [if_pos q,q.1,q.2,hak]; exact Nat.zero_le _
   ·rw [if_neg q]; exact Nat.le_refl _
  ·show (if _ then _ else _)=_
   rw [if_neg (fun q=>hj q.1)]
 refine ⟨?_,hex⟩
 have e:=hex (fun _=>0)
 have hlmH:∀ l,LM G l→LM (gEl G i T log) l:=fun l q=>q.ex e
 refine ⟨fun U c l he=>?_,fun U c l he p x hp hx=>?_,fun U c l he=>?_,fun U he=>?_,fun U=>?_,fun U=>?_,fun j U=>?_,fun j U hg=>⟨hlmH _ (h.vlt j U hg).1,(h.vlt j U hg).2⟩,h.vnw,fun j U c q=>?_,h.gvg,fun j U hg T0 hlt0 k hk hb=>?_⟩
 ·have he:(if U=T then some (i,log) else G.el U)=some (c,l):=he
  show _∧_∧_ <+: (if _ then _ else _)∧_
  by_cases q:U=T
  ·rw [if_pos q] at he ⊢; cases he; subst q; exact ⟨h1,hi,List.prefix_refl _,hlt⟩
  ·rw [if_neg q] at he ⊢; exact h.el1 U c l he
 ·have he:(if U=T then some (i,log) else G.el U)=some (c,l):=he
  have hx:(if U=T then log else G.ll U)[p]?=some x:=hx
  by_cases q:U=T
  ·rw [if_pos q] at he hx; cases he; have:=(List.getElem?_eq_some_iff.1 hx).1; omega
  ·rw [if_neg q] at he hx; exact h.el2 U c l he p x hp hx
 ·have he:(if U=T then some (i,log) else G.el U)=some (c,l):=he
  by_cases q:U=T
  ·rw [if_pos q] at he; cases he; subst q
   refine ⟨Q,q1,q2,fun j hj=>?_⟩
   obtain ⟨a,b⟩:=q3 j hj
   have hg:G.gv j U:=by
    rcases h.vgg j U i b with g | ⟨x,g⟩
    ·exact g
    ·rw [hn] at g; cases g
   exact ⟨a,b,hg,by rw [hcl]; exact h.vnw j U i hg b⟩
  ·rw [if_neg q] at he; exact h.el3 U c l he
 ·have he:(if U=T then some (i,log) else G.el U)=none:=he
  show (if _ then _ else _)=_
  by_cases q:U=T
  ·rw [if_pos q] at he; cases he
  ·rw [if_neg q] at he ⊢; exact h.eln U he
 ·show LM _ (if _ then _ else _)
  by_cases q:U=T
  ·rw [if_pos q]; exact hlmH _ hlm
  ·rw [if_neg q]; exact hlmH _ (h.llm U)
 ·show MT (if _ then _ else _)
  by_cases q:U=T
  ·rw [if_pos q]; exact hmt
  ·rw [if_neg q]; exact h.llt U
 ·show (if _ then _ else _)≤(if _ then _ else _:Log).length
  by_cases q:U=T
  ·rw [if_pos q]
   by_cases r:j=i
   ·rw [if_pos ⟨r,q⟩]; exact Nat.le_refl _
   ·rw [if_neg (fun w=>r w.1),q,hak]; exact Nat.zero_le _
  ·rw [if_neg q,if_neg (fun w=>q w.2)]; exact h.akl j U
 ·rcases h.vgg j U c q with g | ⟨x,g⟩
  ·exact .inl g
  ·exact .inr ⟨x,e.el _ _ g⟩
 ·have hk:k≤(if j=i∧T0=T then log.length else G.ak j T0):=hk
  have hb:Bet (gEl G i T log) ((if T0=T then log else G.ll T0).take k) T0 U:=hb
  show (if T0=T then log else G.ll T0).take k <+: G.vl j U
  by_cases r:T0=T
  ·by_cases w:j=i
   ·obtain ⟨x,hx⟩:=h.gvg j U hg
    rw [w,hfv U (by omega)] at hx; cases hx
   ·rw [if_neg (fun z=>w z.1),r,hak] at hk
    have:k=0:=by omega
    rw [this]; exact List.nil_prefix
  ·rw [if_neg (fun z=>r z.2)] at hk
   rw [if_neg r] at hb ⊢
   exact h.vv j U hg T0 hlt0 k hk (hb.ex e)
def gPr (G:Gh) (i T:Int) (e:Entry):Gh:={ G with ll:=fun a=>if a=T then G.ll T++[e] else G.ll a,ak:=fun a b=>if a=i∧b=T then (G.ll T).length+1 else G.ak a b }
theorem get_app1 {α:Type} {l:List α} {e x:α} {p:Nat} (h:(l++[e])[p]?=some x):l[p]?=some x∨(p=l.length∧x=e):=by
 by_cases c:p<l.length
 ·rw [List.getElem?_append_left c] at h; exact .inl h
 ·have hl:=(List.getElem?_eq_some_iff.1 h).1
  rw [List.length_append,List.length_singleton] at hl
  have:p=l.length:=by omega
  subst this
  rw [List.getElem?_append_right (Nat.le_refl _),Nat.sub_self] at h
  simp at h
  exact .inr ⟨rfl,h.symm⟩
theorem MT.snoc {l:Log} {e:Entry} (h:MT l) (h1:1≤e.Term) (hle:∀ (p:Nat) (x:Entry),l[p]?=some x→x.Term≤e.Term):MT (l++[e]):=by
 refine ⟨fun p q a b hpq ha hb=>?_,fun p a ha=>?_⟩
 ·rcases get_app1 ha with ha2 | ⟨pa,ea⟩ <;> rcases get_app1 hb with hb2 | ⟨pb,eb⟩
  ·exact h.1 p q a b hpq ha2 hb2
  ·rw [eb]; exact hle p a ha2
  ·have:=(List.getElem?_eq_some_iff.1 hb2).1; omega
  ·rw [ea,eb]; exact Int.le_refl _
 ·rcases get_app1 ha with ha2 | ⟨pa,ea⟩
  ·exact h.2 p a ha2
  ·rw [ea]; exact h1
theorem gg_pr (h:GG n G) {i T:Int} {e:Entry} {l:Log} (hel:G.el T=some (i,l)) (het:e.Term=T) (hfv:∀ U,T<U→G.vg i U=none):GG n (gPr G i T e)∧∀ t,Ex i T t G (gPr G i T e):=by
 obtain ⟨b1,b2,b3,b4⟩:=h.el1 T i l hel
 have hex:∀ t,Ex i T t G (gPr G i T e):=fun t=>by
  refine ⟨fun U x hx=>hx,fun U j l hj hx=>hx,fun U=>?_,fun U j l2 hj hx=>?_,fun _ _ _=>rfl,fun _ _ _ q=>q,fun _ _ _=>rfl,fun j U=>?_,fun j U hj=>?_,fun _ _ _ q=>.inl q⟩
  ·show _ <+: (if _ then _ else _)
   by_cases q:U=T
   ·rw [if_pos q,q]; exact List.prefix_append _ _
   ·rw [if_neg q]; exact List.prefix_refl _
  ·have hx:G.el U=some (j,l2):=hx
   show (if _ then _ else _)=_
   rw [if_neg (fun q=>by rw [q,hel] at hx; cases hx; exact hj rfl)]
  ·show _≤(if _ then _ else _)
   by_cases q:j=i∧U=T
   ·rw [if_pos q,q.1,q.2]; have:=h.akl i T; omega
   ·rw [if_neg q]; exact Nat.le_refl _
  ·show (if _ then _ else _)=_
   rw [if_neg (fun q=>hj q.1)]
 refine ⟨?_,hex⟩
 have ex:=hex (fun _=>0)
 have hle:∀ (p:Nat) (x:Entry),(G.ll T)[p]?=some x→x.Term≤e.Term:=fun p x hx=>by
  rw [het]
  by_cases c:p<l.length
  ·have:=pre_get b3 (List.getElem?_eq_getElem c)
   rw [hx] at this
   cases this
   have:=b4 p _ (List.getElem?_eq_getElem c)
   omega
  ·exact Int.le_of_eq (h.el2 T i l hel p x (by omega) hx)
 refine ⟨fun U c l2 he=>?_,fun U c l2 he p x hp hx=>?_,h.el3,fun U he=>?_,fun U=>?_,fun U=>?_,fun j U=>?_,fun j U hg=>⟨(h.vlt j U hg).1.ex ex,(h.vlt j U hg).2⟩,h.vnw,h.vgg,h.gvg,fun j U hg T0 hlt0 k hk hb=>?_⟩
 ·obtain ⟨c1,c2,c3,c4⟩:=h.el1 U c l2 he
  exact ⟨c1,c2,c3.trans (ex.ll U),c4⟩
 ·have hx:(if U=T then G.ll T++[e] else G.ll U)[p]?=some x:=hx
  by_cases q:U=T
  ·rw [if_pos q] at hx
   rcases get_app1 hx with hx | ⟨pa,rfl⟩
   ·rw [q]; exact h.el2 T c l2 (q▸he) p x hp hx
   ·rw [q]; exact het
  ·rw [if_neg q] at hx; exact h.el2 U c l2 he p x hp hx
 ·show (if _ then _ else _)=_
  have he:G.el U=none:=he
  rw [if_neg (fun q=>by rw [q,hel] at he; cases he)]; exact h.eln U he
 ·show LM _ (if _ then _ else _)
  by_cases q:U=T
  ·rw [if_pos q]
   intro p x hx
   rcases get_app1 hx with hx2 | ⟨pa,rfl⟩
   ·have hl:=(List.getElem?_eq_some_iff.1 hx2).1
    have:=((h.llm T).ex ex) p x hx2
    rw [List.take_append_of_le_length (by omega)]
    exact this
   ·rw [pa,List.take_of_length_le (by simp)]
    refine ⟨⟨_,by rw [het]; exact hel⟩,?_⟩
    show _ <+: (if _ then _ else _)
    rw [if_pos het]; exact List.prefix_refl _
  ·rw [if_neg q]; exact (h.llm U).ex ex
 ·show MT (if _ then _ else _)
  by_cases q:U=T
  ·rw [if_pos q]; exact (h.llt T).snoc (by omega) hle
  ·rw [if_neg q]; exact h.llt U
 ·show (if _ then _ else _)≤(if _ then _ else _:Log).length
  by_cases q:U=T
  ·rw [if_pos q,List.length_append,List.length_singleton]
   by_cases r:j=i
   ·rw [if_pos ⟨r,q⟩]; exact Nat.le_refl _
   ·rw [if_neg (fun w=>r w.1),q]; have:=h.akl j T; omega
  ·rw [if_neg q,if_neg (fun w=>q w.2)]; exact h.akl j U
 ·have hk:k≤(if j=i∧T0=T then (G.ll T).length+1 else G.ak j T0):=hk
  by_cases w:j=i∧T0=T
  ·obtain ⟨x,hx⟩:=h.gvg j U hg
   rw [w.1,hfv U (by omega)] at hx; cases hx
  ·rw [if_neg w] at hk
   have hp:=pre_take (ex.ll T0) (Nat.le_trans hk (h.akl j T0))
   rw [hp] at hb ⊢
   exact h.vv j U hg T0 hlt0 k hk (hb.ex ex)
def gAk (G:Gh) (i T:Int) (m:Nat):Gh:={ G with ak:=fun a b=>if a=i∧b=T then max (G.ak i T) m else G.ak a b }
theorem gg_ak (h:GG n G) {i T:Int} {m:Nat} (hm:m≤(G.ll T).length) (hfv:∀ U,T<U→G.vg i U=none):GG n (gAk G i T m)∧∀ t t0,Ex i t0 t G (gAk G i T m):=by
 refine ⟨⟨h.el1,h.el2,h.el3,h.eln,h.llm,h.llt,fun j U=>?_,h.vlt,h.vnw,h.vgg,h.gvg,fun j U hg T0 hlt0 k hk hb=>?_⟩,fun t t0=>?_⟩
 ·show (if _ then _ else _)≤_
  by_cases q:j=i∧U=T
  ·rw [if_pos q,q.2]; have:=h.akl i T; exact Nat.max_le.2 ⟨this,hm⟩
  ·rw [if_neg q]; exact h.akl j U
 ·have hk:k≤(if j=i∧T0=T then max (G.ak i T) m else G.ak j T0):=hk
  by_cases w:j=i∧T0=T
  ·obtain ⟨x,hx⟩:=h.gvg j U hg
   rw [w.1,hfv U (by omega)] at hx; cases hx
  ·rw [if_neg w] at hk
   exact h.vv j U hg T0 hlt0 k hk hb
 ·refine ⟨fun U x hx=>hx,fun U j l hj hx=>hx,fun U=>List.prefix_refl _,fun _ _ _ _ _=>rfl,fun _ _ _=>rfl,fun _ _ _ q=>q,fun _ _ _=>rfl,fun j U=>?_,fun j U hj=>?_,fun _ _ _ q=>.inl q⟩
  ·show _≤(if _ then _ else _)
   by_cases q:j=i∧U=T
   ·rw [if_pos q,q.1,q.2]; exact Nat.le_max_left _ _
   ·rw [if_neg q]; exact Nat.le_refl _
  ·show (if _ then _ else _)=_
   rw [if_neg (fun q=>hj q.1)]
end
theorem chk_mt:∀ (l:Log) (last i:Int),(chk l last i).Code=0→(∀ (p:Nat) (a:Entry),l[p]?=some a→last≤a.Term)∧MT l
 | [],last,i,h=>⟨fun p a h=>(by cases h),fun p q a b _ h=>(by cases h),fun p a h=>(by cases h)⟩
 | e::l,last,i,h=>by
  rw [chk] at h
  by_cases c1:e.Term<1∨1000000000<e.Term
  ·rw [if_pos c1] at h; cases h
  rw [if_neg c1] at h
  by_cases c2:e.Term<last
  ·rw [if_pos c2] at h; cases h
  rw [if_neg c2] at h
  by_cases c3:200<(e.Text.length:Int)
  ·rw [if_pos c3] at h; cases h
  rw [if_neg c3] at h
  obtain ⟨h1,h2,h3⟩:=chk_mt l e.Term _ h
  refine ⟨fun p a ha=>?_,fun p q a b hpq ha hb=>?_,fun p a ha=>?_⟩
  ·cases p with
   | zero=>simp at ha; subst ha; omega
   | succ p=>have:=h1 p a (by simpa using ha); omega
  ·cases p with
   | zero=>
    simp at ha; subst ha
    cases q with
    | zero=>simp at hb; subst hb; exact Int.le_refl _
    | succ q=>exact h1 q b (by simpa using hb)
   | succ p=>
    cases q with
    | zero=>omega
    | succ q=>exact h2 p q a b (by omega) (by simpa using ha) (by simpa using hb)
  ·cases p with
   | zero=>simp at ha; subst ha; omega
   | succ p=>exact h3 p a (by simpa using ha)
theorem fof_mt {l:Log} (h:(fof l).Code=0):MT l:=by
 unfold fof at h
 split at h
 ·cases h
 ·exact (chk_mt l 0 0 h).2
theorem MT.le {l:Log} (h:MT l) {p:Nat} {a:Entry} (hp:l[p]?=some a):a.Term≤lastT l:=by
 have hl:=(List.getElem?_eq_some_iff.1 hp).1
 obtain ⟨x,hx⟩:=last_is (l:=l) (by omega)
 rw [lastT_get (by omega) hx]
 exact h.1 _ _ _ _ (by omega) hp hx
theorem NGood.mt {x:Node} (h:NGood x):MT x.Log:=fof_mt h.log
theorem NGood.le {x:Node} (h:NGood x) {p:Nat} {a:Entry} (hp:x.Log[p]?=some a):a.Term≤x.Term:=by
 have h1:=h.mt.le hp
 have h2:=h.last
 unfold lastT at h1
 omega
theorem Bet.le {G:Gh} {w:Log} {T U U':Int} (h:Bet G w T U) (hu:U'≤U):Bet G w T U':=fun S h1 h2=>h S h1 (by omega)
theorem lget_rset {n i j:Int} {v:Int} (hi:0≤i∧i<n) (hj:0≤j∧j<n):lget ((List.replicate n.toNat (0:Int)).set i.toNat v) j=if j=i then v else 0:=by
 have hl:(List.replicate n.toNat (0:Int)).length=n.toNat:=List.length_replicate
 have:=lget_lset (List.replicate n.toNat (0:Int)) i j v (by omega) (by omega)
 unfold lset at this
 rw [this]
 split
 ·rfl
 ·simp [lget,List.getD,List.getElem?_replicate]
  split <;> rfl
section
variable {n:Nat} {G:Gh} {i:Int} {x:Node}
theorem cntD_cases (g:Nat→Bool) (c:Nat):∀ k,cntD g c k=c∨(c<cntD g c k∧cntD g c k≤k∧g (cntD g c k)=true)
 | 0=>.inl rfl
 | k+1=>by
  rw [cntD]
  by_cases h1:k+1≤c
  ·rw [if_pos h1]; exact .inl rfl
  ·rw [if_neg h1]
   by_cases h2:g (k+1)=true
   ·rw [if_pos h2]; exact .inr ⟨by omega,Nat.le_refl _,h2⟩
   ·rw [if_neg h2]
    rcases cntD_cases g c k with h | ⟨a,b,d⟩
    ·exact .inl h
    ·exact .inr ⟨a,by omega,d⟩
theorem have_list (l:List Int) (k:Int):∀ m:Nat,m≤l.length→(((List.range m).filter fun (j:Nat)=>decide (k≤lget l (j:Int))).map fun (j:Nat)=>(j:Int)).length=haveN (l.take m) k
 | 0,_=>by simp [haveN]
 | m+1,h=>by
  rw [haveN_take l k m (by omega),← have_list l k m (by omega),List.range_succ,List.filter_append,List.map_append,List.length_append]
  by_cases c:k≤lget l (m:Int) <;> simp [c]
theorem kn_count (hG:GG n G) {T:Int} {log:Log} {hv:List Int} {c N:Int} (hlog:log=G.ll T) (h1:1≤T) (hN:N=(n:Int)) (hh:∀ j,isN n j→lget hv j≤(G.ak j T:Int)) (hl:(hv.length:Int)=N) (hk:KN n G T log c) :
  KN n G T log ((cntD (gd N T log hv) c.toNat log.length:Nat):Int):=by
 have h0:=hk.1
 rcases cntD_cases (gd N T log hv) c.toNat log.length with e | ⟨a,b,d⟩
 ·rw [e,show ((c.toNat:Nat):Int)=c by omega]; exact hk
 ·generalize cntD (gd N T log hv) c.toNat log.length=k at a b d
  refine ⟨by omega,by omega,.inr ⟨T,Int.le_refl _,k,Int.le_refl _,?_,by rw [hlog]; exact List.take_prefix _ _⟩⟩
  unfold gd at d
  rw [Bool.and_eq_true,decide_eq_true_iff,decide_eq_true_iff] at d
  obtain ⟨d1,d2⟩:=d
  have hk1:k - 1<log.length:=by omega
  have he:=List.getElem?_eq_getElem hk1
  have het:=tat_get he
  rw [show k - 1+1=k by omega,d2] at het
  refine ⟨by omega,⟨_,by rw [← hlog]; exact he,het.symm⟩,((List.range hv.length).filter fun (j:Nat)=>decide ((k:Int)≤lget hv (j:Int))).map (fun (j:Nat)=>(j:Int)),?_,?_,fun j hj=>?_⟩
  ·refine List.Pairwise.map _ (fun a b hab=>?_) (List.nodup_range.filter _)
   intro q; exact hab (by omega)
  ·rw [have_list hv k hv.length (Nat.le_refl _),List.take_length]
   omega
  ·obtain ⟨m,hm,rfl⟩:=List.mem_map.1 hj
   rw [List.mem_filter,List.mem_range,decide_eq_true_iff] at hm
   have hi:isN n (m:Int):=by unfold isN; omega
   have:=hh _ hi
   exact ⟨hi,by omega⟩
theorem NI.fol (h:NI n G i x) (c:Int) (hc:c=x.Commit∨c=0):NI n G i ⟨x.N,x.ID,x.Term,x.Vote,x.Log,0,c,[],[],[]⟩:=
 ⟨h.v0,h.v1,h.fv,h.fa,h.fe,h.fo,fun q=>absurd (show (0:Int)=2 from q) (by decide),fun q=>absurd (show (0:Int)=1 from q) (by decide),h.A,h.lm,by
  rcases hc with rfl | rfl
  ·exact h.kn
  ·exact ⟨Int.le_refl _,by show (0:Int)≤(x.Log.length:Int); omega,.inl rfl⟩⟩
theorem NI.raise (h:NI n G i x) {T:Int} (hT:x.Term<T):NI n G i ⟨x.N,x.ID,T,0,x.Log,0,x.Commit,[],[],[]⟩:=by
 refine ⟨fun _=>h.fv T hT,fun q=>absurd rfl q,fun U hU=>h.fv U ?_,fun U hU=>h.fa U ?_,fun U l hU=>h.fe U l ?_,fun j U hU=>?_,fun q=>absurd (show (0:Int)=2 from q) (by decide),fun q=>absurd (show (0:Int)=1 from q) (by decide),fun U k hU hk hb=>?_,h.lm,h.kn.up ?_⟩
 ·have hU:T<U:=hU; omega
 ·have hU:T<U:=hU; omega
 ·have hU:T<U:=hU; omega
 ·have:=h.fo j U hU; show U≤T; omega
 ·by_cases c:U≤x.Term
  ·exact h.A U k c hk (hb.le (by show x.Term+1≤T+1; omega))
  ·have:=h.fa U (by omega)
   have:k=0:=by omega
   rw [this]; exact List.nil_prefix
 ·show x.Term≤T; omega
theorem ex_vote {T c t0:Int} {t:Int→Int} {log:Log} (h:G.vg i T=none) (hc:c≠i→T≤t c):Ex i t0 t G (gVote G i T c log):=by
 refine ⟨fun _ _ q=>q,fun _ _ _ _ q=>q,fun _=>List.prefix_refl _,fun _ _ _ _ _=>rfl,fun _ _ _=>rfl,fun j U d q=>?_,fun j U hj=>gVote_vg_ne (fun z=>hj z.1),fun _ _=>Nat.le_refl _,fun _ _ _=>rfl,fun U d hd q=>?_⟩
 ·rw [gVote_vg_ne (fun z=>by rw [z.1,z.2,h] at q; cases q)]; exact q
 ·by_cases z:U=T
  ·subst z
   rw [gVote_vg] at q; cases q
   exact .inr (hc hd)
  ·rw [gVote_vg_ne (fun w=>z w.2)] at q; exact .inl q
theorem NI.vote (h:NI n G i x) {c:Int} (h0:x.Vote=0) (hc:0≤c):NI n (gVote G i x.Term c x.Log) i ⟨x.N,x.ID,x.Term,c+1,x.Log,x.Role,x.Commit,x.Votes,x.Next,x.Have⟩:=by
 have hn:=h.v0 h0
 have hex:Ex i x.Term (fun _=>x.Term) G (gVote G i x.Term c x.Log):=ex_vote hn (fun _=>Int.le_refl _)
 refine ⟨fun q=>?_,fun q=>?_,fun T hT=>?_,h.fa,h.fe,fun j T q=>?_,fun q=>h.ld q,fun q=>?_,h.A,h.lm,h.kn.ex hex⟩
 ·have q:c+1=0:=q; omega
 ·rw [gVote_vg]; show some c=some (c+1 - 1); rw [Int.add_sub_cancel]
 ·have hT:x.Term<T:=hT
  rw [gVote_vg_ne (fun w=>by omega)]; exact h.fv T hT
 ·show T≤x.Term
  by_cases z:j=i∧T=x.Term
  ·omega
  ·rw [gVote_vg_ne z] at q; exact h.fo j T q
 ·obtain ⟨a,b,d⟩:=h.st q
  exact ⟨a,b,fun j hj=>⟨(d j hj).1,hex.vg _ _ _ (d j hj).2⟩⟩
def Grw (b:Nat) (G H:Gh):Prop:=∃ T0,(∀ (T:Int) (p:Nat) (e:Entry),(H.ll T)[p]?=some e→(G.ll e.Term)[p]?=some e∨(b=1∧e.Term=T0∧p=(G.ll T0).length))∧(b=1→(G.ll T0).length<(H.ll T0).length)
theorem LM.at {G:Gh} {l:Log} (h:LM G l) {p:Nat} {e:Entry} (hp:l[p]?=some e):(G.ll e.Term)[p]?=some e:=by
 have:=(h p e hp).2
 refine pre_get this ?_
 rw [List.getElem?_take,if_pos (by omega)]; exact hp
theorem Grw.same (hG:GG n G):Grw 0 G G:=⟨0,fun T p e h=>.inl ((hG.llm T).at h),fun q=>absurd q (by decide)⟩
theorem Grw.ll {H:Gh} (hG:GG n G) (e:H.ll=G.ll):Grw 0 G H:=⟨0,fun T p x h=>.inl ((hG.llm T).at (by rw [e] at h; exact h)),fun q=>absurd q (by decide)⟩
def Out (n:Nat) (G:Gh) (i:Int) (x:Node) (t:Int→Int) (r:Node) (ms:List Mail) (b:Nat):Prop:=
 ∃ H,Ex i x.Term t G H∧GG n H∧NI n H i r∧x.Term≤r.Term∧(∀ m∈ms,∀ t':Int→Int,t' i=r.Term→MI n H t' m)∧Grw b G H
theorem Out.same (hG:GG n G) {t:Int→Int} {r:Node} {ms:List Mail} (h:NI n G i r) (ht:x.Term≤r.Term) (hm:∀ m∈ms,∀ t':Int→Int,t' i=r.Term→MI n G t' m):Out n G i x t r ms 0:=⟨G,.refl _ _ _ _,hG,h,ht,hm,.same hG⟩
theorem out_rest (hG:GG n G) (h:NI n G i x) {t:Int→Int} (hc:(restS x).2.Code=0):Out n G i x t (restS x).1 [] 0:=by
 unfold restS at hc ⊢
 by_cases c0:(nodeF x).Code=0
 ·rw [if_neg (not_not_intro c0)]
  exact .same hG (h.fol 0 (.inr rfl)) (Int.le_refl _) (fun m hm=>by cases hm)
 ·rw [if_pos c0] at hc; exact absurd hc c0
theorem bring_ok (hx:NI n G i x) (hg:NGood x) (hid:x.ID=i) (hi:isN n i) (hr:x.Role=2) {j:Nat} (hj:(j:Int)<x.N) {t:Int→Int}:MI n G t (bringM x j):=by
 obtain ⟨⟨l,h1⟩,h2,h3⟩:=hx.ld hr
 obtain ⟨g1,g2,g3,g4,g5⟩:=hg.lead hr
 have hk:=g3 _ (lget_mem x.Next (j:Int) (by omega))
 have hid2:(bringM x j).From=i:=hid
 refine ⟨by rw [hid2]; exact hi,fun q=>absurd (show (3:Int)=1 from q) (by decide),fun q=>absurd (show (3:Int)=2 from q) (by decide),fun _=>?_,fun q=>absurd (show (3:Int)=4 from q) (by decide)⟩
 show (∃ l,G.el x.Term=some (x.ID,l))∧0≤lget x.Next (j:Int) - 1∧(lget x.Next (j:Int) - 1).toNat+((x.Log.take (min (lget x.Next (j:Int) - 1+5) (x.Log.length:Int)).toNat).drop (lget x.Next (j:Int) - 1).toNat).length≤(G.ll x.Term).length∧
  (x.Log.take (min (lget x.Next (j:Int) - 1+5) (x.Log.length:Int)).toNat).drop (lget x.Next (j:Int) - 1).toNat=((G.ll x.Term).take ((lget x.Next (j:Int) - 1).toNat+((x.Log.take (min (lget x.Next (j:Int) - 1+5) (x.Log.length:Int)).toNat).drop (lget x.Next (j:Int) - 1).toNat).length)).drop (lget x.Next (j:Int) - 1).toNat∧
  tat x.Log (lget x.Next (j:Int) - 1)=tat (G.ll x.Term) (lget x.Next (j:Int) - 1)∧KN n G x.Term (G.ll x.Term) x.Commit
 have hkn:=hx.kn
 rw [← h2]
 have hln:((x.Log.take (min (lget x.Next (j:Int) - 1+5) (x.Log.length:Int)).toNat).drop (lget x.Next (j:Int) - 1).toNat).length=(min (lget x.Next (j:Int) - 1+5) (x.Log.length:Int)).toNat - (lget x.Next (j:Int) - 1).toNat:=by
  rw [List.length_drop,List.length_take]; omega
 rw [hln]
 refine ⟨⟨l,by rw [hid]; exact h1⟩,by omega,by omega,?_,rfl,hkn⟩
 rw [show (lget x.Next (j:Int) - 1).toNat+((min (lget x.Next (j:Int) - 1+5) (x.Log.length:Int)).toNat - (lget x.Next (j:Int) - 1).toNat)=(min (lget x.Next (j:Int) - 1+5) (x.Log.length:Int)).toNat by omega]
theorem out_beat (hG:GG n G) (h:NI n G i x) (hid:x.ID=i) (hi:isN n i) (hN:x.N=(n:Int)) {t:Int→Int} (hc:(beatS x).2.Code=0):Out n G i x t x (beatS x).1 0:=by
 unfold beatS at hc ⊢
 by_cases c0:(nodeF x).Code=0
 ·have hg:=nodeF_good.1 c0
  rw [if_neg (not_not_intro c0)] at hc ⊢
  by_cases c1:x.Role=2
  ·rw [if_neg (not_not_intro c1)]
   refine .same hG h (Int.le_refl _) (fun m hm t' _=>?_)
   obtain ⟨j,hj,_,e⟩:=mls_mem hm
   rw [e]
   exact bring_ok h hg hid hi c1 (by omega)
  ·rw [if_pos c1] at hc; cases hc
 ·rw [if_pos c0] at hc; exact absurd hc c0
theorem out_elect (hG:GG n G) (h:NI n G i x) (hle:∀ (p:Nat) (e:Entry),x.Log[p]?=some e→e.Term≤x.Term) (hmt:MT x.Log) (hN1:1≤x.N) (hid:x.ID=i) (hi:isN n i) (hN:x.N=(n:Int)) (hr:x.Role=1) (hT:1≤x.Term) {v:List Int} (hgl:NGood (leaderN (wv x v))) (v1:v.Nodup) (v2:n<2*v.length) (v3:∀ j∈v,isN n j∧G.vg j x.Term=some i) {t:Int→Int} :
  Out n G i x t (leaderN (wv x v)) (mls x.ID (bringM (leaderN (wv x v))) x.N.toNat) 0:=by
 obtain ⟨s1,s2,s3⟩:=h.st hr
 have hel:G.el x.Term=none:=by
  cases he:G.el x.Term with
  | none=>rfl
  | some p=>
   obtain ⟨c,l⟩:=p
   obtain ⟨Q,q1,q2,q3⟩:=hG.el3 _ _ _ he
   obtain ⟨j,j1,j2⟩:=meet v1 q1 (fun j hj=>(v3 j hj).1) (fun j hj=>(q3 j hj).1) v2 q2
   have a:=(v3 j j1).2
   have b:=(q3 j j2).2.1
   rw [a] at b
   cases b
   exact absurd he (s2 l)
 have hlt:∀ (p:Nat) (e:Entry),x.Log[p]?=some e→e.Term<x.Term:=fun p e he=>by
  have h1:=hle p e he
  obtain ⟨c,h2⟩:=(h.lm p e he).1
  rcases Int.lt_or_eq_of_le h1 with q | q
  ·exact q
  ·rw [q,hel] at h2; cases h2
 obtain ⟨hH,hex⟩:=gg_el hG hel hT hi h.lm hmt hlt h.fv s1 v1 v2 v3
 have e0:=hex t
 have hlm:LM (gEl G i x.Term x.Log) x.Log:=h.lm.ex e0
 have hlen:(List.replicate x.N.toNat (0:Int)).length=x.N.toNat:=List.length_replicate
 have hll:(gEl G i x.Term x.Log).ll x.Term=x.Log:=if_pos rfl
 have hak:(gEl G i x.Term x.Log).ak i x.Term=x.Log.length:=if_pos ⟨rfl,rfl⟩
 have hee:(gEl G i x.Term x.Log).el x.Term=some (i,x.Log):=if_pos rfl
 have hi2:=hi
 unfold isN at hi2
 have hhave:∀ j,isN n j→lget ((List.replicate x.N.toNat (0:Int)).set x.ID.toNat (x.Log.length:Int)) j≤((gEl G i x.Term x.Log).ak j x.Term:Int):=fun j hj=>by
  unfold isN at hj
  rw [lget_rset (by omega) (by omega)]
  split
  ·rename_i e; rw [e,hid,hak]; exact Int.le_refl _
  ·omega
 have hni:NI n (gEl G i x.Term x.Log) i (leaderN (wv x v)):=by
  refine ⟨h.v0,h.v1,h.fv,fun T hT2=>?_,fun T l hT2 q=>?_,h.fo,fun _=>⟨⟨_,hee⟩,hll.symm,hhave⟩,fun q=>absurd (show (2:Int)=1 from q) (by decide),fun T k hT2 hk hb=>?_,hlm,?_⟩
  ·have hT2:x.Term<T:=hT2
   show (if _ then _ else _)=0
   rw [if_neg (fun w=>by omega)]; exact h.fa T hT2
  ·have hT2:x.Term<T:=hT2
   have q:(if T=x.Term then some (i,x.Log) else G.el T)=some (i,l):=q
   rw [if_neg (by omega)] at q
   exact h.fe T l hT2 q
  ·have hT2:T≤x.Term:=hT2
   show _ <+: x.Log
   by_cases c:T=x.Term
   ·rw [c,hll]; exact List.take_prefix _ _
   ·have e1:(gEl G i x.Term x.Log).ak i T=G.ak i T:=if_neg (fun w=>c w.2)
    have e2:(gEl G i x.Term x.Log).ll T=G.ll T:=if_neg c
    rw [e1] at hk
    rw [e2] at hb ⊢
    exact h.A T k hT2 hk (hb.ex e0)
  ·exact kn_count hH hll.symm hT hN hhave (by rw [List.length_set]; show ((List.replicate x.N.toNat (0:Int)).length:Int)=x.N; rw [hlen]; omega) (h.kn.ex e0)
 have hgr:Grw 0 G (gEl G i x.Term x.Log):=by
  refine ⟨0,fun T p e hp=>.inl ?_,fun q=>absurd q (by decide)⟩
  by_cases c:T=x.Term
  ·rw [c,hll] at hp; exact h.lm.at hp
  ·have e2:(gEl G i x.Term x.Log).ll T=G.ll T:=if_neg c
   rw [e2] at hp; exact (hG.llm T).at hp
 refine ⟨_,e0,hH,hni,Int.le_refl _,fun m hm t' _=>?_,hgr⟩
 obtain ⟨j,hj,_,e⟩:=mls_mem hm
 rw [e]
 exact bring_ok hni hgl hid hi rfl (by show (j:Int)<x.N; omega)
end
theorem Out.trans {n:Nat} {G H:Gh} {i:Int} {x y:Node} {t:Int→Int} {r:Node} {ms:List Mail} {b:Nat} (e:Ex i x.Term t G H) (hll:H.ll=G.ll) (hle:x.Term≤y.Term) (h:Out n H i y t r ms b):Out n G i x t r ms b:=by
 obtain ⟨K,a,b,c,d,f,g⟩:=h
 exact ⟨K,e.trans a hle (fun _ _=>rfl),b,c,by omega,f,by unfold Grw at g ⊢; rw [hll] at g; exact g⟩
section
variable {n:Nat} {G:Gh} {i:Int} {x:Node}
theorem gCl_ne {T U c:Int} {log:Log} (h:¬ (U=T∧c=i)):(gCl G i T log).cl U c=G.cl U c:=if_neg h
theorem ex_cl {T t0:Int} {t:Int→Int} {log:Log} (h:t0<T):Ex i t0 t G (gCl G i T log):=
 ⟨fun _ _ q=>q,fun _ _ _ _ q=>q,fun _=>List.prefix_refl _,fun _ _ _ _ _=>rfl,fun U c q=>gCl_ne (fun w=>by rcases q with q | q <;> omega),fun _ _ _ q=>q,fun _ _ _=>rfl,fun _ _=>Nat.le_refl _,fun _ _ _=>rfl,fun _ _ _ q=>.inl q⟩
theorem NI.setCl (h:NI n G i x) {T:Int} {log:Log} (hr:x.Role≠1):NI n (gCl G i T log) i x:=
 ⟨h.v0,h.v1,h.fv,h.fa,h.fe,h.fo,h.ld,fun q=>absurd q hr,h.A,h.lm,h.kn.ex (ex_cl (i:=i) (t0:=T - 1) (t:=fun _=>0) (by omega))⟩
theorem out_stand (hG:GG n G) (h:NI n G i x) (hid:x.ID=i) (hi:isN n i) (hN:x.N=(n:Int)) {t:Int→Int} (hc:(standS x).2.2.Code=0):Out n G i x t (standS x).1 (standS x).2.1 0:=by
 unfold standS at hc ⊢
 by_cases c0:(nodeF x).Code=0
 case neg=>rw [if_pos c0] at hc; exact absurd hc c0
 have hg:=nodeF_good.1 c0
 rw [if_neg (not_not_intro c0)] at hc ⊢
 by_cases c1:x.Role=2
 ·rw [if_pos c1] at hc; cases hc
 rw [if_neg c1] at hc ⊢
 by_cases c2:x.Term=1000000000
 ·rw [if_pos c2] at hc; cases hc
 rw [if_neg c2]
 have ht0:=hg.t0
 have h0:=h.raise (T:=x.Term+1) (by omega)
 have hlast:=hg.last
 have hle:∀ (p:Nat) (e:Entry),x.Log[p]?=some e→e.Term<x.Term+1:=fun p e he=>by have:=hg.le he; omega
 have hG1:GG n (gCl G i (x.Term+1) x.Log):=gg_cl hG (fun j q=>by have:=h.fo j _ q; omega)
 have hcl:(gCl G i (x.Term+1) x.Log).cl (x.Term+1) i=x.Log:=if_pos ⟨rfl,rfl⟩
 have e1:Ex i x.Term t G (gCl G i (x.Term+1) x.Log):=ex_cl (by omega)
 have h1:=h0.setCl (T:=x.Term+1) (log:=x.Log) (by show (0:Int)≠1; decide)
 have hvn:(gCl G i (x.Term+1) x.Log).vg i (x.Term+1)=none:=h.fv _ (by omega)
 have hG2:GG n (gVote (gCl G i (x.Term+1) x.Log) i (x.Term+1) i x.Log):=by
  refine gg_vote hG1 hvn h1.lm hg.mt (fun he=>⟨hle,by rw [hcl]; exact .inr ⟨rfl,Nat.le_refl _⟩,fun T0 hlt k hk hb=>h.A T0 k (by omega) hk hb⟩)
 have e2:Ex i (x.Term+1) t (gCl G i (x.Term+1) x.Log) (gVote (gCl G i (x.Term+1) x.Log) i (x.Term+1) i x.Log):=ex_vote hvn (fun q=>absurd rfl q)
 have h2:=h1.vote (c:=i) rfl hi.1
 have hst:NI n (gVote (gCl G i (x.Term+1) x.Log) i (x.Term+1) i x.Log) i (stX x):=by
  refine ⟨fun q=>h2.v0 (by rw [← q]; show i+1=x.ID+1; rw [hid]),fun q=>?_,h2.fv,h2.fa,h2.fe,h2.fo,fun q=>absurd (show (1:Int)=2 from q) (by decide),fun _=>⟨hcl.symm,fun l q=>h.fe _ l (by show x.Term<x.Term+1; omega) q,fun j hj=>?_⟩,h2.A,h2.lm,h2.kn⟩
  ·have:=h2.v1 (by show i+1≠0; have:=hi.1; omega)
   rw [show (stX x).Vote - 1=i+1 - 1 by show x.ID+1 - 1=_; rw [hid]]
   exact this
  ·have hj:j∈[x.ID]:=hj
   rw [List.mem_singleton] at hj
   rw [hj,hid]
   exact ⟨hi,gVote_vg⟩
 have e:=e1.trans e2 (by omega) (fun _ _=>rfl)
 have hml:∀ m∈mls x.ID (askM x.ID (x.Term+1) x.Log) x.N.toNat,∀ (K:Gh),Ex i (x.Term+1) t (gVote (gCl G i (x.Term+1) x.Log) i (x.Term+1) i x.Log) K→∀ t':Int→Int,t' i=x.Term+1→MI n K t' m:=by
  intro m hm K hK t' ht'
  obtain ⟨j,hj,_,em⟩:=mls_mem hm
  rw [em]
  have hk:K.cl (x.Term+1) i=x.Log:=(hK.cl (x.Term+1) i (.inr (Int.le_refl _))).trans hcl
  refine ⟨by show isN n x.ID; rw [hid]; exact hi,fun _=>?_,fun q=>absurd (show (1:Int)=2 from q) (by decide),fun q=>absurd (show (1:Int)=3 from q) (by decide),fun q=>absurd (show (1:Int)=4 from q) (by decide)⟩
  show x.Term+1≤t' x.ID∧((K.cl (x.Term+1) x.ID).length:Int)=(x.Log.length:Int)∧lastT (K.cl (x.Term+1) x.ID)=tat x.Log (x.Log.length:Int)
  rw [hid,hk,ht']
  exact ⟨Int.le_refl _,rfl,rfl⟩
 by_cases cn:x.N=1
 ·rw [if_pos cn]
  have hn1:n=1:=by omega
  have hgz:NGood ⟨x.N,x.ID,x.Term+1,x.ID+1,x.Log,0,x.Commit,[],[],[]⟩:=by
   have hi0:=hg.i0
   have hin:=hg.iN
   exact ⟨hg.n1,hg.n7,hg.i0,hg.iN,by show 0≤x.Term+1; omega,by show x.Term+1≤1000000000; have:=hg.t1; omega,by show 0≤x.ID+1; omega,by show x.ID+1≤x.N; omega,by show (0:Int)≤0; omega,by show (0:Int)≤2; omega,hg.c0,hg.cl,hg.log,by show ¬ x.Term+1<tat x.Log (x.Log.length:Int); omega,form0 _ rfl rfl rfl rfl⟩
  have hel:=out_elect hG2 hst (fun p q hq=>by have:=hle p q hq; show q.Term≤x.Term+1; omega) hg.mt hg.n1 hid hi hN rfl (by show 1≤x.Term+1; omega) (v:=[x.ID]) (lead_good hgz [x.ID]) (by simp) (by simp; omega) (fun j hj=>(hst.st rfl).2.2 j hj) (t:=t)
  obtain ⟨K,k1,k2,k3,k4,k5,k6⟩:=hel
  exact ⟨K,e.trans k1 (by show x.Term≤x.Term+1; omega) (fun _ _=>rfl),k2,k3,by show x.Term≤x.Term+1; omega,fun m hm t' ht'=>hml m hm K k1 t' ht',k6⟩
 ·rw [if_neg cn]
  exact ⟨_,e,hG2,hst,by show x.Term≤x.Term+1; omega,fun m hm t' ht'=>hml m hm _ (.refl _ _ _ _) t' ht',Grw.ll hG rfl⟩
theorem out_prop (hG:GG n G) (h:NI n G i x) (hid:x.ID=i) (hi:isN n i) (hN:x.N=(n:Int)) (hT:x.Role≠0→1≤x.Term) {text:List UInt8} {t:Int→Int} (hc:(propS x text).2.Code=0):Out n G i x t (propS x text).1 [] 1:=by
 unfold propS at hc ⊢
 by_cases c0:(nodeF x).Code=0
 case neg=>rw [if_pos c0] at hc; exact absurd hc c0
 have hg:=nodeF_good.1 c0
 rw [if_neg (not_not_intro c0)] at hc ⊢
 by_cases c1:x.Role=2
 case neg=>rw [if_pos c1] at hc; cases hc
 rw [if_neg (not_not_intro c1)] at hc ⊢
 by_cases c2:200<text.length
 ·rw [if_pos c2] at hc; cases hc
 rw [if_neg c2] at hc ⊢
 by_cases c3:x.Log.length=100
 ·rw [if_pos c3] at hc; cases hc
 rw [if_neg c3]
 obtain ⟨⟨l,l1⟩,l2,l3⟩:=h.ld c1
 obtain ⟨b1,b2,b3,b4,b5⟩:=hg.lead c1
 obtain ⟨hH,hex⟩:=gg_pr hG l1 (e:=⟨x.Term,text⟩) rfl h.fv
 have e:=hex t
 have hi2:=hi
 unfold isN at hi2
 have hll:(gPr G i x.Term ⟨x.Term,text⟩).ll x.Term=x.Log++[⟨x.Term,text⟩]:=by rw [l2]; exact if_pos rfl
 have hak:(gPr G i x.Term ⟨x.Term,text⟩).ak i x.Term=x.Log.length+1:=by rw [l2]; exact if_pos ⟨rfl,rfl⟩
 have hhave:∀ j,isN n j→lget (lset x.Have x.ID ((x.Log.length:Int)+1)) j≤((gPr G i x.Term ⟨x.Term,text⟩).ak j x.Term:Int):=fun j hj=>by
  have hj2:=hj
  unfold isN at hj2
  rw [lget_lset _ _ _ _ (by omega) (by omega)]
  split
  ·rename_i q; rw [q,hid,hak]; omega
  ·have:=l3 j hj
   have:=e.ak j x.Term
   omega
 have hgr:Grw 1 G (gPr G i x.Term ⟨x.Term,text⟩):=by
  refine ⟨x.Term,fun T p z hp=>?_,fun _=>by rw [hll,← l2]; simp⟩
  by_cases c:T=x.Term
  ·rw [c,hll] at hp
   rcases get_app1 hp with q | ⟨q1,q2⟩
   ·exact .inl (h.lm.at q)
   ·exact .inr ⟨rfl,by rw [q2],by rw [q1,l2]⟩
  ·have e2:(gPr G i x.Term ⟨x.Term,text⟩).ll T=G.ll T:=if_neg c
   rw [e2] at hp; exact .inl ((hG.llm T).at hp)
 refine ⟨_,e,hH,?_,Int.le_refl _,fun m hm=>(by cases hm),hgr⟩
 refine ⟨h.v0,h.v1,h.fv,fun T hT2=>?_,h.fe,h.fo,fun _=>⟨⟨l,l1⟩,hll.symm,hhave⟩,fun q=>absurd (show x.Role=1 from q) (by omega),fun T k hT2 hk hb=>?_,by rw [show (proX x text).Log=(gPr G i x.Term ⟨x.Term,text⟩).ll x.Term from hll.symm]; exact hH.llm _,?_⟩
 ·have hT2:x.Term<T:=hT2
  show (if _ then _ else _)=0
  rw [if_neg (fun w=>by omega)]; exact h.fa T hT2
 ·have hT2:T≤x.Term:=hT2
  show _ <+: x.Log++[⟨x.Term,text⟩]
  by_cases c:T=x.Term
  ·rw [c,hll]; exact List.take_prefix _ _
  ·have e1:(gPr G i x.Term ⟨x.Term,text⟩).ak i T=G.ak i T:=if_neg (fun w=>c w.2)
   have e2:(gPr G i x.Term ⟨x.Term,text⟩).ll T=G.ll T:=if_neg c
   rw [e1] at hk
   rw [e2] at hb ⊢
   exact (h.A T k hT2 hk (hb.ex e)).trans (List.prefix_append _ _)
 ·have:=kn_count hH hll.symm (hT (by omega)) hN hhave (by rw [lset_len]; exact b2) ((h.kn.ex e).grow (List.prefix_append x.Log [⟨x.Term,text⟩]))
  rw [show (x.Log++[(⟨x.Term,text⟩:Entry)]).length=x.Log.length+1 by simp] at this
  exact this
theorem out_take1 (hG:GG n G) (h:NI n G i x) (hg:NGood x) (hid:x.ID=i) (hi:isN n i) {m:Mail} {t:Int→Int} (hm:MI n G t m) (hk:m.Kind=1) (hfr:m.From≠x.ID):Out n G i x t (take1 x m).1 (take1 x m).2 0:=by
 obtain ⟨a1,a2,a3⟩:=hm.k1 hk
 have hans:∀ (K:Gh),(askB x m→K.vg i x.Term=some m.From)→∀ z∈[ans x m 2 0 (decide (askB x m))],∀ t':Int→Int,t' i=x.Term→MI n K t' z:=by
  intro K hK z hz t' _
  rw [List.mem_singleton] at hz
  rw [hz]
  refine ⟨by show isN n x.ID; rw [hid]; exact hi,fun q=>absurd (show (2:Int)=1 from q) (by decide),fun _ q=>?_,fun q=>absurd (show (2:Int)=3 from q) (by decide),fun q=>absurd (show (2:Int)=4 from q) (by decide)⟩
  have q:decide (askB x m)=true:=q
  show K.vg x.ID x.Term=some m.From
  rw [hid]; exact hK (of_decide_eq_true q)
 unfold take1
 by_cases c:askB x m
 ·rw [if_pos c]
  obtain ⟨b1,b2,b3⟩:=c
  have hf0:=hm.fr.1
  by_cases hv:x.Vote=0
  ·have hvn:=h.v0 hv
   have hH:GG n (gVote G i x.Term m.From x.Log):=gg_vote hG hvn h.lm hg.mt (fun he=>⟨fun p e hp=>?_,?_,fun T0 hlt k hk2 hb=>?_⟩)
   ·refine ⟨_,ex_vote hvn (fun _=>by omega),hH,h.vote hv hf0,Int.le_refl _,hans _ (fun _=>gVote_vg),Grw.ll hG rfl⟩
   ·have h1:=hg.le hp
    obtain ⟨c,h2⟩:=(h.lm p e hp).1
    rcases Int.lt_or_eq_of_le h1 with q | q
    ·exact q
    ·rw [q,he] at h2; cases h2
   ·rw [← b1]
    unfold NW
    rw [a3]
    unfold lastT
    omega
   ·refine h.A T0 k (by omega) hk2 (fun S s1 s2 c l hc=>?_)
    by_cases q:S=x.Term
    ·rw [q,he] at hc; cases hc
    ·exact hb S s1 (by omega) c l hc
  ·have hv2:x.Vote=m.From+1:=by
    rcases b2 with q | q
    ·exact absurd q hv
    ·exact q
   have hvs:=h.v1 hv
   rw [hv2,Int.add_sub_cancel] at hvs
   refine .same hG ?_ (Int.le_refl _) (hans _ (fun _=>hvs))
   rw [← hv2]; exact h
 ·rw [if_neg c]
  exact .same hG h (Int.le_refl _) (hans _ (fun q=>absurd q c))
theorem NI.votes (h:NI n G i x) {v:List Int} (hr:x.Role=1) (hv:∀ j∈v,isN n j∧G.vg j x.Term=some i):NI n G i (wv x v):=
 ⟨h.v0,h.v1,h.fv,h.fa,h.fe,h.fo,fun q=>absurd (show x.Role=2 from q) (by omega),fun _=>⟨(h.st hr).1,(h.st hr).2.1,hv⟩,h.A,h.lm,h.kn⟩
theorem out_take2 (hG:GG n G) (h:NI n G i x) (hg:NGood x) (hid:x.ID=i) (hi:isN n i) (hN:x.N=(n:Int)) (hT:x.Role≠0→1≤x.Term) {m:Mail} {t:Int→Int} (hm:MI n G t m) (hk:m.Kind=2) (hto:m.To=x.ID):Out n G i x t (take2 x m).1 (take2 x m).2 0:=by
 unfold take2
 by_cases c:x.Role≠1∨m.Term≠x.Term∨m.Ok=false
 ·rw [if_pos c]; exact .same hG h (Int.le_refl _) (fun z hz=>by cases hz)
 rw [if_neg c]
 have hr:x.Role=1:=by omega
 have hmt:m.Term=x.Term:=by omega
 have hok:m.Ok=true:=by
  cases hq:m.Ok with
  | true=>rfl
  | false=>exact absurd (.inr (.inr hq)) c
 have hvg:=hm.k2 hk hok
 rw [hmt,hto,hid] at hvg
 have hv:∀ j∈vts x m,isN n j∧G.vg j x.Term=some i:=fun j hj=>by
  unfold vts at hj
  split at hj
  ·exact (h.st hr).2.2 j hj
  ·rcases List.mem_append.1 hj with q | q
   ·exact (h.st hr).2.2 j q
   ·rw [List.mem_singleton] at q; rw [q]; exact ⟨hm.fr,hvg⟩
 have hnd:(vts x m).Nodup:=by
  have hx:x.Votes.Nodup:=by
   have:=hg.form
   unfold formB at this
   rw [if_pos hr] at this
   simp only [Bool.and_eq_true] at this
   have:=this.1.1.1
   unfold voteB at this
   exact (of_decide_eq_true this).2
  unfold vts
  split
  ·exact hx
  ·rename_i q
   exact List.nodup_append.2 ⟨hx,by simp,fun a ha b hb e=>by rw [List.mem_singleton] at hb; subst hb; subst e; exact q ha⟩
 by_cases cm:x.N<2*((vts x m).length:Int)
 ·rw [if_pos cm]
  exact out_elect hG h (fun p e he=>hg.le he) hg.mt hg.n1 hid hi hN hr (hT (by omega)) (lead_good hg _) hnd (by omega) hv
 ·rw [if_neg cm]
  exact .same hG (h.votes hr hv) (Int.le_refl _) (fun z hz=>by cases hz)
theorem out_take4 (hG:GG n G) (h:NI n G i x) (hg:NGood x) (hid:x.ID=i) (hi:isN n i) (hN:x.N=(n:Int)) (hT:x.Role≠0→1≤x.Term) {m:Mail} {t:Int→Int} (hm:MI n G t m) (hk:m.Kind=4):Out n G i x t (take4 x m).1 (take4 x m).2 0:=by
 unfold take4
 by_cases c:x.Role≠2∨m.Term≠x.Term
 ·rw [if_pos c]; exact .same hG h (Int.le_refl _) (fun z hz=>by cases hz)
 rw [if_neg c]
 have hr:x.Role=2:=by omega
 have hmt:m.Term=x.Term:=by omega
 obtain ⟨⟨l,l1⟩,l2,l3⟩:=h.ld hr
 obtain ⟨b1,b2,b3,b4,b5⟩:=hg.lead hr
 have hf:=hm.fr
 unfold isN at hf
 by_cases ho:m.Ok=true
 ·rw [if_pos ho]
  have ha:=hm.k4 hk ho
  rw [hmt] at ha
  have hhave:∀ j,isN n j→lget (hav x m) j≤(G.ak j x.Term:Int):=fun j hj=>by
   have hj2:=hj
   unfold isN at hj2
   unfold hav
   rw [lget_lset _ _ _ _ (by omega) (by omega)]
   split
   ·rename_i q
    have:=l3 j hj
    rw [q] at this ⊢
    omega
   ·exact l3 j hj
  refine .same hG ?_ (Int.le_refl _) (fun z hz=>by cases hz)
  exact ⟨h.v0,h.v1,h.fv,h.fa,h.fe,h.fo,fun _=>⟨⟨l,l1⟩,l2,hhave⟩,fun q=>absurd (show x.Role=1 from q) (by omega),h.A,h.lm,kn_count hG l2 (hT (by omega)) hN hhave (by unfold hav; rw [lset_len]; exact b2) h.kn⟩
 ·rw [if_neg ho]
  refine .same hG ?_ (Int.le_refl _) (fun z hz=>by cases hz)
  exact ⟨h.v0,h.v1,h.fv,h.fa,h.fe,h.fo,fun _=>⟨⟨l,l1⟩,l2,l3⟩,fun q=>absurd (show x.Role=1 from q) (by omega),h.A,h.lm,h.kn⟩
end
theorem lget_some {l:Log} {p:Nat} (h:p<l.length):l[p]?=some (lget l (p:Int)):=by
 simp [lget,List.getD,List.getElem?_eq_getElem h]
theorem put_spec (W:Log):∀ (E:Log) (a:Nat) (l:Log),a≤l.length→a+E.length≤W.length→E=(W.take (a+E.length)).drop a→l.take a=W.take a→
  (∀ (p:Nat) (x y:Entry),l[p]?=some x→W[p]?=some y→x.Term=y.Term→l.take (p+1)=W.take (p+1))→
  (put a l E=l∧W.take (a+E.length) <+: l)∨(put a l E=W.take (a+E.length)∧∃ q,q<a+E.length∧q≤l.length∧(q=l.length∨∃ x y:Entry,l[q]?=some x∧W[q]?=some y∧x.Term≠y.Term))
 | [],a,l,ha,hw,hE,ht,hs=>.inl ⟨rfl,by rw [List.length_nil,Nat.add_zero,← ht]; exact List.take_prefix _ _⟩
 | e::m,a,l,ha,hw,hE,ht,hs=>by
  rw [List.length_cons] at hw hE
  have haW:a<W.length:=by omega
  have hget:(W.take (a+(m.length+1)))[a]?=some e:=by
   have:((W.take (a+(m.length+1))).drop a)[0]?=some e:=by rw [← hE]; rfl
   rw [List.getElem?_drop,Nat.add_zero] at this
   exact this
  rw [List.getElem?_take,if_pos (by omega)] at hget
  have hm:m=(W.take (a+1+m.length)).drop (a+1):=by
   have:m=((W.take (a+(m.length+1))).drop a).drop 1:=by rw [← hE]; rfl
   rw [List.drop_drop,show a+(m.length+1)=a+1+m.length by omega] at this
   exact this
  by_cases c:a<l.length∧(lget l (a:Int)).Term=e.Term
  ·have hnx:=hs a _ _ (lget_some c.1) hget c.2
   have:=put_spec W m (a+1) l (by omega) (by omega) hm hnx hs
   rw [put,if_pos c,List.length_cons,show a+(m.length+1)=a+1+m.length by omega]
   exact this
  ·right
   rw [put_not e m a l ha c,List.length_cons]
   refine ⟨?_,a,by omega,ha,?_⟩
   ·rw [ht]
    have h2:(W.take (a+(m.length+1))).take a=W.take a:=by rw [List.take_take,Nat.min_eq_left (by omega)]
    have h3:=List.take_append_drop a (W.take (a+(m.length+1)))
    rw [h2,← hE] at h3
    exact h3
   ·by_cases q:a=l.length
    ·exact .inl q
    ·exact .inr ⟨_,_,lget_some (by omega),hget,fun z=>c ⟨by omega,z⟩⟩
theorem put_common {W E l w:Log} {a:Nat} (h:(put a l E=l∧W.take (a+E.length) <+: l)∨(put a l E=W.take (a+E.length)∧∃ q,q<a+E.length∧q≤l.length∧(q=l.length∨∃ x y:Entry,l[q]?=some x∧W[q]?=some y∧x.Term≠y.Term)))
  (hW:a+E.length≤W.length) (h1:w <+: l) (h2:w <+: W):w <+: put a l E:=by
 rcases h with ⟨e,_⟩ | ⟨e,q,q1,q2,q3⟩
 ·rw [e]; exact h1
 ·rw [e]
  have hl:=h1.length_le
  have hwq:w.length≤q:=by
   rcases q3 with q3 | ⟨x,y,q3,q4,q5⟩
   ·omega
   ·apply Nat.le_of_not_lt
    intro hlt
    have g:=List.getElem?_eq_getElem hlt
    have g1:=pre_get h1 g
    have g2:=pre_get h2 g
    rw [q3] at g1
    rw [q4] at g2
    rw [Option.some.inj g1,Option.some.inj g2] at q5
    exact q5 rfl
  exact pre_pre h2 (List.take_prefix _ _) (by rw [List.length_take]; omega)
theorem putS_fit {l:Log} {p t:Int} {more:Log} (h:(putS l p t more).2.2.Code=0) (ho:(putS l p t more).2.1=true):tat l p=t:=by
 unfold putS at h ho
 by_cases c:(putF l p t more).Code=0
 ·rw [if_pos c] at h ho
  by_cases f:fits l p t
  ·exact f.2
  ·rw [if_neg f] at ho; cases ho
 ·rw [if_neg c] at h; exact absurd h c
section
variable {n:Nat} {G:Gh} {i:Int} {x:Node}
theorem gAk_eq {T:Int} {m:Nat}:(gAk G i T m).ak i T=max (G.ak i T) m:=if_pos ⟨rfl,rfl⟩
theorem gAk_ne {j T U:Int} {m:Nat} (h:¬ (j=i∧U=T)):(gAk G i T m).ak j U=G.ak j U:=if_neg h
theorem put_lead (hG:GG n G) (h:NI n G i x) (hg:NGood x) {m:Mail} {t:Int→Int} (hm:MI n G t m) (hk:m.Kind=3) (ht:m.Term=x.Term) (hc:(putS x.Log m.A m.B m.Entries).2.2.Code=0) (ho:(putS x.Log m.A m.B m.Entries).2.1=true) :
  0≤m.A∧m.A.toNat+m.Entries.length≤(G.ll x.Term).length∧(putS x.Log m.A m.B m.Entries).1=put m.A.toNat x.Log m.Entries∧
  ((put m.A.toNat x.Log m.Entries=x.Log∧(G.ll x.Term).take (m.A.toNat+m.Entries.length) <+: x.Log)∨(put m.A.toNat x.Log m.Entries=(G.ll x.Term).take (m.A.toNat+m.Entries.length)∧∃ q,q<m.A.toNat+m.Entries.length∧q≤x.Log.length∧(q=x.Log.length∨∃ y z:Entry,x.Log[q]?=some y∧(G.ll x.Term)[q]?=some z∧y.Term≠z.Term))):=by
 obtain ⟨h1,h2,h3,h4,h5,h6⟩:=hm.k3 hk
 rw [ht] at h1 h3 h4 h5 h6
 obtain ⟨p1,p2,p3,p4⟩:=putS_ok hc ho
 have p5:=putS_fit hc ho
 refine ⟨h2,h3,p3,put_spec _ _ _ _ (by omega) h3 h4 ?_ (fun p y z a b e=>h.lm.same (hG.llm _) a b e)⟩
 rcases Nat.eq_zero_or_pos m.A.toNat with q | q
 ·rw [q,List.take_zero,List.take_zero]
 ·have l1:m.A.toNat - 1<x.Log.length:=by omega
  have l2:m.A.toNat - 1<(G.ll x.Term).length:=by omega
  have g1:=List.getElem?_eq_getElem l1
  have g2:=List.getElem?_eq_getElem l2
  have e1:=tat_get g1
  have e2:=tat_get g2
  have ea:((m.A.toNat - 1+1:Nat):Int)=m.A:=by omega
  rw [ea] at e1 e2
  have:=h.lm.same (hG.llm _) g1 g2 (by rw [← e1,← e2,p5,h5])
  rwa [show m.A.toNat - 1+1=m.A.toNat by omega] at this
theorem put_has {W E l:Log} {a:Nat} (h:(put a l E=l∧W.take (a+E.length) <+: l)∨(put a l E=W.take (a+E.length)∧∃ q,q<a+E.length∧q≤l.length∧(q=l.length∨∃ x y:Entry,l[q]?=some x∧W[q]?=some y∧x.Term≠y.Term))):W.take (a+E.length) <+: put a l E:=by
 rcases h with ⟨a,b⟩ | ⟨a,_⟩
 ·rw [a]; exact b
 ·rw [a]; exact List.prefix_refl _
theorem out_take3 (hG:GG n G) (h:NI n G i x) (hg:NGood x) (hid:x.ID=i) (hi:isN n i) {m:Mail} {t:Int→Int} (hm:MI n G t m) (hk:m.Kind=3) (hge:m.Term≤x.Term):Out n G i x t (take3 x m).1 (take3 x m).2 0:=by
 have hno:∀ (K:Gh) (a:Int),∀ z∈[ans x m 4 a false],∀ t':Int→Int,t' i=x.Term→MI n K t' z:=by
  intro K a z hz t' _
  rw [List.mem_singleton] at hz
  rw [hz]
  exact ⟨by show isN n x.ID; rw [hid]; exact hi,fun q=>absurd (show (4:Int)=1 from q) (by decide),fun q=>absurd (show (4:Int)=2 from q) (by decide),fun q=>absurd (show (4:Int)=3 from q) (by decide),fun _ q=>(by cases q)⟩
 have hfol:Out n G i x t (fol x) [] 0:=.same hG (h.fol x.Commit (.inl rfl)) (Int.le_refl _) (fun z hz=>by cases hz)
 unfold take3
 by_cases c1:m.Term<x.Term
 ·rw [if_pos c1]; exact .same hG h (Int.le_refl _) (hno _ _)
 rw [if_neg c1]
 by_cases c2:x.Role=2
 ·rw [if_pos c2]; exact .same hG h (Int.le_refl _) (fun z hz=>by cases hz)
 rw [if_neg c2]
 by_cases c3:(putS x.Log m.A m.B m.Entries).2.2.Code=0
 case neg=>rw [if_pos c3]; exact hfol
 rw [if_neg (not_not_intro c3)]
 by_cases c4:(putS x.Log m.A m.B m.Entries).2.1=false
 ·rw [if_pos c4]; exact .same hG (h.fol x.Commit (.inl rfl)) (Int.le_refl _) (hno _ _)
 rw [if_neg c4]
 by_cases c5:((putS x.Log m.A m.B m.Entries).1.length:Int)<x.Commit∨(putS x.Log m.A m.B m.Entries).1.take x.Commit.toNat≠x.Log.take x.Commit.toNat
 ·rw [if_pos c5]; exact hfol
 rw [if_neg c5]
 have hT:m.Term=x.Term:=by omega
 obtain ⟨h1,h2,h3,h4⟩:=put_lead hG h hg hm hk hT c3 (by simpa using c4)
 rw [h3] at c5 ⊢
 have hh:=put_has h4
 obtain ⟨⟨lead,k1⟩,-,-,-,-,k6⟩:=hm.k3 hk
 rw [hT] at k1 k6
 generalize hL:put m.A.toNat x.Log m.Entries=L at *
 have hcm:=fun (w:Log) (a:w <+: x.Log) (b:w <+: G.ll x.Term)=>hL▸put_common (hL.symm▸h4) h2 a b
 generalize hQ:m.A.toNat+m.Entries.length=Q at *
 have hQi:m.A+(m.Entries.length:Int)=(Q:Int):=by omega
 have hql:((G.ll x.Term).take Q).length=Q:=by rw [List.length_take]; omega
 obtain ⟨hH,hex⟩:=gg_ak hG (i:=i) h2 h.fv
 have e:=hex t x.Term
 have hlmL:LM G L:=by
  rcases h4 with ⟨a,_⟩ | ⟨a,_⟩
  ·rw [a]; exact h.lm
  ·rw [a]; exact (hG.llm _).pre (List.take_prefix _ _)
 have hkn:=h.kn
 refine ⟨_,e,hH,?_,Int.le_refl _,fun z hz t' _=>?_,Grw.ll hG rfl⟩
 ·refine ⟨h.v0,h.v1,h.fv,fun T hT2=>?_,h.fe,h.fo,fun q=>absurd (show (0:Int)=2 from q) (by decide),fun q=>absurd (show (0:Int)=1 from q) (by decide),fun T k hT2 hk2 hb=>?_,hlmL,?_⟩
  ·have hT2:x.Term<T:=hT2
   rw [gAk_ne (fun w=>by omega)]; exact h.fa T hT2
  ·have hT2:T≤x.Term:=hT2
   show (G.ll T).take k <+: L
   by_cases c:T=x.Term
   ·subst c
    rw [gAk_eq] at hk2
    rcases Nat.le_total k (G.ak i x.Term) with q | q
    ·exact hcm _ (h.A _ k (Int.le_refl _) q (fun S s1 s2=>by omega)) (List.take_prefix _ _)
    ·by_cases q2:k≤Q
     ·exact (pre_pre (List.take_prefix _ _) (List.take_prefix _ _) (by rw [List.length_take,List.length_take]; omega)).trans hh
     ·have:k=G.ak i x.Term:=by omega
      exact hcm _ (h.A _ k (Int.le_refl _) (by omega) (fun S s1 s2=>by omega)) (List.take_prefix _ _)
   ·rw [gAk_ne (fun w=>c w.2)] at hk2
    have hb2:Bet G ((G.ll T).take k) T (x.Term+1):=hb
    have a1:=h.A T k hT2 hk2 hb2
    have a2:=hb2 x.Term (by omega) (by omega) _ _ k1
    exact hcm _ a1 (a2.trans (hG.el1 _ _ _ k1).2.2.1)
  ·show KN n _ x.Term L (max x.Commit (min m.C0 (m.A+(m.Entries.length:Int))))
   rw [hQi]
   have hLc:L.take x.Commit.toNat=x.Log.take x.Commit.toNat:=by
    apply Classical.byContradiction
    intro q; exact c5 (.inr q)
   have hLl:x.Commit≤(L.length:Int):=by
    apply Classical.byContradiction
    intro q; exact c5 (.inl (by omega))
   by_cases c:min m.C0 (Q:Int)≤x.Commit
   ·rw [Int.max_eq_left c]
    obtain ⟨a1,a2,a3⟩:=hkn.ex e
    exact ⟨a1,hLl,by rw [hLc]; exact a3⟩
   ·rw [Int.max_eq_right (by omega)]
    obtain ⟨a1,a2,a3⟩:=k6.ex e
    have hLQ:=hh.length_le
    refine ⟨by omega,by omega,?_⟩
    rcases a3 with a3 | ⟨T,b1,k,b2,b3,b4⟩
    ·have:=hkn.1; omega
    ·refine .inr ⟨T,b1,k,by omega,b3,?_⟩
     have e1:L.take (min m.C0 (Q:Int)).toNat=(G.ll x.Term).take (min m.C0 (Q:Int)).toNat:=by
      rw [pre_take hh (by rw [hql]; omega),List.take_take,Nat.min_eq_left (by omega)]
     rw [e1]
     exact (pre_pre (List.take_prefix _ _) (List.take_prefix m.C0.toNat _) (by rw [List.length_take,List.length_take]; omega)).trans b4
 ·rw [List.mem_singleton] at hz
  rw [hz]
  refine ⟨by show isN n x.ID; rw [hid]; exact hi,fun q=>absurd (show (4:Int)=1 from q) (by decide),fun q=>absurd (show (4:Int)=2 from q) (by decide),fun q=>absurd (show (4:Int)=3 from q) (by decide),fun _ _=>?_⟩
  show m.A+(m.Entries.length:Int)≤((gAk G i x.Term Q).ak x.ID x.Term:Int)
  rw [hid,gAk_eq,hQi]
  have:=Nat.le_max_right (G.ak i x.Term) Q
  omega
theorem out_take (hG:GG n G) (h:NI n G i x) (hid:x.ID=i) (hi:isN n i) (hN:x.N=(n:Int)) (hT:x.Role≠0→1≤x.Term) {m:Mail} {t:Int→Int} (hm:MI n G t m) (hc:(takeS x m).2.2.Code=0):Out n G i x t (takeS x m).1 (takeS x m).2.1 0:=by
 unfold takeS at hc ⊢
 by_cases c0:(takF x m).Code=0
 case neg=>rw [if_neg c0] at hc; exact absurd hc c0
 rw [if_pos c0]
 unfold takF at c0
 by_cases c1:(nodeF x).Code=0
 case neg=>rw [if_neg c1] at c0; exact absurd c0 c1
 rw [if_pos c1] at c0
 by_cases c2:finM x m
 case neg=>rw [if_neg c2] at c0; cases c0
 have hg:=nodeF_good.1 c1
 obtain ⟨hgb,hmb⟩:=bas_good hg c2
 obtain ⟨f1,f2,f3,-⟩:=c2
 have hy:NI n G i (bas x m)∧(bas x m).ID=x.ID∧(bas x m).N=x.N∧x.Term≤(bas x m).Term∧((bas x m).Role≠0→1≤(bas x m).Term):=by
  unfold bas
  by_cases c:x.Term<m.Term
  ·rw [if_pos c]; exact ⟨h.raise c,rfl,rfl,by show x.Term≤m.Term; omega,fun q=>absurd rfl q⟩
  ·rw [if_neg c]; exact ⟨h,rfl,rfl,Int.le_refl _,hT⟩
 obtain ⟨y1,y2,y3,y4,y5⟩:=hy
 refine Out.trans (.refl _ _ _ _) rfl y4 (?_:Out n G i (bas x m) t (takeK (bas x m) m).1 (takeK (bas x m) m).2 0)
 unfold takeK
 by_cases k1:m.Kind=1
 ·rw [if_pos k1]; exact out_take1 hG y1 hgb (by rw [y2,hid]) hi hm k1 (by rw [y2]; exact f3)
 rw [if_neg k1]
 by_cases k2:m.Kind=2
 ·rw [if_pos k2]; exact out_take2 hG y1 hgb (by rw [y2,hid]) hi (by rw [y3,hN]) y5 hm k2 (by rw [y2]; exact f2)
 rw [if_neg k2]
 by_cases k3:m.Kind=3
 ·rw [if_pos k3]; exact out_take3 hG y1 hgb (by rw [y2,hid]) hi hm k3 hmb
 rw [if_neg k3]
 exact out_take4 hG y1 hgb (by rw [y2,hid]) hi (by rw [y3,hN]) y5 hm (by omega)
end
def tm (ns:List Node) (j:Int):Int:=(lget ns j).Term
structure RI (n:Nat) (G:Gh) (ns:List Node) (way:List Mail):Prop where
 gg:GG n G
 nd:∀ i,isN n i→NI n G i (lget ns i)
 ml:∀ m∈way,MI n G (tm ns) m
def Gl (G H:Gh):Prop:=∃ i t0 t,(∀ T x,G.el T=some x→H.el T=some x)∧(∀ T,G.ll T <+: H.ll T)∧(∀ j T,G.ak j T≤H.ak j T)∧i=(0:Int)∧t0=(0:Int)∧t=(0:Int)
theorem Gl.refl (G:Gh):Gl G G:=⟨0,0,0,fun _ _ h=>h,fun _=>List.prefix_refl _,fun _ _=>Nat.le_refl _,rfl,rfl,rfl⟩
theorem Ex.gl {i t0:Int} {t:Int→Int} {G H:Gh} (e:Ex i t0 t G H):Gl G H:=⟨0,0,0,e.el,e.ll,e.ak,rfl,rfl,rfl⟩
section
variable {n:Nat} {G:Gh} {ns:List Node} {way:List Mail}
theorem RI.less (h:RI n G ns way) {way':List Mail} (hs:∀ m∈way',m∈way):RI n G ns way':=⟨h.gg,h.nd,fun m hm=>h.ml m (hs m hm)⟩
theorem RI.out (h:RI n G ns way) (hl:ns.length=n) {w:Int} (hw:isN n w) {r:Node×List Mail×Fault} {b:Nat} (o:r.2.2.Code=0→Out n G w (lget ns w) (tm ns) r.1 r.2.1 b):∃ H,Gl G H∧RI n H (act ns way w r).1 (act ns way w r).2∧Grw (if r.2.2.Code=0 then b else 0) G H:=by
 unfold act
 by_cases c:r.2.2.Code=0
 case neg=>rw [if_neg c,if_neg c]; exact ⟨G,.refl G,h,.same h.gg⟩
 rw [if_pos c,if_pos c]
 obtain ⟨H,e,h1,h2,h3,h4,h5⟩:=o c
 have hw2:=hw
 unfold isN at hw2
 have hget:∀ j:Int,0≤j→lget (lset ns w r.1) j=if j=w then r.1 else lget ns j:=fun j hj=>lget_lset _ _ _ _ (by omega) hj
 have htm:∀ c,tm ns c≤tm (lset ns w r.1) c:=fun c=>by
  have e1:∀ l:List Node,lget l c=lget l ((c.toNat:Nat):Int):=fun l=>by unfold lget; rw [Int.toNat_natCast]
  unfold tm
  rw [e1,e1,hget _ (by omega)]
  split
  ·rename_i q; rw [q]; exact h3
  ·exact Int.le_refl _
 have htw:tm (lset ns w r.1) w=r.1.Term:=by unfold tm; rw [hget w hw2.1,if_pos rfl]
 refine ⟨H,e.gl,⟨h1,fun i hi=>?_,fun m hm=>?_⟩,h5⟩
 ·rw [hget i hi.1]
  by_cases q:i=w
  ·rw [if_pos q,q]; exact h2
  ·rw [if_neg q]; exact NI.other h.gg e q rfl (h.nd i hi)
 ·rcases List.mem_append.1 hm with q | q
  ·exact (h.ml m q).ex e rfl htm
  ·exact h4 m q _ htw
theorem ri_deed (hgi:GI n ns way) (h:RI n G ns way) {texts:List (List UInt8)} {d:Deed} {k:Nat} (hb:badC texts d ns way k=0):∃ H,Gl G H∧RI n H (deedC texts d ns way k).1 (deedC texts d ns way k).2.1∧∃ b,b≤1∧Grw b G H∧(deedC texts d ns way k).2.2=k+b:=by
 have hlen:=hgi.len
 have c4:¬ (d.Kind<0∨6<d.Kind):=fun c=>by unfold badC at hb; rw [if_pos c] at hb; exact absurd hb (by decide)
 have c3:¬ (((3≤d.Kind∧d.Kind≤5)∧(d.N<0∨(way.length:Int)≤d.N))∨(¬ (3≤d.Kind∧d.Kind≤5)∧(d.Who<0∨(ns.length:Int)≤d.Who))):=fun c=>by unfold badC at hb; rw [if_neg c4,if_pos c] at hb; exact absurd hb (by decide)
 have hwi:¬ (3≤d.Kind∧d.Kind≤5)→isN n d.Who:=fun q=>by unfold isN; omega
 have key:∀ w:Int,isN n w→(lget ns w).ID=w∧(lget ns w).N=(n:Int)∧((lget ns w).Role≠0→1≤(lget ns w).Term):=fun w hw=>by
  obtain ⟨a,b,c,e⟩:=hgi.at hw
  exact ⟨c,b,e⟩
 have zero:∀ {a:List Node×List Mail} {q:Prop} {dq:Decidable q},(∃ H,Gl G H∧RI n H a.1 a.2∧Grw (@ite _ q dq 0 0) G H)→∃ H,Gl G H∧RI n H a.1 a.2∧∃ b,b≤1∧Grw b G H∧k=k+b:=fun {a q dq} ⟨H,x1,x2,x3⟩=>⟨H,x1,x2,0,Nat.zero_le _,by rwa [ite_self] at x3,rfl⟩
 unfold deedC
 by_cases k0:d.Kind=0
 ·rw [if_pos k0]
  have hw:=hwi (by omega)
  obtain ⟨a,b,e⟩:=key _ hw
  exact zero (h.out hlen hw (fun c=>out_stand h.gg (h.nd _ hw) a hw b c))
 rw [if_neg k0]
 by_cases k1:d.Kind=1
 ·rw [if_pos k1]
  have hw:=hwi (by omega)
  obtain ⟨a,b,e⟩:=key _ hw
  obtain ⟨H,x1,x2,x3⟩:=h.out hlen hw (r:=((propS (lget ns d.Who) (lget texts (k:Int))).1,[],(propS (lget ns d.Who) (lget texts (k:Int))).2)) (fun c=>out_prop h.gg (h.nd _ hw) a hw b e c)
  refine ⟨H,x1,x2,_,?_,x3,?_⟩
  ·split <;> omega
  ·dsimp only
   split <;> rfl
 rw [if_neg k1]
 by_cases k2:d.Kind=2
 ·rw [if_pos k2]
  have hw:=hwi (by omega)
  obtain ⟨a,b,e⟩:=key _ hw
  exact zero (h.out hlen hw (r:=(lget ns d.Who,(beatS (lget ns d.Who)).1,(beatS (lget ns d.Who)).2)) (fun c=>out_beat h.gg (h.nd _ hw) a hw b c))
 rw [if_neg k2]
 have her:∀ m∈way.eraseIdx d.N.toNat,m∈way:=fun m hm=>List.mem_of_mem_eraseIdx hm
 by_cases k3:d.Kind=3
 ·rw [if_pos k3]
  have hmem:=lget_mem way d.N (by omega)
  obtain ⟨hto,_⟩:=hgi.mails _ hmem
  have hw:isN n (lget way d.N).To:=hto
  obtain ⟨a,b,e⟩:=key _ hw
  exact zero ((h.less her).out hlen hw (fun c=>out_take h.gg (h.nd _ hw) a hw b e (h.ml _ hmem) c))
 rw [if_neg k3]
 by_cases k4:d.Kind=4
 ·rw [if_pos k4]
  refine ⟨G,.refl G,h.less fun m hm=>?_,0,Nat.zero_le _,.same h.gg,rfl⟩
  rcases List.mem_append.1 hm with g | g
  ·exact g
  ·rw [List.mem_singleton] at g
   rw [g]; exact lget_mem way d.N (by omega)
 rw [if_neg k4]
 by_cases k5:d.Kind=5
 ·rw [if_pos k5]; exact ⟨G,.refl G,h.less her,0,Nat.zero_le _,.same h.gg,rfl⟩
 rw [if_neg k5]
 have hw:=hwi (by omega)
 obtain ⟨a,b,e⟩:=key _ hw
 exact zero (h.out hlen hw (r:=((restS (lget ns d.Who)).1,[],(restS (lget ns d.Who)).2)) (fun c=>out_rest h.gg (h.nd _ hw) c))
theorem ri_step (hgi:GI n ns way) (h:RI n G ns way) {texts:List (List UInt8)} {d:Deed} {k:Nat} (hb:(stepC texts d ns way k).2.2.2=0):∃ H,Gl G H∧RI n H (stepC texts d ns way k).1 (stepC texts d ns way k).2.1∧∃ b,b≤1∧Grw b G H∧(stepC texts d ns way k).2.2.1=k+b:=by
 unfold stepC at hb ⊢
 by_cases c:badC texts d ns way k=0
 ·rw [if_neg (not_not_intro c)]
  exact ri_deed hgi h c
 ·rw [if_pos c] at hb; exact absurd hb c
end
def G0:Gh:=⟨fun _=>none,fun _=>[],fun _ _=>[],fun _ _=>none,fun _ _=>[],fun _ _=>False,fun _ _=>0⟩
theorem lm_nil (G:Gh):LM G []:=fun p e h=>by cases h
theorem mt_nil:MT []:=⟨fun p q a b _ h=>(by cases h),fun p a h=>(by cases h)⟩
theorem ri_begin {n:Nat}:RI n G0 (beginC n n) []:=by
 refine ⟨⟨fun _ _ _ h=>(by cases h),fun _ _ _ h=>(by cases h),fun _ _ _ h=>(by cases h),fun _ _=>rfl,fun _=>lm_nil _,fun _=>mt_nil,fun _ _=>Nat.le_refl _,fun _ _ h=>h.elim,fun _ _ _ h=>h.elim,fun _ _ _ h=>(by cases h),fun _ _ h=>h.elim,fun _ _ h=>h.elim⟩,fun i hi=>?_,fun m hm=>(by cases hm)⟩
 unfold isN at hi
 obtain ⟨j,rfl⟩:∃ j:Nat,i=(j:Int):=⟨i.toNat,by omega⟩
 rw [beginC_get n n j (by omega)]
 exact ⟨fun _=>rfl,fun q=>absurd rfl q,fun _ _=>rfl,fun _ _=>rfl,fun _ _ _ h=>(by cases h),fun _ _ h=>(by cases h),fun q=>absurd (show (0:Int)=2 from q) (by decide),fun q=>absurd (show (0:Int)=1 from q) (by decide),fun T k _ hk _=>by have hk:k≤0:=hk; rw [Nat.le_zero.1 hk]; exact List.nil_prefix,lm_nil _,⟨Int.le_refl _,Int.le_refl _,.inl rfl⟩⟩
end G
end Go.Proofs.Ythiighaapaomcaa
