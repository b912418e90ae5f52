/- The machine over the model's code, part EmS. -/
import Derived.Test.YtcifgljlmieblaaGreatDoorEmD
import Derived.Laws.RangeString
set_option linter.unusedVariables false
set_option linter.unusedSimpArgs false
set_option linter.unusedSectionVars false
namespace Go.Dm
open Go Go.RowKit
section
variable {g:Gh} {N:Nat} {M:Mem} {E:Env} {s:S} {tmps:Array Value} {w:World}
theorem St.swap (hs:St g N M E s tmps w) {w':World} (hk:∀ b o,E.own b=some o→w'.heap[b]?=w.heap[b]?) (hF:∀ b,g.F b→w'.heap[b]?=w.heap[b]?) (hm:∀ b j v,M b j=some v→w'.cell? ⟨b,j,none⟩=some v)
  (hsz:w.heap.size≤w'.heap.size) (h1:w'.os=w.os) (h2:w'.tape=w.tape) (h3:w'.output=w.output):St g N M E s tmps w':=by
 refine ⟨hs.size,hs.fr,fun b j v h=>⟨hm b j v h,(hs.mem b j v h).2⟩,fun i cs h=>?_,hs.bxn,fun i r h=>?_,hs.rwn,fun i es h=>?_,hs.mpn,fun i r h=>?_,hs.arn,fun b q h=>Nat.lt_of_lt_of_le (hs.live b q h) hsz,fun b h=>?_,hs.m0,hs.mf,h1.trans hs.os,h2.trans hs.tape,h3.trans hs.output,Nat.le_trans hs.grow hsz,hs.lay⟩
 ·obtain ⟨b,h1,h2,t,vs,h3,h4⟩:=hs.bx i cs h
  exact ⟨b,h1,h2,t,vs,by rw [hk b _ h2]; exact h3,h4⟩
 ·obtain ⟨q,h1,h2⟩:=hs.rw i r h
  exact ⟨q,h1,h2.mono (fun _ _ _ h=>h) (Env.le_refl _) (fun b hb=>⟨hb,hk b _ hb⟩) (fun b j hb=>⟨hb,hk b _ hb⟩)⟩
 ·obtain ⟨r,h1,h2,ents,clock,h3,h4⟩:=hs.mp i es h
  exact ⟨r,h1,h2,ents,clock,by rw [hk r _ h2]; exact h3,h4⟩
 ·obtain ⟨bs,h1,h2⟩:=hs.ar i r h
  exact ⟨bs,h1,h2.mono (fun _ _ _ h=>h) (Env.le_refl _) (fun b j hb=>⟨hb,hk b _ hb⟩) (fun b j hb=>⟨hb,hk b _ hb⟩)⟩
 ·obtain ⟨g1,g2,g3⟩:=hs.foreign b h
  exact ⟨Nat.lt_of_lt_of_le g1 hsz,by rw [hF b h,g2],g3⟩
theorem St.rebaseU (hs:St g N M E s tmps w):St ⟨w,fun b=>b<w.heap.size∧E.own b=none,M,E⟩ N M E s tmps w:=
 { hs with foreign:=fun b hb=>⟨hb.1,rfl,hb.2⟩,m0:=fun _ _ _ h=>h,mf:=fun _ _ _ h _=>h,os:=rfl,tape:=rfl,output:=rfl,grow:=Nat.le_refl _,lay:=lay_re hs.lay (fun b h=>(hs.foreign b h).2.1) fun b h=>⟨(hs.foreign b h).1,(hs.foreign b h).2.2⟩ }
theorem St.unbase (hs:St g N M E s tmps w) {E0 E':Env} {M':Mem} {s':S} {tmps':Array Value} {w':World} (h2:St ⟨w,fun b=>b<w.heap.size∧E.own b=none,M,E0⟩ N M' E' s' tmps' w'):St g N M' E' s' tmps' w':=
 { h2 with
  foreign:=fun b hb=>by
   obtain ⟨a,b1,c⟩:=hs.foreign b hb
   obtain ⟨d,e,f⟩:=h2.foreign b ⟨a,c⟩
   exact ⟨d,e.trans b1,f⟩
  m0:=fun b j v h=>h2.m0 b j v (hs.m0 b j v h)
  mf:=fun b j v h hF=>by
   obtain ⟨a,b1,c⟩:=hs.foreign b hF
   exact hs.mf b j v (h2.mf b j v h ⟨a,c⟩) hF
  os:=h2.os.trans hs.os
  tape:=h2.tape.trans hs.tape
  output:=h2.output.trans hs.output
  grow:=Nat.le_trans hs.grow h2.grow
  lay:=hs.lay }
theorem p0_trans {E0 E1 E2:Env} (h:Env.p0 E0 E1) (h':Env.p0 E1 E2):Env.p0 E0 E2:=by
 refine ⟨fun i b hi e=>h.bx i b hi (h'.bx i b hi e),fun i q hi e hv=>h.rw i q hi (h'.rw i q hi e hv) hv,fun i r hi e=>h.mp i r hi (h'.mp i r hi e),fun i bs hi e=>?_⟩
 obtain ⟨b1,l1,e1,f1⟩:=h'.ar i bs hi e
 obtain ⟨b0,l0,e0,f0⟩:=h.ar i b1 hi e1
 exact ⟨b0,l0++l1,e0,by rw [f1,f0,List.append_assoc]⟩
theorem p0_refl (E:Env):Env.p0 E E:=⟨fun _ _ _ h=>h,fun _ _ _ h _=>h,fun _ _ _ h=>h,fun _ bs _ h=>⟨bs,[],h,(List.append_nil _).symm⟩⟩
theorem St.putN {a:Act} (hs:St g N M E s a.tmps w) {d:Nat} (hd:aget s.fr d=none) (v:Value):St g N M E s (a.put (some d) v).tmps w:=by
 refine { hs with size:=by simpa [Act.put] using hs.size,fr:=fun i av hi=>?_ }
 have hne:i≠d:=by rintro rfl; rw [hd] at hi; cases hi
 obtain ⟨h1,h2⟩:=hs.fr i av hi
 simp only [Act.put,Array.getD_eq_getD_getElem?]
 rw [Array.getElem?_setIfInBounds_ne (fun e=>hne e.symm)]
 rw [Array.getD_eq_getD_getElem?] at h2
 exact ⟨h1,h2⟩
theorem Rel.raw_inv {v u:Value} (h:Rel M E v (.raw u)):v=u:=by
 cases h with
 | cell h=>cases h with
  | pure h=>cases h; rfl
end
section
variable {C:Cx} {k:List It}
theorem run_extract {P:Program} {o:Oper} {x:Operand} {n:Nat} (ho:o.op = .extract x n) {ρ:Operand→Value} {vs:Array Value} {v:Value} (hx:ρ x = .tuple vs) (hv:vs[n]?=some v) (w:World):(execOp ρ o).run P w = .ok (.value v) w:=by
 simp [execOp,ho,hx,Instr.extract,hv]
theorem run_nextOp {P:Program} {o:Oper} {x:Operand} (ho:o.op = .next x true) {ρ:Operand→Value} {w w':World} {v:Value} (h:(Instr.next (ρ x) true o.type).run P w = .ok v w'):(execOp ρ o).run P w = .ok (.value v) w':=by
 simp [execOp,ho,h]
theorem run_rangeOp {P:Program} {o:Oper} {x:Operand} {t:TypeId} (ho:o.op = .range t x) {ρ:Operand→Value} {w w':World} {v:Value} (h:(Instr.range t (ρ x)).run P w = .ok v w'):(execOp ρ o).run P w = .ok (.value v) w':=by
 simp [execOp,ho,h]
theorem step_value {P:Program} {ops:Array Oper} {rest:List Oper} {o:Oper} {a:Act} {w w':World} {Q:Exit→Act→World→Prop} {v:Value} (hg:o.guard=none) (h:(execOp a.eval o).run P w = .ok (.value v) w') (hk:wpList P ops Q rest (a.put o.dst v) w'):wpList P ops Q (o::rest) a w:=
 wpList_plain hg fun K hK=>by
  refine (?_:o.wp P a w _ _)
  unfold Oper.wp
  rw [h]
  exact hK _ _ hk
theorem put_get {a:Act} {d:Nat} {v:Value} (h:d<a.tmps.size):(a.put (some d) v).eval (.tmp d)=v:=by
 simp [Act.eval,Act.put,h]
theorem flt_pt (C:Cx):∀ (n:Nat) (k:List It) (a:Act) (w:World),mean C (flt n k) .normal a w→mean C k .normal a w
 | 0,k,a,w,h=>h
 | n+1,k,a,w,h=>by
  unfold flt at h
  split at h
  ·exact wp_seq (flt_pt C n _ a w h)
  ·exact wp_skip (flt_pt C n _ a w h)
  ·rename_i k
   have h2:=flt_pt C n k a w h
   exact h2
  ·exact h
def rngO {σ ρ:Type} (fin:σ→Option ρ) (f:Int→Int→σ→Option (σ⊕ρ)):Nat→List UInt8→σ→Option ρ
 | _,[],x=>fin x
 | j,b::l,x=>match f (j:Int) (b.toNat:Int) x with
  | none=>none
  | some (.inl x')=>rngO fin f (j+1) l x'
  | some (.inr y)=>some y
theorem run_next_str {P:Program} {w:World} {r j:Nat} {l:List UInt8} {b:UInt8} (h:w.heap[r]?=some (.stringIter ⟨l.toArray⟩ j)) (hj:l[j]?=some b) (ha:b.toNat<128) (ty:TypeId) :
  (Instr.next (.pointer (some ⟨r,0,none⟩)) true ty).run P w = .ok (.tuple #[.bool true,.int .i64 j,.int .i32 b.toNat]) { w with heap:=w.heap.setIfInBounds r (.stringIter ⟨l.toArray⟩ (j+1)) }:=by
 obtain ⟨hlt,he⟩:=List.getElem?_eq_some_iff.1 hj
 have h1:j<(⟨l.toArray⟩:ByteArray).size:=by show j<l.toArray.size; simpa using hlt
 have h2:((⟨l.toArray⟩:ByteArray)[j]'h1)=b:=by show l.toArray[j]=b; simpa using he
 have hd:=decode_ascii ⟨l.toArray⟩ j h1 (by rw [h2]; exact ha)
 rw [h2] at hd
 simp only [Instr.next,getObj,setObj,Sem.run_bind,Sem.run,h,Result.andThen,h1,if_true,hd]
 simp [goInt,Sem.run,h]
theorem run_next_out {P:Program} {w:World} {r j:Nat} {l:List UInt8} (h:w.heap[r]?=some (.stringIter ⟨l.toArray⟩ j)) (hj:l.length≤j) (ty:TypeId) :
  (Instr.next (.pointer (some ⟨r,0,none⟩)) true ty).run P w = .ok (.tuple #[.bool false]) w:=by
 have h1:¬ j<(⟨l.toArray⟩:ByteArray).size:=by show ¬ j<l.toArray.size; simpa using hj
 simp [Instr.next,getObj,Sem.run,h,h1]
def S.itS (s:S) (it r:Nat):S:={ s with fr:=(it,.raw (.pointer (some ⟨r,0,Option.none⟩)))::s.fr }
def S.inS (s:S) (nx:Nat) (j b:Int):S:={ s with fr:=(nx,.tup [.bool true,.int .i64 j,.int .i32 b])::s.fr }
def srB (out nb i1:Nat) (o_nx o_ex:Oper) (mr:Nat) (B:Code):Code:=.seq (.region i1 [o_nx,o_ex].toArray false) (.seq (.cond (.tmp mr) .skip (.exit out)) (.block nb B))
theorem St.unit {g:Gh} {N:Nat} {M:Mem} {E:Env} {s:S} {tmps:Array Value} {w:World} {it r:Nat} (hs:St g N M E (s.itS it r) tmps w) (h:aget s.fr it=none):St g N M E s tmps w:=
 { hs with fr:=fun i av hi=>hs.fr i av (by
   have:i≠it:=by rintro rfl; rw [h] at hi; cases hi
   show aget ((it,_)::s.fr) i=some av
   rw [aget_cons,if_neg this]; exact hi) }
theorem sr_rounds {out nb i1 it nx mr r:Nat} {o_nx o_ex:Oper} {B:Code} {σ ρ:Type} {st:σ→S} {fin:σ→Option ρ} {f:Int→Int→σ→Option (σ⊕ρ)} {l:List UInt8} {res:ρ} (hasc:∀ b∈l,b.toNat<128)
  (n1:o_nx.op = .next (.tmp it) true) (n2:o_nx.dst=some nx) (n3:o_nx.guard=none) (e1:o_ex.op = .extract (.tmp nx) 0) (e2:o_ex.dst=some mr) (e3:o_ex.guard=none)
  (hit0:∀ x,aget (st x).fr it=none) (hnx:∀ x,aget (st x).fr nx=none) (hmr:∀ x,aget (st x).fr mr=none) (hdis:nx≠it∧mr≠it∧mr≠nx) (hN:nx<C.N∧mr<C.N) (hFr:¬ C.g.F r)
  (hfin:∀ x,fin x=some res→Wk C k (st x))
  (hbody:∀ (g':Gh) (Q':Exit→Act→World→Prop),(∀ s,Fin C s→Fin ⟨C.P,Q',g',C.N⟩ s)→∀ (j:Int) (b:UInt8) x y,f j b.toNat x=some y→(∀ r',y = .inr r'→r'=res)→
   Wk ⟨C.P,Q',g',C.N⟩ [.code (.block nb B),.cut (fun s'=>∃ x',y = .inl x'∧s'=(st x').itS it r)] (((st x).itS it r).inS nx j b.toNat)) :
  ∀ (n j:Nat) (x:σ) (a:Act) (w:World),rngO fin f j (l.drop j) x=some res→l.length - j<n→(∃ M E,St C.g C.N M E ((st x).itS it r) a.tmps w∧Env.p0 C.g.E0 E∧a.defers=[]∧w.heap[r]?=some (.stringIter ⟨l.toArray⟩ j)∧E.own r=none)→
   Code.rounds C.P (srB out nb i1 o_nx o_ex mr B) (mean C (.blk out::k)) n a w
 | 0,j,x,a,w,_,h,_=>by omega
 | n+1,j,x,a,w,hr,hlt,⟨M,E,hs,hp,hd,hri,ho⟩=>by
  rw [rounds_succ]
  have hit:aget ((st x).itS it r).fr it=some (.raw (.pointer (some ⟨r,0,none⟩))):=by unfold S.itS; rw [aget_cons,if_pos rfl]
  have hnx':aget ((st x).itS it r).fr nx=none:=by unfold S.itS; rw [aget_cons,if_neg hdis.1]; exact hnx x
  have hmr':aget ((st x).itS it r).fr mr=none:=by unfold S.itS; rw [aget_cons,if_neg hdis.2.1]; exact hmr x
  have hval:a.eval (.tmp it) = .pointer (some ⟨r,0,none⟩):=(hs.fr it _ hit).2.raw_inv
  refine wp_seq (wp_region_lit ?_)
  by_cases hj:j<l.length
  ·
   have hb:l[j]?=some l[j]:=List.getElem?_eq_getElem hj
   generalize l[j]=b at hb
   have hdrop:l.drop j=b::l.drop (j+1):=by
    obtain ⟨h1,h2⟩:=List.getElem?_eq_some_iff.1 hb
    rw [← h2]; exact List.drop_eq_getElem_cons h1
   have hba:=hasc b (List.mem_of_getElem? hb)
   have hrun:=run_next_str (P:=C.P) hri hb hba o_nx.type
   have hrlt:r<w.heap.size:=(Array.getElem?_eq_some_iff.1 hri).1
   generalize hW:({ w with heap:=w.heap.setIfInBounds r (.stringIter ⟨l.toArray⟩ (j+1)) }:World)=W at hrun
   have hne:∀ q:Nat,q≠r→W.heap[q]?=w.heap[q]?:=fun q hq=>by
    rw [← hW]; simp [Array.getElem?_setIfInBounds,Ne.symm hq]
   have hsame:W.heap[r]?=some (.stringIter ⟨l.toArray⟩ (j+1)):=by rw [← hW]; simp [hrlt]
   have hWo:W.os=w.os∧W.tape=w.tape∧W.output=w.output∧W.heap.size=w.heap.size:=by rw [← hW]; exact ⟨rfl,rfl,rfl,by simp⟩
   have hnr:∀ (q:Nat) o,E.own q=some o→q≠r:=fun q o h=>by rintro rfl; rw [ho] at h; cases h
   have hsW:St C.g C.N M E ((st x).itS it r) a.tmps W:=by
    refine hs.swap (fun q o h=>hne q (hnr q o h)) (fun q h=>hne q ?_) (fun q i v h=>?_) (by rw [hWo.2.2.2]; exact Nat.le_refl _) hWo.1 hWo.2.1 hWo.2.2.1
    ·rintro rfl; exact hFr h
    ·have h1:=(hs.mem q i v h).1
     have hq:q≠r:=by
      rintro rfl
      unfold World.cell? at h1
      simp only [hri] at h1
      cases h1
     rw [World.cell?_of_block (hne q hq)]; exact h1
   have hs1:=hsW.putS (d:=nx) (x:=.tup [.bool true,.int .i64 j,.int .i32 b.toNat]) (v:=.tuple #[.bool true,.int .i64 j,.int .i32 b.toNat]) hN.1 (by
    refine .tup [.bool true,.int .i64 j,.int .i32 b.toNat] _ rfl fun q v c hv hc=>?_
    match q,hv,hc with
    | 0,hv,hc=>cases hv; cases hc; exact .cell (.pure (.bool _))
    | 1,hv,hc=>cases hv; cases hc; exact .cell (.pure (.int _ _))
    | 2,hv,hc=>cases hv; cases hc; exact .cell (.pure (.int _ _))
    | q+3,hv,hc=>cases hv)
   have hs2:=hs1.putN (d:=mr) (by show aget ((nx,_)::_) mr=none; rw [aget_cons,if_neg hdis.2.2]; exact hmr') (.bool true)
   refine step_value n3 (run_nextOp n1 (by rw [hval]; exact hrun)) ?_
   rw [n2]
   refine step_value e3 (run_extract e1 (put_get (by rw [hs.size]; exact hN.1)) (by rfl:(#[Value.bool true,.int .i64 (j:Int),.int .i32 (b.toNat:Int)])[0]?=some (.bool true)) W) ?_
   rw [e2]
   refine wpList_nil ?_
   refine wp_seq (wp_cond_true (put_get (by rw [hs1.size]; exact hN.2)) (wp_skip ?_))
   rw [hdrop] at hr
   unfold rngO at hr
   have hup:∀ s a' w',H ⟨W,fun q=>q<W.heap.size∧E.own q=none,M,E⟩ C.N s a' w'→H C.g C.N s a' w':=fun s a' w' hH=>by
    obtain ⟨hd',M',E',hs',hp'⟩:=hH
    exact ⟨hd',M',E',hsW.unbase hs',p0_trans hp hp'⟩
   cases hf:f (j:Int) (b.toNat:Int) x with
   | none=>rw [hf] at hr; cases hr
   | some y=>
    rw [hf] at hr
    have main:=hbody ⟨W,fun q=>q<W.heap.size∧E.own q=none,M,E⟩ (fun e a w=>match e with | .ret=>C.Qf .ret a w | .normal=>C.Qf .normal a w | _=>False) (fun s hF a w hH=>hF a w (hup s a w hH)) (j:Int) b x y hf (by
     rintro r' rfl
     exact Option.some.inj hr) _ W ⟨by simp only [defers_put]; exact hd,M,E,hs2.rebaseU,p0_refl E⟩
    refine Go.wp_mono (c:=.block nb B) main fun e a' w' he=>?_
    cases e with
    | normal=>
     obtain ⟨_,⟨x',rfl,rfl⟩,hd',M',E',hs',hp'⟩:=he
     have hfr:=hs'.foreign r ⟨by rw [hWo.2.2.2]; exact hrlt,ho⟩
     exact sr_rounds hasc n1 n2 n3 e1 e2 e3 hit0 hnx hmr hdis hN hFr hfin hbody n (j+1) x' a' w' hr (by omega) ⟨M',E',hsW.unbase hs',p0_trans hp hp',hd',hfr.2.1.trans hsame,hfr.2.2⟩
    | ret=>exact mean_ret C a' w' he _
    | _=>exact he.elim
  ·
   have hdrop:l.drop j=[]:=List.drop_eq_nil_of_le (by omega)
   rw [hdrop] at hr
   unfold rngO at hr
   have hrun:=run_next_out (P:=C.P) hri (by omega) o_nx.type
   refine step_value n3 (run_nextOp n1 (by rw [hval]; exact hrun)) ?_
   rw [n2]
   have hs1:=hs.putN hnx' (.tuple #[.bool false])
   refine step_value e3 (run_extract e1 (put_get (by rw [hs.size]; exact hN.1)) (by rfl:(#[Value.bool false])[0]?=some (.bool false)) w) ?_
   rw [e2]
   have hs2:=hs1.putN hmr' (.bool false)
   refine wpList_nil ?_
   refine wp_seq (wp_cond_false (put_get (by rw [hs1.size]; exact hN.2)) (wp_exit ?_))
   show (if out=out then _ else _)
   rw [if_pos rfl]
   exact hfin x hr _ _ ⟨by simp only [defers_put]; exact hd,M,E,hs2.unit (hit0 x),hp⟩
theorem runK_pre {τ:TyTab} (hτ:TyOk C.P τ) {all post:List Oper}:∀ {os:List Oper} {s s2:S} {an:List An} {gs:List Prop} {es:List (Bool×Bool)} {ks:List (List Key×List Key)},dstB C.N os=true→runK τ C.P all os s an=some (gs,es,s2,ks)→AllP gs→AllE es→
  (∀ a w,H C.g C.N s2 a w→wpList C.P all.toArray (mean C k) post a w)→∀ a w,H C.g C.N s a w→wpList C.P all.toArray (mean C k) (os++post) a w
 | [],s,s2,an,gs,es,ks,_,h,_,_,hk,a,w,hx=>by
  simp only [runK] at h
  split at h
  ·cases h; exact hk a w hx
  ·cases h
 | o::os,s,s2,an,gs,es,ks,hd,h,hg,he,hk,a,w,hx=>by
  simp only [runK] at h
  split at h
  ·rename_i c hc
   split at h
   ·rename_i r hr
    split at h
    ·rename_i gs' es' s' ks' hrest
     cases h
     obtain ⟨g1,g2⟩:=AllP_append.1 hg
     obtain ⟨e1,e2⟩:=AllE_append.1 he
     refine wpList_step fun K hK=>?_
     have hd':dstB C.N os=true:=by
      simp only [dstB] at hd
      split at hd
      ·exact hd
      ·split at hd
       ·exact hd
       ·cases hd
     exact evalG_sound hτ (dstB_get hd (by simp)) hc hr g1 e1 a w hx K _ fun a' w' hH=>hK _ _ (runK_pre hτ hd' hrest g2 e2 hk a' w' hH)
    ·cases h
   ·cases h
  ·cases h
theorem Wk_srange {ops:Array Oper} {k0:List It} {out nb i1 it nx mr xs:Nat} {o_rg o_nx o_ex:Oper} {B:Code} {tt:TypeId} {σ ρ:Type} {st:σ→S} {fin:σ→Option ρ} {f:Int→Int→σ→Option (σ⊕ρ)} {l:List UInt8} {res:ρ} (x0:σ) (hasc:∀ b∈l,b.toNat<128) (hr:rngO fin f 0 l x0=some res)
  (hx:aget (st x0).fr xs=some (.str l)) (htt:C.P.underlying tt=some .string) (g1:o_rg.op = .range tt (.tmp xs)) (g2:o_rg.dst=some it) (g3:o_rg.guard=none)
  (n1:o_nx.op = .next (.tmp it) true) (n2:o_nx.dst=some nx) (n3:o_nx.guard=none) (e1:o_ex.op = .extract (.tmp nx) 0) (e2:o_ex.dst=some mr) (e3:o_ex.guard=none)
  (hit0:∀ x,aget (st x).fr it=none) (hnx:∀ x,aget (st x).fr nx=none) (hmr:∀ x,aget (st x).fr mr=none) (hdis:nx≠it∧mr≠it∧mr≠nx) (hN:it<C.N∧nx<C.N∧mr<C.N)
  (hk0:flt 99 k0 = .code (.block out (.loop (srB out nb i1 o_nx o_ex mr B)))::k) (hfin:∀ x,fin x=some res→Wk C k (st x))
  (hbody:∀ (r:Nat) (g':Gh) (Q':Exit→Act→World→Prop),(∀ s,Fin C s→Fin ⟨C.P,Q',g',C.N⟩ s)→∀ (j:Int) (b:UInt8) x y,f j b.toNat x=some y→(∀ r',y = .inr r'→r'=res)→
   Wk ⟨C.P,Q',g',C.N⟩ [.code (.block nb B),.cut (fun s'=>∃ x',y = .inl x'∧s'=(st x').itS it r)] (((st x).itS it r).inS nx j b.toNat)) :
  ∀ a w,H C.g C.N (st x0) a w→wpList C.P ops (mean C k0) [o_rg] a w:=by
 intro a w ⟨hd,M,E,hs,hp⟩
 have hv:=(hs.fr xs _ hx).2.str_inv
 refine step_value g3 (run_rangeOp g1 (by
  have:a.eval (.tmp xs) = .string ⟨l.toArray⟩:=hv
  rw [this]; exact run_range_string w tt ⟨l.toArray⟩ htt)) ?_
 rw [g2]
 refine wpList_nil (flt_pt C 99 k0 _ _ ?_)
 rw [hk0]
 refine wp_block (wp_loop_rounds (l.length+1) ?_)
 have hold:∀ b:Nat,b<w.heap.size→(w.iter ⟨l.toArray⟩ 0).heap[b]?=w.heap[b]?:=fun b hb=>by
  show (w.heap.push _)[b]?=_
  rw [Array.getElem?_push,if_neg (by omega)]
 have hsW:St C.g C.N M E (st x0) a.tmps (w.iter ⟨l.toArray⟩ 0):=by
  refine hs.swap (fun b o h=>hold b (hs.live b o h)) (fun b h=>hold b (hs.foreign b h).1) (fun b j v h=>?_) (by simp [World.iter]) rfl rfl rfl
  have h1:=(hs.mem b j v h).1
  rw [World.cell?_of_block (hold b (World.block_lt_of_cell? _ _ h1))]; exact h1
 have ho:E.own w.heap.size=none:=by
  cases h:E.own w.heap.size with
  | none=>rfl
  | some o=>exact absurd (hs.live _ o h) (by omega)
 have hs2:St C.g C.N M E ((st x0).itS it w.heap.size) (a.put (some it) (.pointer (some ⟨w.heap.size,0,none⟩))).tmps (w.iter ⟨l.toArray⟩ 0):=hsW.putS (d:=it) hN.1 (.cell (.pure (.raw _ rfl)))
 exact sr_rounds hasc n1 n2 n3 e1 e2 e3 hit0 hnx hmr hdis ⟨hN.2.1,hN.2.2⟩ (fun h=>by have:=(hs.foreign _ h).1; omega) hfin (fun g' Q'=>hbody w.heap.size g' Q') (l.length+1) 0 x0 _ _ (by simpa using hr) (by omega) ⟨M,E,hs2,hp,by simp only [defers_put]; exact hd,World.iter_heap w _ 0,ho⟩
end
end Go.Dm
