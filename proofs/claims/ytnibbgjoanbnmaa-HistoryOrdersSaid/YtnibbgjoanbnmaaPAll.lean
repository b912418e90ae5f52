/- The plain law. -/
import Derived.Test.YtnibbgjoanbnmaaEmD
import Derived.Test.YtnibbgjoanbnmaaGf2
namespace Go.Proofs.Ytnibbgjoanbnmaa
open Go Go.Dm
set_option linter.unusedVariables false
set_option linter.unusedSimpArgs false
set_option linter.unusedSectionVars false
namespace G
def firstFrom {ρ:Type} (f:Nat→Option ρ) (r:ρ):Nat→Nat→ρ
 | _,0=>r
 | k,m+1=>(f k).getD (firstFrom f r (k+1) m)
abbrev nx {σ ρ:Type} (o:Option ρ) (s:σ):σ⊕ρ:=match o with | none=>.inl s | some x=>.inr x
theorem loop_firstG {σ ρ:Type} {step:σ→Option (σ⊕ρ)} (st:Nat→σ) (f:Nat→Option ρ) (r:ρ) (n:Nat) (h:∀ k:Nat,k<n→step (st k)=some (nx (f k) (st (k+1)))) (he:step (st n)=some (.inr r)) :
  loopO step (st 0)=some (firstFrom f r 0 n):=by
 have:∀ m k:Nat,k+m=n→loopO step (st k)=some (firstFrom f r k m):=by
  intro m
  induction m with
  | zero=>
   intro k e
   have:k=n:=by omega
   subst this
   exact loopO_inr he
  | succ m ih=>
   intro k e
   have hk:=h k (by omega)
   rw [firstFrom]
   cases hf:f k with
   | none=>
    rw [hf] at hk
    rw [loopO_inl hk,ih (k+1) (by omega)]; rfl
   | some x=>
    rw [hf] at hk
    exact loopO_inr hk
 exact this n 0 (by omega)
theorem loop_firstF {ρ:Type} {step:Int→Option (Int⊕ρ)} (f:Nat→Option ρ) (r:ρ) (n:Nat) (h:∀ k:Nat,k<n→step (k:Int)=some (nx (f k) ((k+1:Nat):Int))) (he:step (n:Int)=some (.inr r)) :
  loopO step 0=some (firstFrom f r 0 n):=loop_firstG (fun k=>(k:Int)) f r n h he
theorem firstFrom_cases {ρ:Type} (f:Nat→Option ρ) (r:ρ):∀ (m k:Nat),((∀ j,k≤j→j<k+m→f j=none)∧firstFrom f r k m=r)∨∃ j x,k≤j∧j<k+m∧f j=some x∧(∀ i,k≤i→i<j→f i=none)∧firstFrom f r k m=x
 | 0,k=>.inl ⟨fun j h1 h2=>by omega,rfl⟩
 | m+1,k=>by
  rw [firstFrom]
  cases hf:f k with
  | some x=>exact .inr ⟨k,x,Nat.le_refl _,by omega,hf,fun i h1 h2=>by omega,rfl⟩
  | none=>
   rw [Option.getD_none]
   rcases firstFrom_cases f r m (k+1) with ⟨h1,h2⟩ | ⟨j,x,h1,h2,h3,h4,h5⟩
   ·refine .inl ⟨fun j a b=>?_,h2⟩
    by_cases e:j=k
    ·rw [e]; exact hf
    ·exact h1 j (by omega) (by omega)
   ·refine .inr ⟨j,x,by omega,by omega,h3,fun i a b=>?_,h5⟩
    by_cases e:i=k
    ·rw [e]; exact hf
    ·exact h4 i (by omega) b
theorem b_iff {b:Bool} {p:Prop} [Decidable p] (h:b=true↔p):b=decide p:=by
 rw [Bool.eq_iff_iff,h,decide_eq_true_iff]
def kindBad (s:Span):Prop:=¬ (s.Kind=1∨s.Kind=2)
def rngBad (s:Span):Prop:=s.Value<0∨1000000000<s.Value∨(s.Kind=1∧s.Value=0)∨s.From<0∨1000000000<s.From∨(s.To≠-1∧(s.To<s.From∨1000000000<s.To))
instance (s:Span):Decidable (kindBad s):=by unfold kindBad; infer_instance
instance (s:Span):Decidable (rngBad s):=by unfold rngBad; infer_instance
def twice (l:List Span) (k:Nat):Prop:=(lget l (k:Int)).Kind=1∧∃ j:Nat,j<k∧(lget l (j:Int)).Kind=1∧(lget l (j:Int)).Value=(lget l (k:Int)).Value
noncomputable instance (l:List Span) (k:Nat):Decidable (twice l k):=Classical.propDecidable _
noncomputable def fS (l:List Span) (k:Nat):Option Fault:=
 if kindBad (lget l (k:Int)) then some ⟨4,k⟩ else if rngBad (lget l (k:Int)) then some ⟨3,k⟩ else if twice l k then some ⟨10,k⟩ else none
noncomputable def chk (l:List Span):Fault:=if 200<l.length then ⟨2,-1⟩ else firstFrom (fS l) ⟨0,0⟩ 0 l.length
theorem kind_b (s:Span):((!decide (s.Kind=1))&&(!decide (s.Kind=2)))=decide (kindBad s):=b_iff (by unfold kindBad; simp)
theorem kind_b2 (s:Span):((decide (s.Kind<1))||(decide (2<s.Kind)))=decide (kindBad s):=b_iff (by unfold kindBad; simp; omega)
theorem rng_b (s:Span):((((((decide (s.Value<0))||(decide (1000000000<s.Value)))||((decide (s.Kind=1))&&(decide (s.Value=0))))||(decide (s.From<0)))||(decide (1000000000<s.From)))||((!decide (s.To=(-1)))&&((decide (s.To<s.From))||(decide (1000000000<s.To)))))=decide (rngBad s):=
 b_iff (by unfold rngBad; simp; omega)
theorem num_eq (n:Int):R_Num n=decide (0≤n∧n≤1000000000):=b_iff (by unfold R_Num; simp)
theorem rng_b2 (s:Span):((((!decide (0≤s.Value∧s.Value≤1000000000))||((decide (s.Kind=1))&&(decide (s.Value=0))))||(!decide (0≤s.From∧s.From≤1000000000)))||((!decide (s.To=(-1)))&&((decide (s.To<s.From))||(!decide (0≤s.To∧s.To≤1000000000)))))=decide (rngBad s):=
 b_iff (by unfold rngBad; simp; omega)
def wrt (l:List Span) (k:Nat):List Int:=((l.take k).filter fun s=>decide (s.Kind=1)).map fun s=>s.Value
theorem wrt_succ (l:List Span) (k:Nat) (h:k<l.length):wrt l (k+1)=if (lget l (k:Int)).Kind=1 then wrt l k++[(lget l (k:Int)).Value] else wrt l k:=by
 unfold wrt
 rw [lget_take l k h,List.filter_append,List.map_append]
 by_cases c:(lget l (k:Int)).Kind=1
 ·rw [if_pos c]; simp [c]
 ·rw [if_neg c]; simp [c]
theorem mem_wrt (l:List Span) (k:Nat) (h:k≤l.length) (v:Int):v∈wrt l k↔∃ j:Nat,j<k∧(lget l (j:Int)).Kind=1∧(lget l (j:Int)).Value=v:=by
 unfold wrt
 simp only [List.mem_map,List.mem_filter,mem_take_lget h,decide_eq_true_eq]
 constructor
 ·rintro ⟨s,⟨⟨j,h1,rfl⟩,h2⟩,h3⟩; exact ⟨j,h1,h2,h3⟩
 ·rintro ⟨j,h1,h2,h3⟩; exact ⟨_,⟨⟨j,h1,rfl⟩,h2⟩,h3⟩
theorem check_eq (l:List Span):history_Check l=some (chk l):=by
 unfold history_Check chk
 by_cases c:200<l.length
 ·rw [if_pos (d_t (by omega)),if_pos c]; rfl
 ·rw [if_neg (d_f (by omega)),if_neg c]
  refine loop_firstG (step:=fun y=>history_Check_B1 l y) (fun k=>(seenM (wrt l k),(k:Int))) (fS l) ⟨0,0⟩ l.length (fun k hk=>?_) ?_
  ·have hw:w64 ((k:Int)+1)=((k+1:Nat):Int):=by rw [w64_id (by omega) (by omega)]; omega
   show history_Check_B1 l (seenM (wrt l k),(k:Int))=_
   unfold history_Check_B1 fS
   rw [if_pos (d_t (by omega)),asrt_pos (by omega)]
   simp only [kind_b,rng_b]
   by_cases g1:kindBad (lget l (k:Int))
   ·rw [if_pos (d_t g1),if_pos g1]; rfl
   rw [if_neg (d_f g1),if_neg g1]
   by_cases g2:rngBad (lget l (k:Int))
   ·rw [if_pos (d_t g2),if_pos g2]; rfl
   rw [if_neg (d_f g2),if_neg g2]
   have ht:((decide ((lget l (k:Int)).Kind=1))&&(decide (0<((mget (seenM (wrt l k)) (lget l (k:Int)).Value).getD (0:Int)))))=decide (twice l k):=by
    refine Bool.eq_iff_iff.2 ?_
    rw [seenM_get,decide_eq_true_iff,Bool.and_eq_true,decide_eq_true_iff,decide_eq_true_iff]
    unfold twice
    rw [← mem_wrt l k (by omega)]
    by_cases q:(lget l (k:Int)).Value∈wrt l k
    ·simp [q]
    ·simp [q]
   rw [ht]
   by_cases g3:twice l k
   ·rw [if_pos (d_t g3),if_pos g3]; rfl
   rw [if_neg (d_f g3),if_neg g3]
   rw [hw,wrt_succ l k hk]
   by_cases g4:(lget l (k:Int)).Kind=1
   ·rw [if_pos (d_t g4),if_pos g4,seenM_snoc]; rfl
   ·rw [if_neg (d_f g4),if_neg g4]; rfl
  ·show history_Check_B1 l (_,(l.length:Int))=_
   unfold history_Check_B1
   rw [if_neg (d_f (by simp))]; rfl
theorem spans_eq (l:List Span):R_SpansFault l=some (chk l):=by
 unfold R_SpansFault chk
 by_cases c:200<l.length
 ·rw [if_pos (d_t (by omega)),if_pos c]; rfl
 ·rw [if_neg (d_f (by omega)),if_neg c]
  refine loop_firstF (step:=fun y=>R_SpansFault_B1 l y) (fS l) ⟨0,0⟩ l.length (fun k hk=>?_) ?_
  ·have hw:w64 ((k:Int)+1)=((k+1:Nat):Int):=by rw [w64_id (by omega) (by omega)]; omega
   show R_SpansFault_B1 l (k:Int)=_
   unfold R_SpansFault_B1 fS
   rw [if_pos (d_t (by omega)),asrt_pos (by omega)]
   simp only [kind_b2,lt,num_eq,rng_b2]
   by_cases g1:kindBad (lget l (k:Int))
   ·rw [if_pos (d_t g1),if_pos g1]; rfl
   rw [if_neg (d_f g1),if_neg g1]
   by_cases g2:rngBad (lget l (k:Int))
   ·rw [if_pos (d_t g2),if_pos g2]; rfl
   rw [if_neg (d_f g2),if_neg g2]
   unfold R_SpansFault_L2
   have hin:∀ j:Nat,j<k→∀ q:Prop,[Decidable q]→(q↔((lget l (k:Int)).Kind=1∧(lget l (j:Int)).Kind=1∧(lget l (j:Int)).Value=(lget l (k:Int)).Value))→
     R_SpansFault_B2 l (k:Int) (j:Int)=if q then some (.inr (.inr ⟨10,k⟩)) else some (.inl ((j+1:Nat):Int)):=fun j hj q _ hq=>by
    have hw2:w64 ((j:Int)+1)=((j+1:Nat):Int):=by rw [w64_id (by omega) (by omega)]; omega
    unfold R_SpansFault_B2
    rw [if_pos (d_t (by omega)),asrt_pos (fun _=>by omega),asrt_pos (fun _=>by omega),hw2]
    have e:(((decide ((lget l (k:Int)).Kind=1))&&(decide ((lget l (j:Int)).Kind=1)))&&(decide ((lget l (j:Int)).Value=(lget l (k:Int)).Value)))=decide q:=b_iff (by rw [hq]; simp [and_assoc])
    rw [e]
    by_cases hq2:q
    ·rw [if_pos (d_t hq2),if_pos hq2]; rfl
    ·rw [if_neg (d_f hq2),if_neg hq2]
   have he:R_SpansFault_B2 l (k:Int) (k:Int)=some (.inr (.inl ((k+1:Nat):Int))):=by
    unfold R_SpansFault_B2 R_SpansFault_J2 inrO
    rw [if_neg (d_f (by omega)),hw]
   rcases loop_any (step:=fun y=>R_SpansFault_B2 l (k:Int) y) k (fun j=>(j:Int)) (fun j=>(lget l (k:Int)).Kind=1∧(lget l (j:Int)).Kind=1∧(lget l (j:Int)).Value=(lget l (k:Int)).Value) (rb:=.inr ⟨10,k⟩) (r:=.inl ((k+1:Nat):Int))
    (fun j hj hn=>by rw [hin j hj _ Iff.rfl,if_neg hn]) (fun j hj hn=>by rw [hin j hj _ Iff.rfl,if_pos hn]) he with ⟨⟨j,h1,h2⟩,h3⟩ | ⟨h1,h3⟩
   ·have g3:twice l k:=⟨h2.1,j,h1,h2.2⟩
    rw [if_pos g3]; exact h3
   ·have g3:¬ twice l k:=fun ⟨a,j,b,d⟩=>h1 j b ⟨a,d⟩
    rw [if_neg g3]; exact h3
  ·show R_SpansFault_B1 l (l.length:Int)=_
   unfold R_SpansFault_B1
   rw [if_neg (d_f (by simp))]; rfl
structure Good (l:List Span):Prop where
 len:l.length≤200
 kind:∀ k:Nat,k<l.length→(lget l (k:Int)).Kind=1∨(lget l (k:Int)).Kind=2
 rng:∀ k:Nat,k<l.length→¬ rngBad (lget l (k:Int))
 one:∀ j k:Nat,j<l.length→k<l.length→(lget l (j:Int)).Kind=1→(lget l (k:Int)).Kind=1→(lget l (j:Int)).Value=(lget l (k:Int)).Value→j=k
theorem good_of {l:List Span} (h:(chk l).Code=0):Good l:=by
 unfold chk at h
 by_cases c:200<l.length
 ·rw [if_pos c] at h; cases h
 rw [if_neg c] at h
 have key:∀ k,k<l.length→fS l k=none:=by
  rcases firstFrom_cases (fS l) (⟨0,0⟩:Fault) l.length 0 with ⟨h1,_⟩ | ⟨j,x,_,_,h3,_,h5⟩
  ·exact fun k hk=>h1 k (Nat.zero_le _) (by omega)
  ·rw [h5] at h
   unfold fS at h3
   repeat' split at h3
   all_goals first | (cases h3; cases h; done) | cases h3
 have k1:∀ k,k<l.length→¬ kindBad (lget l (k:Int))∧¬ rngBad (lget l (k:Int))∧¬ twice l k:=fun k hk=>by
  have:=key k hk
  unfold fS at this
  split at this
  ·cases this
  ·split at this
   ·cases this
   ·split at this
    ·cases this
    ·exact ⟨‹_›,‹_›,‹_›⟩
 refine ⟨by omega,fun k hk=>Decidable.not_not.1 (k1 k hk).1,fun k hk=>(k1 k hk).2.1,fun j k hj hk h1 h2 h3=>?_⟩
 rcases Nat.lt_trichotomy j k with q | q | q
 ·exact absurd ⟨h2,j,q,h1,h3⟩ (k1 k hk).2.2
 ·exact q
 ·exact absurd ⟨h1,k,q,h2,h3.symm⟩ (k1 j hj).2.2
theorem chk_zero {l:List Span} (h:(chk l).Code=0):chk l=⟨0,0⟩:=by
 unfold chk at h ⊢
 by_cases c:200<l.length
 ·rw [if_pos c] at h; cases h
 rw [if_neg c] at h ⊢
 rcases firstFrom_cases (fS l) (⟨0,0⟩:Fault) l.length 0 with ⟨_,h2⟩ | ⟨j,x,_,_,h3,_,h5⟩
 ·exact h2
 ·rw [h5] at h
  unfold fS at h3
  repeat' split at h3
  all_goals first | (cases h3; cases h; done) | cases h3
section
variable {α:Type} [Inhabited α]
theorem lset_len (l:List α) (n:Int) (x:α):(lset l n x).length=l.length:=by simp [lset]
theorem lget_set_self {l:List α} {k:Nat} (h:k<l.length) (x:α):lget (lset l (k:Int) x) (k:Int)=x:=by
 unfold lget lset
 simp [List.getD,h]
theorem lget_set_ne {l:List α} {k j:Nat} (h:k≠j) (x:α):lget (lset l (k:Int) x) (j:Int)=lget l (j:Int):=by
 unfold lget lset
 simp [List.getD,List.getElem?_set,h]
theorem lset_lset (l:List α) (k:Int) (x y:α):lset (lset l k x) k y=lset l k y:=by unfold lset; rw [List.set_set]
theorem lget_app {l:List α} {k:Nat} (h:k<l.length) (x:α):lget (l++[x]) (k:Int)=lget l (k:Int):=by
 unfold lget
 simp [List.getD,List.getElem?_append,h]
theorem lget_end (l:List α) (x:α):lget (l++[x]) (l.length:Int)=x:=by
 unfold lget
 simp [List.getD]
end
theorem mput_new {κ ν:Type} [DecidableEq κ]:∀ {l:List (κ×ν)} {k:κ} (v:ν),mget l k=none→mput l k v=l++[(k,v)]
 | [],k,v,_=>rfl
 | p::l,k,v,h=>by
  rw [mget] at h
  split at h
  ·cases h
  ·rename_i hk
   rw [mput,if_neg hk,mput_new v h]; rfl
structure Inv (mp:List (Int×Nat)) (ar:List bunch):Prop where
 i1:∀ (v:Int) (k:Nat),mget mp v=some k↔k<ar.length∧(lget ar (k:Int)).value=v
 i2:mp.map (fun p=>p.2)=List.range ar.length
def newB (v:Int):bunch:=⟨v,-1,[],1000000001,-1⟩
def look (mp:List (Int×Nat)) (ar:List bunch) (v:Int):Option bunch:=(mget mp v).map fun k:Nat=>lget ar (k:Int)
theorem Inv.nil:Inv [] []:=⟨fun v k=>by simp [mget],rfl⟩
theorem at_new {mp:List (Int×Nat)} {v:Int} (ar:List bunch) (h:mget mp v=none):history_bunches_1 v mp ar=(ar.length,mput mp v ar.length,ar++[newB v]):=by
 unfold history_bunches_1
 rw [h,if_pos (by rfl)]; rfl
theorem at_old {mp:List (Int×Nat)} {v:Int} {k:Nat} (ar:List bunch) (h:mget mp v=some k):history_bunches_1 v mp ar=(k,mp,ar):=by
 unfold history_bunches_1
 rw [h,if_neg (by simp)]; rfl
theorem upd {mp:List (Int×Nat)} {ar:List bunch} (h:Inv mp ar) (v:Int) :
  (history_bunches_1 v mp ar).1<(history_bunches_1 v mp ar).2.2.length∧lget (history_bunches_1 v mp ar).2.2 ((history_bunches_1 v mp ar).1:Int)=(look mp ar v).getD (newB v)∧
  ∀ b:bunch,b.value=v→Inv (history_bunches_1 v mp ar).2.1 (lset (history_bunches_1 v mp ar).2.2 ((history_bunches_1 v mp ar).1:Int) b)∧
   ∀ w,look (history_bunches_1 v mp ar).2.1 (lset (history_bunches_1 v mp ar).2.2 ((history_bunches_1 v mp ar).1:Int) b) w=if w=v then some b else look mp ar w:=by
 cases hm:mget mp v with
 | none=>
  rw [at_new ar hm]
  dsimp only
  have hl:∀ k,k<ar.length→(lget ar (k:Int)).value≠v:=fun k hk e=>by
   have:=(h.i1 v k).2 ⟨hk,e⟩
   rw [hm] at this; cases this
  refine ⟨by simp,?_,fun b hb=>⟨⟨fun w k=>?_,?_⟩,fun w=>?_⟩⟩
  ·show lget (ar++[_]) (ar.length:Int)=_
   rw [lget_end]
   unfold look
   rw [hm]; rfl
  ·rw [mget_mput,lset_len,List.length_append,List.length_singleton]
   by_cases e:v=w
   ·rw [if_pos e]
    constructor
    ·intro q; cases q
     refine ⟨by omega,?_⟩
     rw [lget_set_self (by simp)]; exact hb.trans e
    ·rintro ⟨h1,h2⟩
     by_cases hk:k=ar.length
     ·rw [hk]
     ·rw [lget_set_ne (fun q=>hk q.symm),lget_app (by omega)] at h2
      exact absurd (h2.trans e.symm) (hl k (by omega))
   ·rw [if_neg e,h.i1]
    constructor
    ·rintro ⟨h1,h2⟩
     refine ⟨by omega,?_⟩
     rw [lget_set_ne (by omega),lget_app h1]; exact h2
    ·rintro ⟨h1,h2⟩
     by_cases hk:k=ar.length
     ·subst hk
      rw [lget_set_self (by simp)] at h2
      exact absurd (hb.symm.trans h2) e
     ·rw [lget_set_ne (fun q=>hk q.symm),lget_app (by omega)] at h2
      exact ⟨by omega,h2⟩
  ·show (mput mp v ar.length).map _=_
   rw [mput_new _ hm,List.map_append,h.i2,lset_len,List.length_append,List.length_singleton,List.range_succ]; rfl
  ·unfold look
   show (mget (mput mp v ar.length) w).map _=_
   rw [mget_mput]
   by_cases e:v=w
   ·rw [if_pos e,if_pos e.symm,Option.map_some,lget_set_self (by simp)]
   ·rw [if_neg e,if_neg (fun q=>e q.symm)]
    cases hw:mget mp w with
    | none=>rfl
    | some j=>
     have hj:=(h.i1 w j).1 hw
     rw [Option.map_some,Option.map_some,lget_set_ne (by omega),lget_app hj.1]
 | some k=>
  rw [at_old ar hm]
  dsimp only
  have hk:=(h.i1 v k).1 hm
  refine ⟨hk.1,?_,fun b hb=>⟨⟨fun w j=>?_,?_⟩,fun w=>?_⟩⟩
  ·unfold look
   rw [hm]; rfl
  ·show mget mp w=some j↔j<(lset ar (k:Int) b).length∧(lget (lset ar (k:Int) b) (j:Int)).value=w
   rw [h.i1,lset_len]
   by_cases e:k=j
   ·subst e
    constructor
    ·rintro ⟨h1,h2⟩
     refine ⟨h1,?_⟩
     rw [lget_set_self hk.1,hb,← hk.2]; exact h2
    ·rintro ⟨h1,h2⟩
     refine ⟨h1,?_⟩
     rw [lget_set_self hk.1,hb] at h2
     exact hk.2.trans h2
   ·rw [lget_set_ne e]
  ·show mp.map _=List.range (lset ar (k:Int) b).length
   rw [lset_len]; exact h.i2
  ·unfold look
   show (mget mp w).map (fun j:Nat=>lget (lset ar (k:Int) b) (j:Int))=_
   by_cases e:w=v
   ·rw [if_pos e,e,hm,Option.map_some,lget_set_self hk.1]
   ·rw [if_neg e]
    cases hw:mget mp w with
    | none=>rfl
    | some j=>
     have hj:=(h.i1 w j).1 hw
     have:k≠j:=by
      rintro rfl
      exact e (hj.2.symm.trans hk.2)
     rw [Option.map_some,Option.map_some,lget_set_ne this]
theorem look_value {mp:List (Int×Nat)} {ar:List bunch} (h:Inv mp ar) {v:Int} {b:bunch} (hb:look mp ar v=some b):b.value=v:=by
 unfold look at hb
 cases hm:mget mp v with
 | none=>rw [hm] at hb; cases hb
 | some k=>
  rw [hm] at hb
  cases hb
  exact ((h.i1 v k).1 hm).2
theorem getB_value {mp:List (Int×Nat)} {ar:List bunch} (h:Inv mp ar) (v:Int):((look mp ar v).getD (newB v)).value=v:=by
 cases hb:look mp ar v with
 | none=>rfl
 | some b=>exact look_value h hb
def fR (l:List Span) (n:Nat) (b:bunch):bunch:=⟨b.value,b.write,b.reads++[(n:Int)],min b.first (lget l (n:Int)).To,max b.last (lget l (n:Int)).From⟩
def fW (l:List Span) (n:Nat) (b:bunch):bunch:=⟨b.value,(n:Int),b.reads,min b.first (history_end (lget l (n:Int))),max b.last (lget l (n:Int)).From⟩
def isR (l:List Span) (n:Nat):Prop:=¬ (lget l (n:Int)).Kind=1∧0≤(lget l (n:Int)).To
instance (l:List Span) (n:Nat):Decidable (isR l n):=by unfold isR; infer_instance
abbrev val (l:List Span) (n:Nat):Int:=(lget l (n:Int)).Value
def isW (l:List Span) (mp:List (Int×Nat)) (n:Nat):Prop:=(lget l (n:Int)).Kind=1∧(0≤(lget l (n:Int)).To∨(mget mp (val l n)).isSome=true)
instance (l:List Span) (mp:List (Int×Nat)) (n:Nat):Decidable (isW l mp n):=by unfold isW; infer_instance
def put1 (v:Int) (f:bunch→bunch) (s:List (Int×Nat)×List bunch):List (Int×Nat)×List bunch:=
 ((history_bunches_1 v s.1 s.2).2.1,lset (history_bunches_1 v s.1 s.2).2.2 ((history_bunches_1 v s.1 s.2).1:Int) (f (lget (history_bunches_1 v s.1 s.2).2.2 ((history_bunches_1 v s.1 s.2).1:Int))))
def sR (l:List Span):Nat→List (Int×Nat)×List bunch
 | 0=>([],[])
 | n+1=>if isR l n then put1 (val l n) (fR l n) (sR l n) else sR l n
def sW (l:List Span):Nat→List (Int×Nat)×List bunch
 | 0=>sR l l.length
 | n+1=>if isW l (sW l n).1 n then put1 (val l n) (fW l n) (sW l n) else sW l n
theorem put1_inv {s:List (Int×Nat)×List bunch} (h:Inv s.1 s.2) (v:Int) {f:bunch→bunch} (hf:∀ b,(f b).value=b.value):Inv (put1 v f s).1 (put1 v f s).2∧
  ∀ w,look (put1 v f s).1 (put1 v f s).2 w=if w=v then some (f ((look s.1 s.2 v).getD (newB v))) else look s.1 s.2 w:=by
 obtain ⟨h1,h2,h3⟩:=upd h v
 have h4:=h3 (f (lget (history_bunches_1 v s.1 s.2).2.2 ((history_bunches_1 v s.1 s.2).1:Int))) (by rw [hf,h2,getB_value h])
 refine ⟨h4.1,fun w=>?_⟩
 have:=h4.2 w
 rw [← h2]; exact this
theorem sR_inv (l:List Span):∀ n,Inv (sR l n).1 (sR l n).2
 | 0=>Inv.nil
 | n+1=>by
  rw [sR]
  split
  ·exact (put1_inv (f:=fR l n) (sR_inv l n) _ fun b=>rfl).1
  ·exact sR_inv l n
theorem sW_inv (l:List Span):∀ n,Inv (sW l n).1 (sW l n).2
 | 0=>sR_inv l _
 | n+1=>by
  rw [sW]
  split
  ·exact (put1_inv (f:=fW l n) (sW_inv l n) _ fun b=>rfl).1
  ·exact sW_inv l n
namespace So
def fr (bx:List Span) (a:Int):Int:=(lget bx a).From
def ah (bx:List Span) (a b:Int):Prop:=fr bx a<fr bx b
def ra (bx:List Span) (a b:Int):Bool:=decide (fr bx a<fr bx b)
def key (bx:List Span) (a b:Int):Prop:=fr bx a=fr bx b
def le (bx:List Span) (a b:Int):Prop:=¬ ah bx b a
def Srt (bx:List Span) (l:List Int):Prop:=l.Pairwise (le bx)
instance (bx:List Span) (a b:Int):Decidable (key bx a b):=inferInstanceAs (Decidable (_=_))
def fk (bx:List Span) (k:Int) (l:List Int):List Int:=l.filter fun x=>decide (key bx k x)
def Stab (bx:List Span) (l x:List Int):Prop:=∀ k,fk bx k x=fk bx k l
def ord (bx:List Span) (a b:Int):Int:=if ra bx a b=true then -1 else if ra bx b a=true then 1 else 0
def okI (bx:List Span) (z:Int):Prop:=0≤z∧z<(bx.length:Int)
def Ok (bx:List Span) (l:List Int):Prop:=∀ z∈l,okI bx z
variable {bx:List Span}
theorem ahead_iff (a b:Int):ra bx a b=true↔ah bx a b:=by unfold ra ah; exact decide_eq_true_iff
theorem ord_neg (a b:Int):ord bx a b<0↔ra bx a b=true:=by
 unfold ord
 by_cases h:ra bx a b=true
 ·rw [if_pos h]; exact ⟨fun _=>h,fun _=>by omega⟩
 ·rw [if_neg h]
  refine ⟨fun q=>?_,fun q=>absurd q h⟩
  split at q <;> omega
theorem order_eq {a b:Int} (ha:okI bx a) (hb:okI bx b):history_Order_2 a b bx=some (ord bx a b):=by
 have ha':0≤a∧a<(bx.length:Int):=ha
 have hb':0≤b∧b<(bx.length:Int):=hb
 unfold history_Order_2
 rw [asrt_pos ha',asrt_pos hb']
 unfold cmp_Compare_int cmp_isNaN_int ord ra fr
 simp [lt]
theorem Ok.get {l:List Int} (h:Ok bx l) {i:Nat} (hi:i<l.length):okI bx (lget l (i:Int)):=h _ (lget_mem l (i:Int) (by omega))
theorem ok_app {a b:List Int}:Ok bx (a++b)↔Ok bx a∧Ok bx b:=by
 unfold Ok
 exact ⟨fun h=>⟨fun z hz=>h z (List.mem_append.2 (.inl hz)),fun z hz=>h z (List.mem_append.2 (.inr hz))⟩,fun h z hz=>(List.mem_append.1 hz).elim (h.1 z) (h.2 z)⟩
theorem ok_cons {x:Int} {l:List Int}:Ok bx (x::l)↔okI bx x∧Ok bx l:=by
 unfold Ok
 exact ⟨fun h=>⟨h x (List.mem_cons_self ..),fun z hz=>h z (List.mem_cons_of_mem _ hz)⟩,fun h z hz=>by
  rcases List.mem_cons.1 hz with e | e
  ·rw [e]; exact h.1
  ·exact h.2 z e⟩
theorem ok_nil:Ok bx []↔True:=⟨fun _=>trivial,fun _ z hz=>by cases hz⟩
theorem key_refl (a:Int):key bx a a:=rfl
theorem key_symm {a b:Int} (h:key bx a b):key bx b a:=Eq.symm h
theorem key_trans {a b c:Int} (h:key bx a b) (g:key bx b c):key bx a c:=Eq.trans h g
theorem ah_key {a b:Int} (h:ah bx a b):¬ key bx a b:=by unfold ah key at *; omega
theorem ah_irr (a:Int):¬ ah bx a a:=by unfold ah; omega
theorem le_refl (a:Int):le bx a a:=ah_irr a
theorem le_of_ah {a b:Int} (h:ah bx a b):le bx a b:=by unfold le ah at *; omega
theorem le_or {a b:Int} (h:le bx a b):ah bx a b∨key bx a b:=by unfold le ah key at *; omega
theorem ah_of {a b c:Int} (h:ah bx a b) (g:le bx b c):ah bx a c:=by unfold le ah at *; omega
theorem ah_of' {a b c:Int} (h:le bx a b) (g:ah bx b c):ah bx a c:=by unfold le ah at *; omega
theorem le_trans {a b c:Int} (h:le bx a b) (g:le bx b c):le bx a c:=by unfold le ah at *; omega
theorem fk_app (k:Int) (a b:List Int):fk bx k (a++b)=fk bx k a++fk bx k b:=by unfold fk; rw [List.filter_append]
theorem fk_cons (k x:Int) (l:List Int):fk bx k (x::l)=if key bx k x then x::fk bx k l else fk bx k l:=by
 unfold fk; rw [List.filter_cons]; by_cases c:key bx k x <;> simp [c]
theorem Stab.refl (l:List Int):Stab bx l l:=fun _=>rfl
theorem Stab.trans {a b c:List Int} (h:Stab bx a b) (g:Stab bx b c):Stab bx a c:=fun k=>(g k).trans (h k)
theorem Stab.app {a a' b b':List Int} (h:Stab bx a a') (g:Stab bx b b'):Stab bx (a++b) (a'++b'):=fun k=>by rw [fk_app,fk_app,h k,g k]
theorem fk_none {k:Int} {l:List Int} (h:∀ x∈l,¬ key bx k x):fk bx k l=[]:=by
 unfold fk
 rw [List.filter_eq_nil_iff]
 intro x hx q
 exact h x hx (of_decide_eq_true q)
theorem Stab.swap {u v:List Int} (h:∀ x∈u,∀ y∈v,¬ key bx x y):Stab bx (u++v) (v++u):=fun k=>by
 rw [fk_app,fk_app]
 by_cases c:∃ x∈u,key bx k x
 ·obtain ⟨x,hx,hk⟩:=c
  rw [fk_none (l:=v) (fun y hy q=>h x hx y hy (key_trans (key_symm hk) q))]; simp
 ·rw [fk_none (l:=u) (fun y hy q=>c ⟨y,hy,q⟩)]; simp
theorem Stab.mem {l x:List Int} (h:Stab bx l x) {c:Int} (hc:c∈x):c∈l:=by
 have:c∈fk bx c x:=by unfold fk; rw [List.mem_filter]; exact ⟨hc,decide_eq_true (key_refl c)⟩
 rw [h c] at this
 unfold fk at this
 exact (List.mem_filter.1 this).1
theorem Stab.symm {l x:List Int} (h:Stab bx l x):Stab bx x l:=fun k=>(h k).symm
theorem srt_app {a b:List Int} (ha:Srt bx a) (hb:Srt bx b) (h:∀ x∈a,∀ y∈b,le bx x y):Srt bx (a++b):=List.pairwise_append.2 ⟨ha,hb,h⟩
theorem key_of_le {a b:Int} (h:le bx a b) (g:le bx b a):key bx a b:=by
 rcases le_or h with q | q
 ·exact absurd q g
 ·exact q
theorem srt_uniq:∀ {x y:List Int},Srt bx x→Srt bx y→Stab bx x y→x=y
 | [],[],_,_,_=>rfl
 | [],b::y,_,_,h=>by have:=h.mem (List.mem_cons_self (a:=b) (l:=y)); cases this
 | a::x,[],_,_,h=>by have:=h.symm.mem (List.mem_cons_self (a:=a) (l:=x)); cases this
 | a::x,b::y,hx,hy,h=>by
  obtain ⟨p1,p2⟩:=List.pairwise_cons.1 hx
  obtain ⟨q1,q2⟩:=List.pairwise_cons.1 hy
  have h1:le bx a b:=by
   rcases List.mem_cons.1 (h.mem (List.mem_cons_self (a:=b) (l:=y))) with e | e
   ·rw [e]; exact le_refl _
   ·exact p1 b e
  have h2:le bx b a:=by
   rcases List.mem_cons.1 (h.symm.mem (List.mem_cons_self (a:=a) (l:=x))) with e | e
   ·rw [e]; exact le_refl _
   ·exact q1 a e
  have hk:=key_of_le h1 h2
  have ha:=h a
  rw [fk_cons,fk_cons,if_pos hk,if_pos (key_refl a)] at ha
  have hab:b=a:=(List.cons.inj ha).1
  subst hab
  rw [srt_uniq p2 q2 fun k=>?_]
  have:=h k
  rw [fk_cons,fk_cons] at this
  by_cases c:key bx k b
  ·rw [if_pos c,if_pos c] at this; exact (List.cons.inj this).2
  ·rw [if_neg c,if_neg c] at this; exact this
theorem put_left (x:Int) {t:List Int} (ht:Srt bx t):∃ u v,t=u++v∧(∀ y∈u,ah bx y x)∧(∀ y∈v,le bx x y):=by
 induction t with
 | nil=>exact ⟨[],[],rfl,by simp,by simp⟩
 | cons a t ih=>
  obtain ⟨p1,p2⟩:=List.pairwise_cons.1 ht
  by_cases c:ra bx a x=true
  ·obtain ⟨u,v,rfl,h1,h2⟩:=ih p2
   exact ⟨a::u,v,rfl,fun y hy=>by
    rcases List.mem_cons.1 hy with e | e
    ·rw [e]; exact (ahead_iff _ _).1 c
    ·exact h1 y e,h2⟩
  ·have c':le bx x a:=fun q=>c ((ahead_iff _ _).2 q)
   exact ⟨[],a::t,rfl,by simp,fun y hy=>by
    rcases List.mem_cons.1 hy with e | e
    ·rw [e]; exact c'
    ·exact le_trans c' (p1 y e)⟩
theorem put_srt {u v:List Int} {x:Int} (h:Srt bx (u++v)) (h1:∀ y∈u,le bx y x) (h2:∀ y∈v,le bx x y):Srt bx (u++x::v):=by
 obtain ⟨p1,p2,p3⟩:=List.pairwise_append.1 h
 refine List.pairwise_append.2 ⟨p1,List.pairwise_cons.2 ⟨h2,p2⟩,fun y hy z hz=>?_⟩
 rcases List.mem_cons.1 hz with e | e
 ·rw [e]; exact h1 y hy
 ·exact p3 y hy z e
theorem srt_ex:∀ l:List Int,∃ x,Srt bx x∧Stab bx l x
 | []=>⟨[],.nil,Stab.refl _⟩
 | a::l=>by
  obtain ⟨t,h1,h2⟩:=srt_ex l
  obtain ⟨u,v,rfl,h3,h4⟩:=put_left a h1
  refine ⟨u++a::v,put_srt h1 (fun y hy=>le_of_ah (h3 y hy)) h4,?_⟩
  have e1:Stab bx (a::l) (a::(u++v)):=Stab.app (Stab.refl [a]) h2
  have e2:Stab bx ([a]++u) (u++[a]):=Stab.swap fun x hx y hy q=>by
   rw [List.mem_singleton.1 hx] at q
   exact ah_key (h3 y hy) (key_symm q)
  have e3:Stab bx (([a]++u)++v) ((u++[a])++v):=Stab.app e2 (Stab.refl v)
  rw [List.append_assoc,List.append_assoc] at e3
  exact e1.trans e3
noncomputable def srtd (bx:List Span) (l:List Int):List Int:=Classical.choose (srt_ex (bx:=bx) l)
theorem srtd_srt (l:List Int):Srt bx (srtd bx l):=(Classical.choose_spec (srt_ex (bx:=bx) l)).1
theorem srtd_stab (l:List Int):Stab bx l (srtd bx l):=(Classical.choose_spec (srt_ex (bx:=bx) l)).2
theorem srtd_is {l x:List Int} (h:Srt bx x) (g:Stab bx l x):x=srtd bx l:=srt_uniq h (srtd_srt l) (g.symm.trans (srtd_stab l))
theorem srtd_self {l:List Int} (h:Srt bx l):srtd bx l=l:=(srtd_is h (Stab.refl l)).symm
theorem srtd_congr {l m:List Int} (h:Stab bx l m):srtd bx m=srtd bx l:=srtd_is (srtd_srt m) (h.trans (srtd_stab m))
theorem stab_len:∀ {l x:List Int},Stab bx l x→x.length=l.length:=by
 have hkey:∀ (n:Nat) (l x:List Int),l.length=n→Stab bx l x→x.length=l.length:=by
  intro n
  induction n with
  | zero=>
   intro l x e h
   cases x with
   | nil=>rw [e]; rfl
   | cons a x=>have:=h.mem (List.mem_cons_self (a:=a) (l:=x)); rw [List.eq_nil_of_length_eq_zero e] at this; cases this
  | succ n ih=>
   intro l x e h
   cases l with
   | nil=>cases e
   | cons a l=>
    have ha:a∈x:=h.symm.mem (List.mem_cons_self ..)
    have hf:=h a
    rw [fk_cons,if_pos (key_refl a)] at hf
    obtain ⟨u,v,rfl⟩:=List.append_of_mem (show a∈x from ha)
    obtain ⟨u,b,v,e2,hk,hu⟩:∃ u' b v',u++a::v=u'++b::v'∧key bx a b∧∀ y∈u',¬ key bx a y:=by
     clear h hf ha
     generalize hw:u++a::v=w
     have hm:a∈w:=by rw [← hw]; simp
     clear hw u v
     induction w with
     | nil=>cases hm
     | cons c w ih2=>
      by_cases hc:key bx a c
      ·exact ⟨[],c,w,rfl,hc,by simp⟩
      ·rcases List.mem_cons.1 hm with e | e
       ·rw [e] at hc; exact absurd (key_refl c) hc
       ·obtain ⟨u',b,v',h1,h2,h3⟩:=ih2 e
        exact ⟨c::u',b,v',by rw [h1]; rfl,h2,fun y hy=>by
         rcases List.mem_cons.1 hy with q | q
         ·rw [q]; exact hc
         ·exact h3 y q⟩
    rw [e2] at h hf ⊢
    rw [fk_app,fk_none hu,fk_cons,if_pos hk,List.nil_append] at hf
    have hb:b=a:=(List.cons.inj hf).1
    subst hb
    have hs:Stab bx l (u++v):=fun k=>by
     have:=h k
     rw [fk_app,fk_cons,fk_cons] at this
     rw [fk_app]
     by_cases c:key bx k b
     ·rw [if_pos c,if_pos c] at this
      rw [fk_none (fun y hy q=>hu y hy (key_trans (key_symm c) q))] at this ⊢
      exact (List.cons.inj this).2
     ·rw [if_neg c,if_neg c] at this; exact this
    have:=ih l (u++v) (by simpa using e) hs
    simp only [List.length_append,List.length_cons] at this ⊢
    omega
 intro l x h
 exact hkey _ l x rfl h
theorem ok_srtd {l:List Int}:Ok bx (srtd bx l)↔Ok bx l:=⟨fun h z hz=>h z ((srtd_stab l).symm.mem hz),fun h z hz=>h z ((srtd_stab l).mem hz)⟩
theorem srtd_len (l:List Int):(srtd bx l).length=l.length:=stab_len (srtd_stab l)
theorem lget_mid (a:List Int) (x:Int) (b:List Int):lget (a++x::b) (a.length:Int)=x:=by simp [lget]
theorem lset_mid (a:List Int) (x y:Int) (b:List Int):lset (a++x::b) (a.length:Int) y=a++y::b:=by simp [lset]
section
variable (A B C:List Int) (x y:Int)
theorem sw_i:lget (A++x::(B++y::C)) (A.length:Int)=x:=lget_mid _ _ _
theorem sw_j {j:Int} (h:j=((A.length+1+B.length:Nat):Int)):lget (A++x::(B++y::C)) j=y:=by
 have e:A++x::(B++y::C)=(A++x::B)++y::C:=by simp
 have e2:j=((A++x::B).length:Int):=by rw [h,List.length_append,List.length_cons]; omega
 rw [e,e2,lget_mid]
theorem sw_ij {j:Int} (h:j=((A.length+1+B.length:Nat):Int)):lset (lset (A++x::(B++y::C)) (A.length:Int) y) j x=A++y::(B++x::C):=by
 rw [lset_mid]
 have e:A++y::(B++y::C)=(A++y::B)++y::C:=by simp
 have e2:j=((A++y::B).length:Int):=by rw [h,List.length_append,List.length_cons]; omega
 rw [e,e2,lset_mid]; simp
theorem sw_ji {j:Int} (h:j=((A.length+1+B.length:Nat):Int)):lset (lset (A++x::(B++y::C)) j x) (A.length:Int) y=A++y::(B++x::C):=by
 have e:A++x::(B++y::C)=(A++x::B)++y::C:=by simp
 have e2:j=((A++x::B).length:Int):=by rw [h,List.length_append,List.length_cons]; omega
 rw [e,e2,lset_mid]
 have e3:A++x::B++x::C=A++x::(B++x::C):=by simp
 rw [e3,lset_mid]
end
theorem bs_any {ρ:Type} (step:Int×Int→Option ((Int×Int)⊕ρ)) (k:Int→Option ρ) (p:Nat→Prop) [DecidablePred p] (lo hi:Nat)
  (hp:∀ s t:Nat,lo≤s→s<t→t<hi→p t→p s)
  (hs:∀ i j:Nat,lo≤i→i<j→j≤hi→step ((i:Int),(j:Int))=some (.inl (if p ((i+j) / 2) then ((((i+j) / 2+1:Nat):Int),(j:Int)) else ((i:Int),(((i+j) / 2:Nat):Int)))))
  (he:∀ i:Nat,lo≤i→i≤hi→step ((i:Int),(i:Int))=inrO (k (i:Int))) :
  ∀ (d i j:Nat),j - i=d→lo≤i→i≤j→j≤hi→(∀ t,lo≤t→t<i→p t)→(∀ t,j≤t→t<hi→¬ p t)→
   ∃ n,lo≤n∧n≤hi∧(∀ t,lo≤t→t<n→p t)∧(∀ t,n≤t→t<hi→¬ p t)∧loopO step ((i:Int),(j:Int))=k (n:Int):=by
 intro d
 induction d using Nat.strongRecOn with
 | _ d ih=>
  intro i j e h1 h2 h3 h4 h5
  by_cases c:i<j
  ·have hst:=hs i j h1 c h3
   generalize hh:(i+j) / 2=h at hst
   by_cases cp:p h
   ·rw [if_pos cp] at hst
    obtain ⟨n,r⟩:=ih (j - (h+1)) (by omega) (h+1) j rfl (by omega) (by omega) h3 (fun t g1 g2=>by
     by_cases q:t=h
     ·rw [q]; exact cp
     ·exact hp t h g1 (by omega) (by omega) cp) h5
    exact ⟨n,r.1,r.2.1,r.2.2.1,r.2.2.2.1,(loopO_inl hst).trans r.2.2.2.2⟩
   ·rw [if_neg cp] at hst
    obtain ⟨n,r⟩:=ih (h - i) (by omega) i h rfl h1 (by omega) (by omega) h4 (fun t g1 g2 q=>by
     by_cases q2:t=h
     ·rw [q2] at q; exact cp q
     ·exact cp (hp h t (by omega) (by omega) g2 q))
    exact ⟨n,r.1,r.2.1,r.2.2.1,r.2.2.2.1,(loopO_inl hst).trans r.2.2.2.2⟩
  ·have:i=j:=by omega
   subst this
   refine ⟨i,h1,h3,h4,h5,?_⟩
   rw [loopO_eq,he i h1 h3]
   cases k (i:Int) <;> rfl
theorem mid_w (i j:Nat) (h:i+j≤9000000000000000000):w64 (Int.fdiv (IntKind.u64.wrap (w64 ((i:Int)+(j:Int)))) (2 ^ (min (1:Int).toNat 64)))=(((i+j) / 2:Nat):Int):=by
 have e2:(2:Int) ^ (min (1:Int).toNat 64)=((2:Nat):Int):=by decide
 have e1:IntKind.u64.wrap (w64 ((i:Int)+(j:Int)))=((i+j:Nat):Int):=by
  rw [w64_id (by omega) (by omega)]
  unfold IntKind.wrap
  simp only [IntKind.signed,IntKind.bits]
  simp
  omega
 rw [e1,e2,fdiv_nat',w64_id (by omega) (by omega)]
end So
namespace So
variable {bx:List Span}
theorem ins_in (P:List Int) (v1:List Int×Int):∀ (n:Nat) (U W:List Int) (x:Int),U.length=n→Srt bx U→(P++(U++x::W)).length≤1000000000000→Ok bx (P++(U++x::W))→
  ∃ U1 U2,U=U1++U2∧(∀ y∈U1,le bx y x)∧(∀ y∈U2,ah bx x y)∧
   slices_insertionSortCmpFunc_int_v1_L2 (P.length:Int) bx v1 (P++(U++x::W),((P.length+U.length:Nat):Int))=some (.inl (P++(U1++x::(U2++W)),w64 (v1.2+1))):=by
 intro n
 induction n with
 | zero=>
  intro U W x e hs hl ho
  have:U=[]:=List.eq_nil_of_length_eq_zero e
  subst this
  refine ⟨[],[],rfl,by simp,by simp,loopO_inr ?_⟩
  have hc:decide ((P.length:Int)<((P.length+([]:List Int).length:Nat):Int))=false:=decide_eq_false (by simp)
  unfold slices_insertionSortCmpFunc_int_v1_B2
  dsimp only
  rw [hc,asrt_pos (fun q=>by cases q),asrt_pos (fun q=>by cases q),asrt_pos (fun q=>by cases q),asrt_pos (fun q=>by cases q),if_neg (by decide),ob_some,if_neg (by simp)]
  rfl
 | succ n ih=>
  intro U W x e hs hl ho
  rcases List.eq_nil_or_concat U with h0 | ⟨U',y,rfl⟩
  ·subst h0; cases e
  ·rw [List.concat_eq_append] at *
   have hU':U'.length=n:=by simpa using e
   have hox:okI bx x:=ho x (by simp)
   have hoy:okI bx y:=ho y (by simp)
   have hd:P++((U'++[y])++x::W)=(P++U')++y::([]++x::W):=by simp
   have hj:((P.length+(U'++[y]).length:Nat):Int)=(((P++U').length+1+([]:List Int).length:Nat):Int):=by simp; omega
   have hi:w64 ((((P++U').length+1+([]:List Int).length:Nat):Int) - 1)=((P++U').length:Int):=by
    simp only [List.length_append,List.length_cons,List.length_nil] at hl ⊢
    rw [w64_id (by omega) (by omega)]; omega
   have hlen:((P++U')++y::([]++x::W)).length=(P++U').length+2+W.length:=by simp; omega
   rw [hd,hj]
   have hB:slices_insertionSortCmpFunc_int_v1_B2 (P.length:Int) bx v1 ((P++U')++y::([]++x::W),(((P++U').length+1+([]:List Int).length:Nat):Int)) =
     if ra bx x y=true then some (.inl ((P++U')++x::([]++y::W),((P++U').length:Int))) else some (.inr (.inl ((P++U')++y::([]++x::W),w64 (v1.2+1)))):=by
    have hc:decide ((P.length:Int)<(((P++U').length+1+([]:List Int).length:Nat):Int))=true:=decide_eq_true (by simp only [List.length_append,List.length_nil]; omega)
    have hr1:0≤(((P++U').length+1+([]:List Int).length:Nat):Int)∧(((P++U').length+1+([]:List Int).length:Nat):Int)<(((P++U')++y::([]++x::W)).length:Int):=by rw [hlen]; simp only [List.length_nil]; omega
    have hr2:0≤((P++U').length:Int)∧((P++U').length:Int)<(((P++U')++y::([]++x::W)).length:Int):=by rw [hlen]; omega
    unfold slices_insertionSortCmpFunc_int_v1_B2
    dsimp only
    rw [hc,hi,asrt_pos (fun _=>hr1),asrt_pos (fun _=>hr1),asrt_pos (fun _=>hr2),asrt_pos (fun _=>hr2),if_pos rfl,sw_i,sw_j _ _ _ _ _ rfl]
    rw [order_eq hox hoy,ob_some]
    by_cases c:ra bx x y=true
    ·rw [if_pos c,if_pos (by simp [(ord_neg x y).2 c]),asrt_pos hr2,asrt_pos hr2,asrt_pos hr1,asrt_pos hr1,asrt_pos hr1,asrt_pos hr1,asrt_pos (by rw [lset_len]; exact hr2),asrt_pos (by rw [lset_len]; exact hr2),sw_ji _ _ _ _ _ rfl]
     rfl
    ·have:decide (ord bx x y<0)=false:=decide_eq_false fun q=>c ((ord_neg x y).1 q)
     rw [if_neg c,this,if_neg (by decide)]; rfl
   by_cases c:ra bx x y=true
   ·rw [if_pos c] at hB
    have hs':Srt bx U':=(List.pairwise_append.1 hs).1
    obtain ⟨U1,U2,e1,h1,h2,h3⟩:=ih U' (y::W) x hU' hs' (by simpa using hl) (by have hq:=ho; simp only [ok_app,ok_cons,ok_nil,ok_srtd,and_true,true_and] at hq ⊢; simp [hq])
    refine ⟨U1,U2++[y],by rw [e1]; simp,h1,fun z hz=>?_,(loopO_inl hB).trans ?_⟩
    ·rcases List.mem_append.1 hz with q | q
     ·exact h2 z q
     ·rw [List.mem_singleton.1 q]; exact (ahead_iff _ _).1 c
    ·have e2:P++U'++x::([]++y::W)=P++(U'++x::(y::W)):=by simp
     have e3:P++(U1++x::(U2++[y]++W))=P++(U1++x::(U2++y::W)):=by simp
     rw [e2,e3,List.length_append]; exact h3
   ·rw [if_neg c] at hB
    have c':le bx y x:=fun q=>c ((ahead_iff _ _).2 q)
    refine ⟨U'++[y],[],by simp,fun z hz=>?_,by simp,?_⟩
    ·rcases List.mem_append.1 hz with q | q
     ·exact le_trans ((List.pairwise_append.1 hs).2.2 z q y (List.mem_singleton.2 rfl)) c'
     ·rw [List.mem_singleton.1 q]; exact c'
    ·have e3:P++(U'++[y]++x::([]++W))=P++U'++y::([]++x::W):=by simp
     rw [e3]; exact loopO_inr hB
theorem ins_out (P S:List Int):∀ (M2 M1:List Int),(P++(M1++(M2++S))).length≤1000000000000→Ok bx (P++(M1++(M2++S)))→
  slices_insertionSortCmpFunc_int_v1_L1 (P.length:Int) ((P.length+(M1.length+M2.length):Nat):Int) bx (P++(srtd bx M1++(M2++S)),((P.length+M1.length:Nat):Int))=some (P++(srtd bx (M1++M2)++S))
 | [],M1,hl,ho=>by
  refine loopO_inr ?_
  unfold slices_insertionSortCmpFunc_int_v1_B1
  dsimp only
  rw [if_neg (d_f (by simp)),List.append_nil]; rfl
 | x::M2,M1,hl,ho=>by
  have hsl:=srtd_len (bx:=bx) M1
  obtain ⟨U1,U2,e1,h1,h2,h3⟩:=ins_in P (P++(srtd bx M1++(x::M2++S)),((P.length+M1.length:Nat):Int)) _ (srtd bx M1) (M2++S) x rfl (srtd_srt M1) (by simp only [List.length_append,List.length_cons] at hl ⊢; omega) (by have hq:=ho; simp only [ok_app,ok_cons,ok_nil,ok_srtd,and_true,true_and] at hq ⊢; simp [hq])
  have hw:w64 (((P.length+M1.length:Nat):Int)+1)=((P.length+(M1++[x]).length:Nat):Int):=by
   simp only [List.length_append,List.length_cons,List.length_nil] at hl ⊢
   rw [w64_id (by omega) (by omega)]; omega
  have hsx:U1++x::U2=srtd bx (M1++[x]):=by
   refine srtd_is (put_srt (e1▸srtd_srt M1) h1 fun y hy=>le_of_ah (h2 y hy)) ?_
   have a1:Stab bx (M1++[x]) (srtd bx M1++[x]):=Stab.app (srtd_stab M1) (Stab.refl _)
   have a2:Stab bx (U2++[x]) ([x]++U2):=Stab.swap fun y hy z hz q=>by
    rw [List.mem_singleton.1 hz] at q
    exact ah_key (h2 y hy) (key_symm q)
   have a3:Stab bx (U1++(U2++[x])) (U1++([x]++U2)):=Stab.app (Stab.refl U1) a2
   rw [e1,List.append_assoc] at a1
   exact a1.trans a3
  have ih:=ins_out P S M2 (M1++[x]) (by simpa using hl) (by have hq:=ho; simp only [ok_app,ok_cons,ok_nil,ok_srtd,and_true,true_and] at hq ⊢; simp [hq])
  refine (loopO_inl ?_).trans ((congrArg (fun z=>slices_insertionSortCmpFunc_int_v1_L1 (P.length:Int) z bx (P++(srtd bx (M1++[x])++(M2++S)),((P.length+(M1++[x]).length:Nat):Int))) (show ((P.length+(M1.length+(x::M2).length):Nat):Int)=((P.length+((M1++[x]).length+M2.length):Nat):Int) by simp only [List.length_append,List.length_cons,List.length_nil]; omega)).trans (ih.trans ?_))
  ·unfold slices_insertionSortCmpFunc_int_v1_B1
   dsimp only
   rw [if_pos (d_t (by simp only [List.length_cons]; omega))]
   rw [hsl] at h3
   refine h3.trans ?_
   rw [hw,← hsx]; simp
  ·rw [List.append_assoc]; rfl
theorem insertion_eq (P M S:List Int) (hl:(P++(M++S)).length≤1000000000000) (ho:Ok bx (P++(M++S))):slices_insertionSortCmpFunc_int_v1 (P.length:Int) ((P.length+M.length:Nat):Int) bx (P++(M++S))=some (P++(srtd bx M++S)):=by
 have hw:w64 ((P.length:Int)+1)=((P.length+1:Nat):Int):=by simp only [List.length_append] at hl; rw [w64_id (by omega) (by omega)]; omega
 unfold slices_insertionSortCmpFunc_int_v1
 rw [hw]
 cases M with
 | nil=>
  have e:srtd bx []=[]:=srtd_self .nil
  rw [e]
  refine loopO_inr ?_
  unfold slices_insertionSortCmpFunc_int_v1_B1
  dsimp only
  rw [if_neg (d_f (by simp; omega))]; rfl
 | cons x M=>
  have e:srtd bx [x]=[x]:=srtd_self (List.pairwise_singleton _ _)
  have:=ins_out (bx:=bx) P S M [x] (by simpa using hl) (by have hq:=ho; simp only [ok_app,ok_cons,ok_nil,ok_srtd,and_true,true_and] at hq ⊢; simp [hq])
  rw [e] at this
  have e2:((P.length+(x::M).length:Nat):Int)=((P.length+([x].length+M.length):Nat):Int):=by simp only [List.length_cons,List.length_nil]; omega
  rw [e2]; exact this
theorem swr_loop (P Q S:List Int) (a b num:Int):∀ (Xr Yr Xd Yd:List Int) (t:Nat),Xr.length=Yr.length→Xd.length=t→Yd.length=t→num=((t+Xr.length:Nat):Int)→a=(P.length:Int)→b=((P.length+(t+Xr.length)+Q.length:Nat):Int)→
  (P++(Yd++(Xr++(Q++(Xd++(Yr++S)))))).length≤1000000000000→
  slices_swapRangeCmpFunc_int_v1_L1 a b num (P++(Yd++(Xr++(Q++(Xd++(Yr++S))))),(t:Int))=some (P++((Yd++Yr)++(Q++((Xd++Xr)++S))))
 | [],[],Xd,Yd,t,e1,e2,e3,e4,e5,e6,hl=>by
  refine loopO_inr ?_
  unfold slices_swapRangeCmpFunc_int_v1_B1
  dsimp only
  rw [if_neg (d_f (by rw [e4]; simp))]
  simp only [List.append_nil,List.nil_append]; rfl
 | x::Xr,y::Yr,Xd,Yd,t,e1,e2,e3,e4,e5,e6,hl=>by
  have ih:=swr_loop P Q S a b num Xr Yr (Xd++[x]) (Yd++[y]) (t+1) (by simpa using e1) (by simp [e2]) (by simp [e3]) (by rw [e4]; simp only [List.length_cons]; omega) e5 (by rw [e6]; simp only [List.length_cons]; omega) (by simp only [List.length_append,List.length_cons,List.length_nil] at hl ⊢; omega)
  have hd:P++(Yd++(x::Xr++(Q++(Xd++(y::Yr++S)))))=(P++Yd)++x::((Xr++(Q++Xd))++y::(Yr++S)):=by simp
  have hd2:P++((Yd++[y])++(Xr++(Q++((Xd++[x])++(Yr++S)))))=(P++Yd)++y::((Xr++(Q++Xd))++x::(Yr++S)):=by simp
  have hlen:((P++Yd)++x::((Xr++(Q++Xd))++y::(Yr++S))).length=(P++Yd).length+1+(Xr++(Q++Xd)).length+1+(Yr++S).length:=by simp; omega
  rw [hd] at hl ⊢
  rw [hd2] at ih
  rw [hlen] at hl
  have hA:w64 (a+(t:Int))=((P++Yd).length:Int):=by
   simp only [List.length_append,List.length_cons] at hl ⊢
   rw [e5,w64_id (by omega) (by omega)]; omega
  have hJ:w64 (b+(t:Int))=(((P++Yd).length+1+(Xr++(Q++Xd)).length:Nat):Int):=by
   simp only [List.length_append,List.length_cons] at hl e6 ⊢
   rw [e6,w64_id (by omega) (by omega)]; omega
  have hr1:0≤(((P++Yd).length+1+(Xr++(Q++Xd)).length:Nat):Int)∧(((P++Yd).length+1+(Xr++(Q++Xd)).length:Nat):Int)<(((P++Yd)++x::((Xr++(Q++Xd))++y::(Yr++S))).length:Int):=by rw [hlen]; omega
  have hr2:0≤((P++Yd).length:Int)∧((P++Yd).length:Int)<(((P++Yd)++x::((Xr++(Q++Xd))++y::(Yr++S))).length:Int):=by rw [hlen]; omega
  refine (loopO_inl ?_).trans (ih.trans ?_)
  ·unfold slices_swapRangeCmpFunc_int_v1_B1
   dsimp only
   rw [if_pos (d_t (by rw [e4]; simp only [List.length_cons]; omega)),hA,hJ,asrt_pos hr1,asrt_pos hr1,asrt_pos hr2,asrt_pos hr2,asrt_pos hr2,asrt_pos hr2,asrt_pos (by rw [lset_len]; exact hr1),asrt_pos (by rw [lset_len]; exact hr1),sw_i,sw_j _ _ _ _ _ rfl]
   simp only [lt]
   rw [sw_ij _ _ _ _ _ rfl,w64_id (by simp only [List.length_append] at hl; omega) (by simp only [List.length_append] at hl; omega)]
   rfl
  ·simp
theorem swapRange_eq (P X Q Y S:List Int) (h:X.length=Y.length) (hl:(P++(X++(Q++(Y++S)))).length≤1000000000000) {a b num:Int} (ha:a=(P.length:Int)) (hb:b=((P.length+X.length+Q.length:Nat):Int)) (hn:num=(X.length:Int)) :
  slices_swapRangeCmpFunc_int_v1 a b num bx (P++(X++(Q++(Y++S))))=some (P++(Y++(Q++(X++S)))):=by
 unfold slices_swapRangeCmpFunc_int_v1
 have:=swr_loop P Q S a b num X Y [] [] 0 h rfl rfl (by rw [hn]; simp) ha (by rw [hb]; simp) (by simpa using hl)
 simpa using this
theorem rot_loop (m:Int):∀ (n:Nat) (P U V S:List Int),U.length+V.length=n→U≠[]→V≠[]→m=((P.length+U.length:Nat):Int)→(P++(U++(V++S))).length≤1000000000000→
  slices_rotateCmpFunc_int_v1_L1 m bx (P++(U++(V++S)),(U.length:Int),(V.length:Int))=some (P++(V++(U++S))):=by
 intro n
 induction n using Nat.strongRecOn with
 | _ n ih=>
  intro P U V S e hU hV hm hl
  have hu:=List.length_pos_iff.2 hU
  have hv:=List.length_pos_iff.2 hV
  have hl':=hl
  simp only [List.length_append] at hl'
  have hmi:w64 (m - (U.length:Int))=(P.length:Int):=by rw [hm,w64_id (by omega) (by omega)]; omega
  by_cases c:U.length=V.length
  ·refine loopO_inr ?_
   unfold slices_rotateCmpFunc_int_v1_B1
   dsimp only
   rw [if_neg (n_f (by omega))]
   unfold slices_rotateCmpFunc_int_v1_J1
   dsimp only
   have:=swapRange_eq (bx:=bx) P U [] V S c (by simpa using hl) (a:=(P.length:Int)) (b:=m) (num:=(U.length:Int)) rfl (by rw [hm]; simp) rfl
   simp only [List.nil_append] at this
   rw [hmi,this]; rfl
  ·by_cases c2:V.length<U.length
   ·have hsp:U=U.take V.length++U.drop V.length:=(List.take_append_drop ..).symm
    have h1:(U.take V.length).length=V.length:=by rw [List.length_take]; omega
    have h2:(U.drop V.length).length=U.length - V.length:=by rw [List.length_drop]
    generalize U.take V.length=U1 at *
    generalize U.drop V.length=U2 at *
    subst hsp
    have ih':=ih (U2.length+U1.length) (by simp only [List.length_append] at e; omega) (P++V) U2 U1 S rfl (List.length_pos_iff.1 (by omega)) (List.length_pos_iff.1 (by omega)) (by rw [hm]; simp only [List.length_append]; omega) (by simp only [List.length_append] at hl ⊢; omega)
    have hd:P++(U1++U2++(V++S))=P++(U1++(U2++(V++S))):=by simp
    have hw:w64 (((U1++U2).length:Int) - (V.length:Int))=(U2.length:Int):=by simp only [List.length_append] at hl' ⊢; rw [w64_id (by omega) (by omega)]; omega
    have hsw:=swapRange_eq (bx:=bx) P U1 U2 V S h1 (by rw [← hd]; exact hl) (a:=(P.length:Int)) (b:=m) (num:=(V.length:Int)) rfl (by rw [hm]; simp only [List.length_append]; omega) (by omega)
    refine (loopO_inl ?_).trans (ih'.trans (by simp))
    unfold slices_rotateCmpFunc_int_v1_B1
    dsimp only
    rw [if_pos (n_t (by omega)),if_pos (d_t (by omega)),hmi,hd,hsw,ob_some,hw,h1]
    simp
   ·have hsp:V=V.take (V.length - U.length)++V.drop (V.length - U.length):=(List.take_append_drop ..).symm
    have h1:(V.take (V.length - U.length)).length=V.length - U.length:=by rw [List.length_take]; omega
    have h2:(V.drop (V.length - U.length)).length=U.length:=by rw [List.length_drop]; omega
    generalize V.take (V.length - U.length)=V1 at *
    generalize V.drop (V.length - U.length)=V2 at *
    subst hsp
    have ih':=ih (V2.length+V1.length) (by simp only [List.length_append] at e; omega) P V2 V1 (U++S) rfl (List.length_pos_iff.1 (by omega)) (List.length_pos_iff.1 (by omega)) (by rw [hm]; omega) (by simp only [List.length_append] at hl ⊢; omega)
    have hd:P++(U++(V1++V2++S))=P++(U++(V1++(V2++S))):=by simp
    have hw:w64 (((V1++V2).length:Int) - (U.length:Int))=(V1.length:Int):=by simp only [List.length_append] at hl' ⊢; rw [w64_id (by omega) (by omega)]; omega
    have hw2:w64 (w64 (m+((V1++V2).length:Int)) - (U.length:Int))=((P.length+U.length+V1.length:Nat):Int):=by
     simp only [List.length_append] at hl' ⊢
     have h3:w64 (m+((V1.length+V2.length:Nat):Int))=m+((V1.length+V2.length:Nat):Int):=w64_id (by omega) (by omega)
     rw [h3,w64_id (by omega) (by omega)]; omega
    have hsw:=swapRange_eq (bx:=bx) P U V1 V2 S h2.symm (by rw [← hd]; exact hl) (a:=(P.length:Int)) (b:=((P.length+U.length+V1.length:Nat):Int)) (num:=(U.length:Int)) rfl rfl rfl
    refine (loopO_inl ?_).trans (ih'.trans (by simp))
    unfold slices_rotateCmpFunc_int_v1_B1
    dsimp only
    rw [if_pos (n_t (by omega)),if_neg (d_f (by omega)),hmi,hw2,hd,hsw,ob_some,hw,h2]
theorem rotate_eq (P U V S:List Int) (hU:U≠[]) (hV:V≠[]) (hl:(P++(U++(V++S))).length≤1000000000000) {a m b:Int} (ha:a=(P.length:Int)) (hm:m=((P.length+U.length:Nat):Int)) (hb:b=((P.length+U.length+V.length:Nat):Int)) :
  slices_rotateCmpFunc_int_v1 a m b bx (P++(U++(V++S)))=some (P++(V++(U++S))):=by
 have hl':=hl
 simp only [List.length_append] at hl'
 unfold slices_rotateCmpFunc_int_v1
 have e1:w64 (m - a)=(U.length:Int):=by rw [ha,hm,w64_id (by omega) (by omega)]; omega
 have e2:w64 (b - m)=(V.length:Int):=by rw [hb,hm,w64_id (by omega) (by omega)]; omega
 rw [e1,e2]
 exact rot_loop m _ P U V S rfl hU hV hm hl
end So
namespace So
variable {bx:List Span}
theorem srt_at {l:List Int} (h:Srt bx l) {i j:Nat} (hij:i<j) (hj:j<l.length):le bx (lget l (i:Int)) (lget l (j:Int)):=by
 rw [lget_nat l i (by omega),lget_nat l j hj]
 exact List.pairwise_iff_getElem.1 h i j (by omega) hj hij
theorem srt_at' {l:List Int} (h:Srt bx l) {i j:Nat} (hij:i≤j) (hj:j<l.length):le bx (lget l (i:Int)) (lget l (j:Int)):=by
 by_cases e:i=j
 ·rw [e]; exact le_refl _
 ·exact srt_at h (by omega) hj
theorem get_A (P A R:List Int) (i:Nat) (h:i<A.length):lget (P++(A++R)) ((P.length+i:Nat):Int)=lget A (i:Int):=by
 rw [lget_nat _ _ (by simp only [List.length_append]; omega),lget_nat _ _ h,List.getElem_append_right (by omega),List.getElem_append_left (by omega)]
 congr 1; omega
theorem get_B (P A B S:List Int) (i:Nat) (h:i<B.length):lget (P++(A++(B++S))) ((P.length+A.length+i:Nat):Int)=lget B (i:Int):=by
 have:=get_A (P++A) B S i h
 rw [List.append_assoc,List.length_append] at this
 exact this
theorem mem_take_get {l:List Int} {x:Int} {n:Nat} (h:x∈l.take n):∃ i,i<n∧i<l.length∧x=lget l (i:Int):=by
 obtain ⟨i,hi,rfl⟩:=List.mem_iff_getElem.1 h
 rw [List.length_take] at hi
 exact ⟨i,by omega,by omega,by rw [lget_nat l i (by omega),List.getElem_take]⟩
theorem mem_drop_get {l:List Int} {x:Int} {n:Nat} (h:x∈l.drop n):∃ i,n≤i∧i<l.length∧x=lget l (i:Int):=by
 obtain ⟨i,hi,rfl⟩:=List.mem_iff_getElem.1 h
 rw [List.length_drop] at hi
 exact ⟨n+i,by omega,by omega,by rw [lget_nat l (n+i) (by omega),List.getElem_drop]⟩
theorem mvR (P R:List Int) (x:Int) (v:Int):∀ (Br Bd:List Int),v - 1=((P.length+Bd.length+Br.length:Nat):Int)→(P++(Bd++x::(Br++R))).length≤1000000000000→
  slices_symMergeCmpFunc_int_v1_L1 v (P++(Bd++x::(Br++R)),((P.length+Bd.length:Nat):Int))=some (P++((Bd++Br)++x::R))
 | [],Bd,hv,hl=>by
  have hl':=hl
  simp only [List.length_append,List.length_cons] at hl'
  have hw:w64 (v - 1)=v - 1:=w64_id (by omega) (by omega)
  refine loopO_inr ?_
  unfold slices_symMergeCmpFunc_int_v1_B1
  dsimp only
  rw [hw,if_neg (d_f (by rw [hv]; simp))]
  simp only [List.append_nil,List.nil_append]; rfl
 | y::Br,Bd,hv,hl=>by
  have hl':=hl
  simp only [List.length_append,List.length_cons] at hl' hv
  have hw:w64 (v - 1)=v - 1:=w64_id (by omega) (by omega)
  have ih:=mvR P R x v Br (Bd++[y]) (by rw [hv]; simp only [List.length_append,List.length_cons,List.length_nil]; omega) (by simp only [List.length_append,List.length_cons,List.length_nil]; omega)
  have hd:P++(Bd++x::(y::Br++R))=(P++Bd)++x::([]++y::(Br++R)):=by simp
  have hd2:P++((Bd++[y])++x::(Br++R))=(P++Bd)++y::([]++x::(Br++R)):=by simp
  have hk:((P.length+Bd.length:Nat):Int)=((P++Bd).length:Int):=by rw [List.length_append]
  have hk2:w64 (((P++Bd).length:Int)+1)=(((P++Bd).length+1+([]:List Int).length:Nat):Int):=by
   simp only [List.length_append,List.length_nil]; rw [w64_id (by omega) (by omega)]; omega
  have hlen:((P++Bd)++x::([]++y::(Br++R))).length=(P++Bd).length+2+(Br++R).length:=by simp; omega
  have hr1:0≤(((P++Bd).length+1+([]:List Int).length:Nat):Int)∧(((P++Bd).length+1+([]:List Int).length:Nat):Int)<(((P++Bd)++x::([]++y::(Br++R))).length:Int):=by rw [hlen]; simp only [List.length_nil]; omega
  have hr2:0≤((P++Bd).length:Int)∧((P++Bd).length:Int)<(((P++Bd)++x::([]++y::(Br++R))).length:Int):=by rw [hlen]; omega
  rw [hd2] at ih
  rw [hd,hk]
  refine (loopO_inl ?_).trans (ih.trans (by simp))
  unfold slices_symMergeCmpFunc_int_v1_B1
  dsimp only
  rw [hw,if_pos (d_t (by rw [hv,List.length_append]; omega)),hk2,asrt_pos hr1,asrt_pos hr1,asrt_pos hr2,asrt_pos hr2,asrt_pos hr2,asrt_pos hr2,asrt_pos (by rw [lset_len]; exact hr1),asrt_pos (by rw [lset_len]; exact hr1),sw_i,sw_j _ _ _ _ _ rfl]
  simp only [lt]
  rw [sw_ij _ _ _ _ _ rfl]
  have:(((P++Bd).length+1+([]:List Int).length:Nat):Int)=((P.length+(Bd++[y]).length:Nat):Int):=by simp only [List.length_append,List.length_cons,List.length_nil]; omega
  rw [this]
theorem mvL (Q:List Int) (x:Int):∀ (n:Nat) (U R:List Int),U.length=n→(Q++(U++x::R)).length≤1000000000000→
  slices_symMergeCmpFunc_int_v1_L3 (Q.length:Int) (Q++(U++x::R),((Q.length+U.length:Nat):Int))=some (Q++(x::(U++R))):=by
 intro n
 induction n with
 | zero=>
  intro U R e hl
  have:U=[]:=List.eq_nil_of_length_eq_zero e
  subst this
  refine loopO_inr ?_
  unfold slices_symMergeCmpFunc_int_v1_B3
  dsimp only
  rw [if_neg (d_f (by simp))]; rfl
 | succ n ih=>
  intro U R e hl
  rcases List.eq_nil_or_concat U with h0 | ⟨U',y,rfl⟩
  ·subst h0; cases e
  ·rw [List.concat_eq_append] at *
   have hd:Q++((U'++[y])++x::R)=(Q++U')++y::([]++x::R):=by simp
   have hd2:(Q++U')++x::([]++y::R)=Q++(U'++x::(y::R)):=by simp
   have hj:((Q.length+(U'++[y]).length:Nat):Int)=(((Q++U').length+1+([]:List Int).length:Nat):Int):=by simp; omega
   have hi:w64 ((((Q++U').length+1+([]:List Int).length:Nat):Int) - 1)=((Q++U').length:Int):=by
    simp only [List.length_append,List.length_cons,List.length_nil] at hl ⊢
    rw [w64_id (by omega) (by omega)]; omega
   have hlen:((Q++U')++y::([]++x::R)).length=(Q++U').length+2+R.length:=by simp; omega
   have hr1:0≤(((Q++U').length+1+([]:List Int).length:Nat):Int)∧(((Q++U').length+1+([]:List Int).length:Nat):Int)<(((Q++U')++y::([]++x::R)).length:Int):=by rw [hlen]; simp only [List.length_nil]; omega
   have hr2:0≤((Q++U').length:Int)∧((Q++U').length:Int)<(((Q++U')++y::([]++x::R)).length:Int):=by rw [hlen]; omega
   have ih':=ih U' (y::R) (by simpa using e) (by simpa using hl)
   rw [hd,hj]
   refine (loopO_inl ?_).trans (ih'.trans (by simp))
   unfold slices_symMergeCmpFunc_int_v1_B3
   dsimp only
   rw [if_pos (d_t (by simp only [List.length_append,List.length_nil]; omega)),hi,asrt_pos hr2,asrt_pos hr2,asrt_pos hr1,asrt_pos hr1,asrt_pos hr1,asrt_pos hr1,asrt_pos (by rw [lset_len]; exact hr2),asrt_pos (by rw [lset_len]; exact hr2),sw_i,sw_j _ _ _ _ _ rfl]
   simp only [lt]
   rw [sw_ji _ _ _ _ _ rfl,hd2,List.length_append]
abbrev RecT:=(Int×Int×Int×List Span×List Int)→Option (List Int)
theorem sym_one (f:RecT) (P:List Int) (x:Int) (B S:List Int) (hB:Srt bx B) (hl:(P++([x]++(B++S))).length≤1000000000000) (ho:Ok bx (P++([x]++(B++S)))) :
  slices_symMergeCmpFunc_int_v1_S f (P.length:Int) ((P.length+1:Nat):Int) ((P.length+1+B.length:Nat):Int) bx (P++([x]++(B++S)))=some (P++(srtd bx ([x]++B)++S)):=by
 have hl':=hl
 simp only [List.length_append,List.length_cons,List.length_nil] at hl'
 have hlen:(P++([x]++(B++S))).length=P.length+1+B.length+S.length:=by simp only [List.length_append,List.length_cons,List.length_nil]; omega
 have hx:lget (P++([x]++(B++S))) (P.length:Int)=x:=lget_mid P x (B++S)
 have hb:∀ t,P.length+1≤t→t<P.length+1+B.length→lget (P++([x]++(B++S))) (t:Int)=lget B ((t - (P.length+1):Nat):Int):=fun t h1 h2=>by
  have:=get_B P [x] B S (t - (P.length+1)) (by omega)
  rw [← this]; congr 1; simp only [List.length_cons,List.length_nil]; omega
 unfold slices_symMergeCmpFunc_int_v1_S
 rw [if_pos (d_t (by rw [w64_id (by omega) (by omega)]; omega))]
 unfold slices_symMergeCmpFunc_int_v1_L2
 obtain ⟨n,h1,h2,h3,h4,h5⟩:=bs_any (fun y=>slices_symMergeCmpFunc_int_v1_B2 (P.length:Int) bx (P++([x]++(B++S))) y) (slices_symMergeCmpFunc_int_v1_J1 (P.length:Int) (P++([x]++(B++S))))
  (fun t=>ra bx (lget (P++([x]++(B++S))) (t:Int)) x=true) (P.length+1) (P.length+1+B.length)
  (fun s t g1 g2 g3 g4=>by
   rw [hb t (by omega) g3,ahead_iff] at g4
   rw [hb s g1 (by omega),ahead_iff]
   exact ah_of' (srt_at hB (by omega) (by omega)) g4)
  (fun i j g1 g2 g3=>by
   have hm:P.length+1≤(i+j) / 2∧(i+j) / 2<P.length+1+B.length:=by omega
   unfold slices_symMergeCmpFunc_int_v1_B2
   dsimp only
   rw [if_pos (d_t (by omega)),mid_w i j (by omega)]
   generalize (i+j) / 2=h at hm
   dsimp only [lt]
   rw [asrt_pos (by rw [hlen]; omega),asrt_pos (by rw [hlen]; omega),asrt_pos (by rw [hlen]; omega),asrt_pos (by rw [hlen]; omega),hx]
   rw [order_eq (ho.get (by rw [hlen]; omega)) (ho x (by simp)),ob_some]
   by_cases c:ra bx (lget (P++([x]++(B++S))) (h:Int)) x=true
   ·rw [if_pos (d_t ((ord_neg _ _).2 c)),if_pos c,w64_id (by omega) (by omega)]; rfl
   ·rw [if_neg (d_f (fun q=>c ((ord_neg _ _).1 q))),if_neg c])
  (fun i g1 g2=>by
   unfold slices_symMergeCmpFunc_int_v1_B2
   dsimp only
   rw [if_neg (d_f (by omega))])
  _ (P.length+1) (P.length+1+B.length) rfl (Nat.le_refl _) (by omega) (Nat.le_refl _) (fun t g1 g2=>by omega) (fun t g1 g2=>by omega)
 have e1:((P.length+1:Nat):Int)=((P.length+1:Nat):Int):=rfl
 refine h5.trans ?_
 unfold slices_symMergeCmpFunc_int_v1_J1
 have hsp:B=B.take (n - (P.length+1))++B.drop (n - (P.length+1)):=(List.take_append_drop ..).symm
 have hlt:(B.take (n - (P.length+1))).length=n - (P.length+1):=by rw [List.length_take]; omega
 have q1:∀ y∈B.take (n - (P.length+1)),ah bx y x:=fun y hy=>by
  obtain ⟨i,i1,i2,rfl⟩:=mem_take_get hy
  have:=h3 (P.length+1+i) (by omega) (by omega)
  rw [hb _ (by omega) (by omega),ahead_iff] at this
  have e:P.length+1+i - (P.length+1)=i:=by omega
  rwa [e] at this
 have q2:∀ y∈B.drop (n - (P.length+1)),le bx x y:=fun y hy=>by
  obtain ⟨i,i1,i2,rfl⟩:=mem_drop_get hy
  have:=h4 (P.length+1+i) (by omega) (by omega)
  rw [hb _ (by omega) (by omega),ahead_iff] at this
  have e:P.length+1+i - (P.length+1)=i:=by omega
  rwa [e] at this
 generalize B.take (n - (P.length+1))=B1 at *
 generalize B.drop (n - (P.length+1))=B2 at *
 subst hsp
 have hmv:=mvR P (B2++S) x (n:Int) B1 [] (by rw [hlt]; simp only [List.length_nil]; omega) (by simpa using hl)
 have hd:P++([x]++(B1++B2++S))=P++([]++x::(B1++(B2++S))):=by simp
 rw [hd]
 refine hmv.trans ?_
 have hsr:B1++x::B2=srtd bx ([x]++(B1++B2)):=by
  refine srtd_is (put_srt hB (fun y hy=>le_of_ah (q1 y hy)) q2) ?_
  have a2:Stab bx ([x]++B1) (B1++[x]):=Stab.swap fun y hy z hz q=>by
   rw [List.mem_singleton.1 hy] at q
   exact ah_key (q1 z hz) (key_symm q)
  have a3:=Stab.app a2 (Stab.refl B2)
  simpa using a3
 rw [← hsr]; simp
theorem sym_last (f:RecT) (P A:List Int) (x:Int) (S:List Int) (hA:Srt bx A) (hA1:A.length≠1) (hl:(P++(A++([x]++S))).length≤1000000000000) (ho:Ok bx (P++(A++([x]++S)))) :
  slices_symMergeCmpFunc_int_v1_S f (P.length:Int) ((P.length+A.length:Nat):Int) ((P.length+A.length+1:Nat):Int) bx (P++(A++([x]++S)))=some (P++(srtd bx (A++[x])++S)):=by
 have hl':=hl
 simp only [List.length_append,List.length_cons,List.length_nil] at hl'
 have hlen:(P++(A++([x]++S))).length=P.length+A.length+1+S.length:=by simp only [List.length_append,List.length_cons,List.length_nil]; omega
 have hx:lget (P++(A++([x]++S))) ((P.length+A.length:Nat):Int)=x:=by
  have:=get_B P A [x] S 0 (by simp)
  exact this
 have hb:∀ t,P.length≤t→t<P.length+A.length→lget (P++(A++([x]++S))) (t:Int)=lget A ((t - P.length:Nat):Int):=fun t h1 h2=>by
  have:=get_A P A ([x]++S) (t - P.length) (by omega)
  rw [← this]; congr 1; omega
 unfold slices_symMergeCmpFunc_int_v1_S
 rw [if_neg (d_f (by rw [w64_id (by omega) (by omega)]; omega)),if_pos (d_t (by rw [w64_id (by omega) (by omega)]; omega))]
 unfold slices_symMergeCmpFunc_int_v1_L4
 obtain ⟨n,h1,h2,h3,h4,h5⟩:=bs_any (fun y=>slices_symMergeCmpFunc_int_v1_B4 ((P.length+A.length:Nat):Int) bx (P++(A++([x]++S))) y) (slices_symMergeCmpFunc_int_v1_J3 ((P.length+A.length:Nat):Int) (P++(A++([x]++S))))
  (fun t=>¬ ra bx x (lget (P++(A++([x]++S))) (t:Int))=true) P.length (P.length+A.length)
  (fun s t g1 g2 g3 g4 q=>by
   rw [hb s g1 (by omega),ahead_iff] at q
   rw [hb t (by omega) g3,ahead_iff] at g4
   exact g4 (ah_of q (srt_at hA (by omega) (by omega))))
  (fun i j g1 g2 g3=>by
   have hm:P.length≤(i+j) / 2∧(i+j) / 2<P.length+A.length:=by omega
   unfold slices_symMergeCmpFunc_int_v1_B4
   dsimp only
   rw [if_pos (d_t (by omega)),mid_w i j (by omega)]
   generalize (i+j) / 2=h at hm
   dsimp only [lt]
   rw [asrt_pos (by rw [hlen]; omega),asrt_pos (by rw [hlen]; omega),asrt_pos (by rw [hlen]; omega),asrt_pos (by rw [hlen]; omega),hx]
   rw [order_eq (ho x (by simp)) (ho.get (by rw [hlen]; omega)),ob_some]
   by_cases c:ra bx x (lget (P++(A++([x]++S))) (h:Int))=true
   ·rw [if_neg (n_f ((ord_neg _ _).2 c)),if_neg (not_not_intro c)]
   ·rw [if_pos (n_t (fun q=>c ((ord_neg _ _).1 q))),if_pos c,w64_id (by omega) (by omega)]; rfl)
  (fun i g1 g2=>by
   unfold slices_symMergeCmpFunc_int_v1_B4
   dsimp only
   rw [if_neg (d_f (by omega))])
  _ P.length (P.length+A.length) rfl (Nat.le_refl _) (by omega) (Nat.le_refl _) (fun t g1 g2=>by omega) (fun t g1 g2=>by omega)
 refine h5.trans ?_
 unfold slices_symMergeCmpFunc_int_v1_J3
 have hsp:A=A.take (n - P.length)++A.drop (n - P.length):=(List.take_append_drop ..).symm
 have hlt:(A.take (n - P.length)).length=n - P.length:=by rw [List.length_take]; omega
 have q1:∀ y∈A.take (n - P.length),le bx y x:=fun y hy=>by
  obtain ⟨i,i1,i2,rfl⟩:=mem_take_get hy
  have:=h3 (P.length+i) (by omega) (by omega)
  rw [hb _ (by omega) (by omega),ahead_iff] at this
  have e:P.length+i - P.length=i:=by omega
  rwa [e] at this
 have q2:∀ y∈A.drop (n - P.length),ah bx x y:=fun y hy=>by
  obtain ⟨i,i1,i2,rfl⟩:=mem_drop_get hy
  have:=Decidable.not_not.1 (h4 (P.length+i) (by omega) (by omega))
  rw [hb _ (by omega) (by omega),ahead_iff] at this
  have e:P.length+i - P.length=i:=by omega
  rwa [e] at this
 generalize A.take (n - P.length)=A1 at *
 generalize A.drop (n - P.length)=A2 at *
 subst hsp
 have hmv:=mvL (P++A1) x _ A2 S rfl (by simpa using hl)
 have hd:P++(A1++A2++([x]++S))=P++A1++(A2++x::S):=by simp
 have en:(n:Int)=((P++A1).length:Int):=by rw [List.length_append]; omega
 have em:((P.length+(A1++A2).length:Nat):Int)=(((P++A1).length+A2.length:Nat):Int):=by simp only [List.length_append]; omega
 rw [hd,en,em]
 refine hmv.trans ?_
 have hsr:A1++x::A2=srtd bx ((A1++A2)++[x]):=by
  refine srtd_is (put_srt hA q1 fun y hy=>le_of_ah (q2 y hy)) ?_
  have a2:Stab bx (A2++[x]) ([x]++A2):=Stab.swap fun y hy z hz q=>by
   rw [List.mem_singleton.1 hz] at q
   exact ah_key (q2 y hy) (key_symm q)
  have a3:=Stab.app (Stab.refl A1) a2
  simpa using a3
 rw [← hsr]; simp
end So
namespace So
variable {bx:List Span}
theorem ob_id {α:Type} (x:Option α):(ob x fun y=>some y)=x:=by cases x <;> rfl
theorem sym_find (f:RecT) (P A B S:List Int) (hA:Srt bx A) (hB:Srt bx B) (hA0:A≠[]) (hB0:B≠[]) (hA1:A.length≠1) (hB1:B.length≠1) (hl:(P++(A++(B++S))).length≤1000000000000) (ho:Ok bx (P++(A++(B++S)))) (h lo hi:Nat) (hh:h=(A.length+B.length) / 2) (hlo:lo=P.length+(if h<A.length then h - B.length else 0)) (hhi:hi=P.length+(if h<A.length then h else A.length)) :
  ∃ s,s≤A.length∧s≤h∧h - s≤B.length∧(∀ y∈B.take (h - s),∀ x∈A.drop s,ah bx y x)∧(∀ x∈A.take s,∀ y∈B.drop (h - s),le bx x y)∧
   slices_symMergeCmpFunc_int_v1_L5 (P.length:Int) ((P.length+A.length:Nat):Int) ((P.length+A.length+B.length:Nat):Int) bx (P++(A++(B++S))) f ((P.length+h:Nat):Int) ((lo:Int),(hi:Int)) =
    slices_symMergeCmpFunc_int_v1_J5 (P.length:Int) ((P.length+A.length:Nat):Int) ((P.length+A.length+B.length:Nat):Int) bx (P++(A++(B++S))) f ((P.length+h:Nat):Int) ((P.length+s:Nat):Int):=by
 have hl':=hl
 simp only [List.length_append] at hl'
 have hu:=List.length_pos_iff.2 hA0
 have hv:=List.length_pos_iff.2 hB0
 have hlen:(P++(A++(B++S))).length=P.length+A.length+B.length+S.length:=by simp only [List.length_append]; omega
 have hn:w64 (((P.length+h:Nat):Int)+((P.length+A.length:Nat):Int))=((P.length+h+(P.length+A.length):Nat):Int):=by rw [w64_id (by omega) (by omega)]; omega
 have hn1:w64 (((P.length+h+(P.length+A.length):Nat):Int) - 1)=((P.length+h+(P.length+A.length) - 1:Nat):Int):=by rw [w64_id (by omega) (by omega)]; omega
 have hlo1:P.length≤lo:=by omega
 have hlo2:h≤B.length+(lo - P.length):=by
  rw [hlo]; split <;> omega
 have hhi1:hi≤P.length+A.length∧hi≤P.length+h:=by rw [hhi]; constructor <;> split <;> omega
 have hlh:lo≤hi:=by rw [hlo,hhi]; split <;> omega
 have hlo3:lo=P.length∨lo+B.length=P.length+h:=by rw [hlo]; split <;> omega
 have hhi3:hi=P.length+A.length∨hi=P.length+h:=by rw [hhi]; split <;> omega
 have gA:∀ t,lo≤t→t<hi→lget (P++(A++(B++S))) (t:Int)=lget A ((t - P.length:Nat):Int):=fun t h1 h2=>by
  have:=get_A P A (B++S) (t - P.length) (by omega)
  rw [← this]; congr 1; omega
 have gB:∀ t,lo≤t→t<hi→lget (P++(A++(B++S))) ((P.length+h+(P.length+A.length) - 1 - t:Nat):Int)=lget B ((h - 1 - (t - P.length):Nat):Int):=fun t h1 h2=>by
  have:=get_B P A B S (h - 1 - (t - P.length)) (by omega)
  rw [← this]; congr 1; omega
 have hwp:∀ t:Nat,lo≤t→t<hi→w64 (((P.length+h+(P.length+A.length) - 1:Nat):Int) - (t:Int))=((P.length+h+(P.length+A.length) - 1 - t:Nat):Int):=fun t h1 h2=>by rw [w64_id (by omega) (by omega)]; omega
 obtain ⟨n,h1,h2,h3,h4,h5⟩:=bs_any (fun y=>slices_symMergeCmpFunc_int_v1_B5 (P.length:Int) ((P.length+A.length:Nat):Int) ((P.length+A.length+B.length:Nat):Int) bx (P++(A++(B++S))) f ((P.length+h:Nat):Int) y)
  (slices_symMergeCmpFunc_int_v1_J5 (P.length:Int) ((P.length+A.length:Nat):Int) ((P.length+A.length+B.length:Nat):Int) bx (P++(A++(B++S))) f ((P.length+h:Nat):Int))
  (fun t=>¬ ra bx (lget (P++(A++(B++S))) ((P.length+h+(P.length+A.length) - 1 - t:Nat):Int)) (lget (P++(A++(B++S))) (t:Int))=true) lo hi
  (fun s t g1 g2 g3 g4 q=>by
   rw [gA s g1 (by omega),gB s g1 (by omega),ahead_iff] at q
   rw [gA t (by omega) g3,gB t (by omega) g3,ahead_iff] at g4
   exact g4 (ah_of' (srt_at' hB (by omega) (by omega)) (ah_of q (srt_at hA (by omega) (by omega)))))
  (fun i j g1 g2 g3=>by
   have hm:lo≤(i+j) / 2∧(i+j) / 2<hi:=by omega
   unfold slices_symMergeCmpFunc_int_v1_B5
   dsimp only
   rw [if_pos (d_t (by omega)),mid_w i j (by omega)]
   generalize (i+j) / 2=c at hm
   dsimp only [lt]
   rw [hn,hn1,hwp c hm.1 hm.2,asrt_pos (by rw [hlen]; omega),asrt_pos (by rw [hlen]; omega),asrt_pos (by rw [hlen]; omega),asrt_pos (by rw [hlen]; omega)]
   rw [order_eq (ho.get (by rw [hlen]; omega)) (ho.get (by rw [hlen]; omega)),ob_some]
   by_cases q:ra bx (lget (P++(A++(B++S))) ((P.length+h+(P.length+A.length) - 1 - c:Nat):Int)) (lget (P++(A++(B++S))) (c:Int))=true
   ·rw [if_neg (n_f ((ord_neg _ _).2 q)),if_neg (not_not_intro q)]
   ·rw [if_pos (n_t (fun z=>q ((ord_neg _ _).1 z))),if_pos q,w64_id (by omega) (by omega)]; rfl)
  (fun i g1 g2=>by
   unfold slices_symMergeCmpFunc_int_v1_B5
   dsimp only
   rw [if_neg (d_f (by omega))])
  _ lo hi rfl (Nat.le_refl _) hlh (Nat.le_refl _) (fun t g1 g2=>by omega) (fun t g1 g2=>by omega)
 obtain ⟨s,rfl⟩:∃ s,n=P.length+s:=⟨n - P.length,by omega⟩
 have hs1:s≤A.length∧s≤h∧h - s≤B.length:=by omega
 have F1:∀ y∈B.take (h - s),∀ x∈A.drop s,ah bx y x:=by
  intro y hy x hx
  obtain ⟨i,i1,i2,rfl⟩:=mem_take_get hy
  obtain ⟨j,j1,j2,rfl⟩:=mem_drop_get hx
  have hlt:P.length+s<hi:=by omega
  have:=Decidable.not_not.1 (h4 (P.length+s) (Nat.le_refl _) hlt)
  rw [gA _ h1 hlt,gB _ h1 hlt,ahead_iff] at this
  have e:P.length+s - P.length=s:=by omega
  rw [e] at this
  exact ah_of' (srt_at' hB (by omega) (by omega)) (ah_of this (srt_at' hA j1 j2))
 have F2:∀ x∈A.take s,∀ y∈B.drop (h - s),le bx x y:=by
  intro x hx y hy
  obtain ⟨i,i1,i2,rfl⟩:=mem_take_get hx
  obtain ⟨j,j1,j2,rfl⟩:=mem_drop_get hy
  have hge:lo≤P.length+(s - 1):=by omega
  have:=h3 (P.length+(s - 1)) hge (by omega)
  rw [gA _ hge (by omega),gB _ hge (by omega),ahead_iff] at this
  have e:P.length+(s - 1) - P.length=s - 1:=by omega
  have e2:h - 1 - (s - 1)=h - s:=by omega
  rw [e,e2] at this
  exact le_trans (srt_at' hA (by omega) (by omega)) (le_trans this (srt_at' hB j1 j2))
 exact ⟨s,hs1.1,hs1.2.1,hs1.2.2,F1,F2,h5⟩
theorem sym_step (f:RecT) (P A B S:List Int) (hA:Srt bx A) (hB:Srt bx B) (hA0:A≠[]) (hB0:B≠[]) (hA1:A.length≠1) (hB1:B.length≠1) (hl:(P++(A++(B++S))).length≤1000000000000) (ho:Ok bx (P++(A++(B++S)))) :
  ∃ A1 A2 B1 B2,A=A1++A2∧B=B1++B2∧A1.length+B1.length=(A.length+B.length) / 2∧(∀ y∈B1,∀ x∈A2,ah bx y x)∧(∀ x∈A1,∀ y∈B2,le bx x y)∧
   slices_symMergeCmpFunc_int_v1_S f (P.length:Int) ((P.length+A.length:Nat):Int) ((P.length+A.length+B.length:Nat):Int) bx (P++(A++(B++S))) =
    ob (if (decide (0<A1.length)&&decide (0<B1.length))=true then f ((P.length:Int),((P.length+A1.length:Nat):Int),((P.length+A1.length+B1.length:Nat):Int),bx,P++(A1++(B1++(A2++(B2++S))))) else some (P++(A1++(B1++(A2++(B2++S)))))) fun r=>
    if (decide (0<A2.length)&&decide (0<B2.length))=true then f (((P.length+A1.length+B1.length:Nat):Int),((P.length+A1.length+B1.length+A2.length:Nat):Int),((P.length+A1.length+B1.length+A2.length+B2.length:Nat):Int),bx,r) else some r:=by
 have hl':=hl
 simp only [List.length_append] at hl'
 have hu:=List.length_pos_iff.2 hA0
 have hv:=List.length_pos_iff.2 hB0
 have hlen:(P++(A++(B++S))).length=P.length+A.length+B.length+S.length:=by simp only [List.length_append]; omega
 obtain ⟨h,hh⟩:∃ h,h=(A.length+B.length) / 2:=⟨_,rfl⟩
 have hmid:w64 (Int.fdiv (IntKind.u64.wrap (w64 ((P.length:Int)+((P.length+A.length+B.length:Nat):Int)))) (2 ^ (min (1:Int).toNat 64)))=((P.length+h:Nat):Int):=by
  rw [mid_w P.length (P.length+A.length+B.length) (by omega)]; omega
 have hn:w64 (((P.length+h:Nat):Int)+((P.length+A.length:Nat):Int))=((P.length+h+(P.length+A.length):Nat):Int):=by rw [w64_id (by omega) (by omega)]; omega
 have hnb:h<A.length→w64 (((P.length+h+(P.length+A.length):Nat):Int) - ((P.length+A.length+B.length:Nat):Int))=((P.length+(h - B.length):Nat):Int):=fun q=>by rw [w64_id (by omega) (by omega)]; omega
 obtain ⟨lo,hlo⟩:∃ lo,lo=P.length+(if h<A.length then h - B.length else 0):=⟨_,rfl⟩
 obtain ⟨hi,hhi⟩:∃ hi,hi=P.length+(if h<A.length then h else A.length):=⟨_,rfl⟩
 obtain ⟨s,s1,s2,s3,F1,F2,h5⟩:=sym_find f P A B S hA hB hA0 hB0 hA1 hB1 hl ho h lo hi hh hlo hhi
 have hLA1:(A.take s).length=s:=by rw [List.length_take]; omega
 have hLA2:(A.drop s).length=A.length - s:=List.length_drop
 have hLB1:(B.take (h - s)).length=h - s:=by rw [List.length_take]; omega
 have hLB2:(B.drop (h - s)).length=B.length - (h - s):=List.length_drop
 have hsA:A=A.take s++A.drop s:=(List.take_append_drop ..).symm
 have hsB:B=B.take (h - s)++B.drop (h - s):=(List.take_append_drop ..).symm
 refine ⟨A.take s,A.drop s,B.take (h - s),B.drop (h - s),hsA,hsB,by omega,F1,F2,?_⟩
 have hrow:P++(A++(B++S))=(P++A.take s)++(A.drop s++(B.take (h - s)++(B.drop (h - s)++S))):=by
  conv=>lhs; rw [hsA,hsB]
  simp only [List.append_assoc]
 unfold slices_symMergeCmpFunc_int_v1_S
 rw [if_neg (d_f (by rw [w64_id (by omega) (by omega)]; omega)),if_neg (d_f (by rw [w64_id (by omega) (by omega)]; omega)),hmid]
 dsimp only [lt]
 rw [hn]
 have hst:(ob (if (decide (((P.length+h:Nat):Int)<((P.length+A.length:Nat):Int)))=true then some (w64 (((P.length+h+(P.length+A.length):Nat):Int) - ((P.length+A.length+B.length:Nat):Int)),((P.length+h:Nat):Int)) else some ((P.length:Int),((P.length+A.length:Nat):Int))) fun (v13:Int×Int)=>
   slices_symMergeCmpFunc_int_v1_L5 (P.length:Int) ((P.length+A.length:Nat):Int) ((P.length+A.length+B.length:Nat):Int) bx (P++(A++(B++S))) f ((P.length+h:Nat):Int) (v13.1,v13.2)) =
   slices_symMergeCmpFunc_int_v1_L5 (P.length:Int) ((P.length+A.length:Nat):Int) ((P.length+A.length+B.length:Nat):Int) bx (P++(A++(B++S))) f ((P.length+h:Nat):Int) ((lo:Int),(hi:Int)):=by
  by_cases c:h<A.length
  ·rw [if_pos (d_t (by omega)),hnb c,ob_some,hlo,hhi,if_pos c,if_pos c]
  ·rw [if_neg (d_f (by omega)),ob_some,hlo,hhi,if_neg c,if_neg c]; rfl
 refine hst.trans ?_
 refine h5.trans ?_
 unfold slices_symMergeCmpFunc_int_v1_J5
 have hend:w64 (((P.length+h+(P.length+A.length):Nat):Int) - ((P.length+s:Nat):Int))=((P.length+h+(A.length - s):Nat):Int):=by rw [w64_id (by omega) (by omega)]; omega
 rw [hn,hend]
 have hrot:(if ((decide (((P.length+s:Nat):Int)<((P.length+A.length:Nat):Int)))&&(decide (((P.length+A.length:Nat):Int)<((P.length+h+(A.length - s):Nat):Int))))=true then
   ob (slices_rotateCmpFunc_int_v1 ((P.length+s:Nat):Int) ((P.length+A.length:Nat):Int) ((P.length+h+(A.length - s):Nat):Int) bx (P++(A++(B++S)))) fun x2=>some x2 else some (P++(A++(B++S))))=some (P++(A.take s++(B.take (h - s)++(A.drop s++(B.drop (h - s)++S))))):=by
  by_cases c:s<A.length∧s<h
  ·have:=rotate_eq (bx:=bx) (P++A.take s) (A.drop s) (B.take (h - s)) (B.drop (h - s)++S) (List.length_pos_iff.1 (by omega)) (List.length_pos_iff.1 (by omega)) (by rw [← hrow]; exact hl) (a:=((P.length+s:Nat):Int)) (m:=((P.length+A.length:Nat):Int)) (b:=((P.length+h+(A.length - s):Nat):Int))
    (by rw [List.length_append,hLA1]) (by rw [List.length_append,hLA1,hLA2]; omega) (by rw [List.length_append,hLA1,hLA2,hLB1]; omega)
   rw [if_pos (an_t ⟨by omega,by omega⟩),ob_id,hrow,this]; simp only [List.append_assoc]
  ·rw [if_neg (an_f (by omega)),hrow]
   by_cases c2:s<A.length
   ·have:B.take (h - s)=[]:=List.eq_nil_of_length_eq_zero (by omega)
    rw [this]; simp only [List.append_assoc,List.nil_append]
   ·have:A.drop s=[]:=List.eq_nil_of_length_eq_zero (by omega)
    rw [this]; simp only [List.append_assoc,List.nil_append]
 rw [hrot,ob_some,hLA1,hLA2,hLB1,hLB2]
 simp only [ob_id]
 have c1:((decide ((P.length:Int)<((P.length+s:Nat):Int)))&&(decide (((P.length+s:Nat):Int)<((P.length+h:Nat):Int))))=(decide (0<s)&&decide (0<h - s)):=by
  rw [Bool.eq_iff_iff]; simp only [Bool.and_eq_true,decide_eq_true_eq]; omega
 have c2:((decide (((P.length+h:Nat):Int)<((P.length+h+(A.length - s):Nat):Int)))&&(decide (((P.length+h+(A.length - s):Nat):Int)<((P.length+A.length+B.length:Nat):Int))))=(decide (0<A.length - s)&&decide (0<B.length - (h - s))):=by
  rw [Bool.eq_iff_iff]; simp only [Bool.and_eq_true,decide_eq_true_eq]; omega
 have k1:((P.length+h:Nat):Int)=((P.length+s+(h - s):Nat):Int):=by omega
 have k2:((P.length+h+(A.length - s):Nat):Int)=((P.length+s+(h - s)+(A.length - s):Nat):Int):=by omega
 have k3:((P.length+A.length+B.length:Nat):Int)=((P.length+s+(h - s)+(A.length - s)+(B.length - (h - s)):Nat):Int):=by omega
 rw [c1,c2,← k1,← k2,← k3]
theorem srtd_four {A1 A2 B1 B2:List Int} (hA:Srt bx (A1++A2)) (hB:Srt bx (B1++B2)) (h1:∀ y∈B1,∀ x∈A2,ah bx y x) (h2:∀ x∈A1,∀ y∈B2,le bx x y):srtd bx (A1++B1)++srtd bx (A2++B2)=srtd bx ((A1++A2)++(B1++B2)):=by
 refine srtd_is (srt_app (srtd_srt _) (srtd_srt _) fun x hx y hy=>?_) ?_
 ·have hx:=(srtd_stab (A1++B1)).mem hx
  have hy:=(srtd_stab (A2++B2)).mem hy
  rcases List.mem_append.1 hx with hx | hx
  ·rcases List.mem_append.1 hy with hy | hy
   ·exact pw_mid hA hx hy
   ·exact h2 x hx y hy
  ·rcases List.mem_append.1 hy with hy | hy
   ·exact le_of_ah (h1 x hx y hy)
   ·exact pw_mid hB hx hy
 ·have a:Stab bx (A2++B1) (B1++A2):=Stab.swap fun x hx y hy q=>ah_key (h1 y hy x hx) (key_symm q)
  have b:Stab bx (A1++((A2++B1)++B2)) (A1++((B1++A2)++B2)):=Stab.app (Stab.refl _) (Stab.app a (Stab.refl _))
  have c:Stab bx ((A1++B1)++(A2++B2)) (srtd bx (A1++B1)++srtd bx (A2++B2)):=Stab.app (srtd_stab _) (srtd_stab _)
  simp only [List.append_assoc] at b c ⊢
  exact b.trans c
where
 pw_mid {a b:List Int} {x y:Int} (h:Srt bx (a++b)) (hx:x∈a) (hy:y∈b):le bx x y:=(List.pairwise_append.1 h).2.2 x hx y hy
noncomputable def gM (x:Int×Int×Int×List Span×List Int):List Int:=x.2.2.2.2.take x.1.toNat++(srtd x.2.2.2.1 ((x.2.2.2.2.take x.2.2.1.toNat).drop x.1.toNat)++x.2.2.2.2.drop x.2.2.1.toNat)
def iM (bx:List Span) (x:Int×Int×Int×List Span×List Int):Prop:=∃ P A B S:List Int,x=((P.length:Int),((P.length+A.length:Nat):Int),((P.length+A.length+B.length:Nat):Int),bx,P++(A++(B++S)))∧A≠[]∧B≠[]∧Srt bx A∧Srt bx B∧(P++(A++(B++S))).length≤1000000000000∧Ok bx (P++(A++(B++S)))
theorem gM_eq (P A B S:List Int):gM ((P.length:Int),((P.length+A.length:Nat):Int),((P.length+A.length+B.length:Nat):Int),bx,P++(A++(B++S)))=P++(srtd bx (A++B)++S):=by
 unfold gM
 dsimp only
 rw [Int.toNat_natCast,Int.toNat_natCast]
 have e1:(P++(A++(B++S))).take P.length=P:=List.take_left
 have e2:P++(A++(B++S))=(P++(A++B))++S:=by simp only [List.append_assoc]
 have e3:P.length+A.length+B.length=(P++(A++B)).length:=by simp only [List.length_append]; omega
 rw [e1,e2,e3,List.take_left,List.drop_left,List.drop_left]
theorem sym_eq {P A B S:List Int} (hA0:A≠[]) (hB0:B≠[]) (hA:Srt bx A) (hB:Srt bx B) (hl:(P++(A++(B++S))).length≤1000000000000) (ho:Ok bx (P++(A++(B++S)))) :
  slices_symMergeCmpFunc_int_v1 (P.length:Int) ((P.length+A.length:Nat):Int) ((P.length+A.length+B.length:Nat):Int) bx (P++(A++(B++S)))=some (P++(srtd bx (A++B)++S)):=by
 have one:∀ (f:RecT) (P A B S:List Int),A≠[]→B≠[]→Srt bx A→Srt bx B→(P++(A++(B++S))).length≤1000000000000→Ok bx (P++(A++(B++S)))→A.length=1∨B.length=1→
   slices_symMergeCmpFunc_int_v1_S f (P.length:Int) ((P.length+A.length:Nat):Int) ((P.length+A.length+B.length:Nat):Int) bx (P++(A++(B++S)))=some (P++(srtd bx (A++B)++S)):=by
  intro f P A B S hA0 hB0 hA hB hl ho h
  by_cases c:A.length=1
  ·obtain ⟨x,rfl⟩:=List.length_eq_one_iff.1 c
   exact sym_one f P x B S hB hl ho
  ·have c2:B.length=1:=by omega
   obtain ⟨x,rfl⟩:=List.length_eq_one_iff.1 c2
   exact sym_last f P A x S hA c hl ho
 have first:∀ (P A1 A2 B1 B2 S:List Int) (hA:Srt bx (A1++A2)) (hB:Srt bx (B1++B2)),¬ (0<A1.length∧0<B1.length)→srtd bx (A1++B1)=A1++B1:=by
  intro P A1 A2 B1 B2 S hA hB h
  have a:=(List.pairwise_append.1 hA).1
  have b:=(List.pairwise_append.1 hB).1
  by_cases c:A1.length=0
  ·rw [List.eq_nil_of_length_eq_zero c]; exact srtd_self b
  ·rw [List.eq_nil_of_length_eq_zero (show B1.length=0 by omega),List.append_nil]; exact srtd_self a
 have last:∀ (P A1 A2 B1 B2 S:List Int) (hA:Srt bx (A1++A2)) (hB:Srt bx (B1++B2)),¬ (0<A2.length∧0<B2.length)→srtd bx (A2++B2)=A2++B2:=by
  intro P A1 A2 B1 B2 S hA hB h
  have a:=(List.pairwise_append.1 hA).2.1
  have b:=(List.pairwise_append.1 hB).2.1
  by_cases c:A2.length=0
  ·rw [List.eq_nil_of_length_eq_zero c]; exact srtd_self b
  ·rw [List.eq_nil_of_length_eq_zero (show B2.length=0 by omega),List.append_nil]; exact srtd_self a
 have y1:∀ (P A1 A2 B1 B2 S:List Int),Srt bx (A1++A2)→Srt bx (B1++B2)→0<A1.length→0<B1.length→(P++((A1++A2)++((B1++B2)++S))).length≤1000000000000→Ok bx (P++((A1++A2)++((B1++B2)++S)))→iM bx ((P.length:Int),((P.length+A1.length:Nat):Int),((P.length+A1.length+B1.length:Nat):Int),bx,P++(A1++(B1++(A2++(B2++S))))):=
  fun P A1 A2 B1 B2 S hA hB ha hb hl ho=>⟨P,A1,B1,A2++(B2++S),rfl,List.length_pos_iff.1 ha,List.length_pos_iff.1 hb,(List.pairwise_append.1 hA).1,(List.pairwise_append.1 hB).1,by simp only [List.length_append] at hl ⊢; omega,(by have hq:=ho; simp only [ok_app,ok_cons,ok_nil,ok_srtd,and_true,true_and] at hq ⊢; simp [hq])⟩
 have y2:∀ (P A1 A2 B1 B2 S:List Int),Srt bx (A1++A2)→Srt bx (B1++B2)→0<A2.length→0<B2.length→(P++((A1++A2)++((B1++B2)++S))).length≤1000000000000→Ok bx (P++((A1++A2)++((B1++B2)++S)))→
   iM bx (((P.length+A1.length+B1.length:Nat):Int),((P.length+A1.length+B1.length+A2.length:Nat):Int),((P.length+A1.length+B1.length+A2.length+B2.length:Nat):Int),bx,P++(srtd bx (A1++B1)++(A2++(B2++S))))∧
   gM (((P.length+A1.length+B1.length:Nat):Int),((P.length+A1.length+B1.length+A2.length:Nat):Int),((P.length+A1.length+B1.length+A2.length+B2.length:Nat):Int),bx,P++(srtd bx (A1++B1)++(A2++(B2++S))))=P++(srtd bx (A1++B1)++(srtd bx (A2++B2)++S)):=by
  intro P A1 A2 B1 B2 S hA hB ha hb hl ho
  have e:P.length+A1.length+B1.length=(P++srtd bx (A1++B1)).length:=by rw [List.length_append,srtd_len,List.length_append]; omega
  have e2:P++(srtd bx (A1++B1)++(A2++(B2++S)))=(P++srtd bx (A1++B1))++(A2++(B2++S)):=by simp only [List.append_assoc]
  rw [e,e2]
  refine ⟨⟨P++srtd bx (A1++B1),A2,B2,S,rfl,List.length_pos_iff.1 ha,List.length_pos_iff.1 hb,(List.pairwise_append.1 hA).2.1,(List.pairwise_append.1 hB).2.1,?_,(by have hq:=ho; simp only [ok_app,ok_cons,ok_nil,ok_srtd,and_true,true_and] at hq ⊢; simp [hq])⟩,?_⟩
  ·simp only [List.length_append,srtd_len] at hl ⊢; omega
  ·rw [gM_eq]; simp only [List.append_assoc]
 have:=recO_spec (S:=fun rec (x:Int×Int×Int×List Span×List Int)=>slices_symMergeCmpFunc_int_v1_S rec x.1 x.2.1 x.2.2.1 x.2.2.2.1 x.2.2.2.2) (iM bx) (fun x=>(x.2.2.1 - x.1).toNat) gM
  (by
   rintro x f ⟨P,A,B,S,rfl,hA0,hB0,hA,hB,hl,ho⟩ ih r e
   dsimp only at ih e
   rw [gM_eq]
   have hu:=List.length_pos_iff.2 hA0
   have hv:=List.length_pos_iff.2 hB0
   by_cases c:A.length=1∨B.length=1
   ·rw [one f P A B S hA0 hB0 hA hB hl ho c] at e; exact (some_elim e).symm
   ·obtain ⟨A1,A2,B1,B2,rfl,rfl,hh,F1,F2,hS⟩:=sym_step f P A B S hA hB hA0 hB0 (by omega) (by omega) hl ho
    rw [hS] at e
    obtain ⟨r2,e1,e2⟩:=ob_elim e
    rw [← srtd_four hA hB F1 F2]
    simp only [List.length_append] at ih hh c hu hv
    have hr2:r2=P++(srtd bx (A1++B1)++(A2++(B2++S))):=by
     by_cases c1:0<A1.length∧0<B1.length
     ·rw [if_pos (an_t c1)] at e1
      have:=ih _ r2 (y1 P A1 A2 B1 B2 S hA hB c1.1 c1.2 hl ho) (by dsimp only; omega) e1
      rw [this,gM_eq]
     ·rw [if_neg (an_f c1)] at e1
      rw [first P A1 A2 B1 B2 S hA hB c1,← some_elim e1]; simp only [List.append_assoc]
    rw [hr2] at e2
    by_cases c2:0<A2.length∧0<B2.length
    ·rw [if_pos (an_t c2)] at e2
     obtain ⟨k1,k2⟩:=y2 P A1 A2 B1 B2 S hA hB c2.1 c2.2 hl ho
     have:=ih _ r k1 (by dsimp only; omega) e2
     rw [this,k2]; simp only [List.append_assoc]
    ·rw [if_neg (an_f c2)] at e2
     rw [last P A1 A2 B1 B2 S hA hB c2,← some_elim e2]; simp only [List.append_assoc])
  (by
   rintro x f ⟨P,A,B,S,rfl,hA0,hB0,hA,hB,hl,ho⟩ ih
   dsimp only at ih ⊢
   rw [gM_eq]
   have hu:=List.length_pos_iff.2 hA0
   have hv:=List.length_pos_iff.2 hB0
   by_cases c:A.length=1∨B.length=1
   ·exact one f P A B S hA0 hB0 hA hB hl ho c
   ·obtain ⟨A1,A2,B1,B2,rfl,rfl,hh,F1,F2,hS⟩:=sym_step f P A B S hA hB hA0 hB0 (by omega) (by omega) hl ho
    rw [hS,← srtd_four hA hB F1 F2]
    simp only [List.length_append] at ih hh c hu hv
    have hr2:(if (decide (0<A1.length)&&decide (0<B1.length))=true then f ((P.length:Int),((P.length+A1.length:Nat):Int),((P.length+A1.length+B1.length:Nat):Int),bx,P++(A1++(B1++(A2++(B2++S))))) else some (P++(A1++(B1++(A2++(B2++S))))))=some (P++(srtd bx (A1++B1)++(A2++(B2++S)))):=by
     by_cases c1:0<A1.length∧0<B1.length
     ·rw [if_pos (an_t c1),ih _ (y1 P A1 A2 B1 B2 S hA hB c1.1 c1.2 hl ho) (by dsimp only; omega),gM_eq]
     ·rw [if_neg (an_f c1),first P A1 A2 B1 B2 S hA hB c1]; simp only [List.append_assoc]
    rw [hr2,ob_some]
    by_cases c2:0<A2.length∧0<B2.length
    ·obtain ⟨k1,k2⟩:=y2 P A1 A2 B1 B2 S hA hB c2.1 c2.2 hl ho
     rw [if_pos (an_t c2),ih _ k1 (by dsimp only; omega),k2]; simp only [List.append_assoc]
    ·rw [if_neg (an_f c2),last P A1 A2 B1 B2 S hA hB c2]; simp only [List.append_assoc])
  (x:=((P.length:Int),((P.length+A.length:Nat):Int),((P.length+A.length+B.length:Nat):Int),bx,P++(A++(B++S)))) ⟨P,A,B,S,rfl,hA0,hB0,hA,hB,hl,ho⟩
 unfold slices_symMergeCmpFunc_int_v1
 rw [this,gM_eq]
end So
namespace So
variable {bx:List Span}
theorem srtd_nil:srtd bx []=[]:=srtd_self .nil
inductive Chs (bx:List Span) (bs:Nat):List Int→List Int→Prop
 | last (l:List Int) (h:l.length≤bs):Chs bx bs l (srtd bx l)
 | more (A l r:List Int) (h:A.length=bs) (t:Chs bx bs l r):Chs bx bs (A++l) (srtd bx A++r)
theorem Chs.len {bs:Nat} {l r:List Int} (h:Chs bx bs l r):r.length=l.length:=by
 induction h with
 | last l h=>exact srtd_len l
 | more A l r h t ih=>rw [List.length_append,List.length_append,srtd_len,ih]
theorem Chs.ok {bs:Nat} {l r:List Int} (h:Chs bx bs l r):Ok bx l→Ok bx r:=by
 induction h with
 | last l h=>exact ok_srtd.2
 | more A l r h t ih=>exact fun q=>ok_app.2 ⟨ok_srtd.2 (ok_app.1 q).1,ih (ok_app.1 q).2⟩
theorem Chs.short {bs:Nat} {l r:List Int} (h:Chs bx bs l r) (h0:0<bs) (hl:l.length≤bs):r=srtd bx l:=by
 cases h with
 | last _ h=>rfl
 | more A l r h t=>
  have:l=[]:=List.eq_nil_of_length_eq_zero (by rw [List.length_append] at hl; omega)
  subst this
  have:=t.len
  have:r=[]:=List.eq_nil_of_length_eq_zero (by simpa using this)
  rw [this,List.append_nil,List.append_nil]
theorem Chs.two {bs:Nat} {l r:List Int} (h:Chs bx bs l r) (h0:0<bs) (hl:bs<l.length):∃ A l' r',l=A++l'∧r=srtd bx A++r'∧A.length=bs∧Chs bx bs l' r':=by
 cases h with
 | last _ h=>omega
 | more A l r h t=>exact ⟨A,l,r,rfl,rfl,h,t⟩
theorem stab2 (A B:List Int):srtd bx (srtd bx A++srtd bx B)=srtd bx (A++B):=srtd_congr (Stab.app (srtd_stab A) (srtd_stab B))
theorem first_pass (num:Int):∀ (n:Nat) (P l:List Int),l.length=n→num=((P.length+l.length:Nat):Int)→(P++l).length≤500000000000→Ok bx (P++l)→
  ∃ r,Chs bx 20 l r∧slices_stableCmpFunc_int_v1_L3 num bx (P++l,(P.length:Int),((P.length+20:Nat):Int))=slices_stableCmpFunc_int_v1_L1 num bx (P++r,20):=by
 intro n
 induction n using Nat.strongRecOn with
 | _ n ih=>
  intro P l e hn hl ho
  have hl':=hl
  rw [List.length_append] at hl'
  by_cases c:20≤l.length
  ·have hsp:l=l.take 20++l.drop 20:=(List.take_append_drop ..).symm
   have h1:(l.take 20).length=20:=by rw [List.length_take]; omega
   have h2:(l.drop 20).length=l.length - 20:=List.length_drop
   generalize l.take 20=A at *
   generalize l.drop 20=l2 at *
   subst hsp
   have hp:(P++srtd bx A).length=P.length+20:=by rw [List.length_append,srtd_len,h1]
   obtain ⟨r,r1,r2⟩:=ih l2.length (by rw [List.length_append] at e; omega) (P++srtd bx A) l2 rfl (by rw [hn,hp,List.length_append]; omega) (by rw [List.length_append,hp]; rw [List.length_append] at hl'; omega) (by have hq:=ho; simp only [ok_app,ok_cons,ok_nil,ok_srtd,and_true,true_and] at hq ⊢; simp [hq])
   refine ⟨srtd bx A++r,.more A l2 r h1 r1,?_⟩
   have hi:=insertion_eq (bx:=bx) P A l2 (by simp only [List.length_append] at hl ⊢; omega) (by have hq:=ho; simp only [ok_app,ok_cons,ok_nil,ok_srtd,and_true,true_and] at hq ⊢; simp [hq])
   rw [h1] at hi
   rw [hp] at r2
   refine (loopO_inl ?_).trans (r2.trans (by simp only [List.append_assoc]))
   unfold slices_stableCmpFunc_int_v1_B3
   dsimp only
   rw [if_pos (d_t (by omega)),hi,ob_some,w64_id (by omega) (by omega),List.append_assoc]
   rfl
  ·refine ⟨srtd bx l,.last l (by omega),?_⟩
   have hi:=insertion_eq (bx:=bx) P l [] (by simpa using (by omega:P.length+l.length≤1000000000000)) (by rw [List.append_nil]; exact ho)
   simp only [List.append_nil] at hi
   have hB:slices_stableCmpFunc_int_v1_B3 num bx (P++l,(P.length:Int),((P.length+20:Nat):Int))=inrO (slices_stableCmpFunc_int_v1_L1 num bx (P++srtd bx l,20)):=by
    unfold slices_stableCmpFunc_int_v1_B3
    dsimp only
    rw [if_neg (d_f (by omega))]
    unfold slices_stableCmpFunc_int_v1_J1
    dsimp only
    rw [hn,hi,ob_some]
   unfold slices_stableCmpFunc_int_v1_L3
   rw [loopO_eq,hB]
   cases slices_stableCmpFunc_int_v1_L1 num bx (P++srtd bx l,20) <;> rfl
theorem second_pass (num:Int) (bs:Nat) (h0:0<bs) (h1:bs≤1000000000000) (z:List Int):∀ (n:Nat) (P l r:List Int),l.length=n→Chs bx bs l r→num=((P.length+l.length:Nat):Int)→(P++l).length≤500000000000→Ok bx (P++l)→
  ∃ r',Chs bx (2*bs) l r'∧slices_stableCmpFunc_int_v1_L2 num bx (z,(bs:Int)) (P++r,(P.length:Int),((P.length+2*bs:Nat):Int))=some (.inl (P++r',((2*bs:Nat):Int))):=by
 intro n
 have hw2:w64 (2*(bs:Int))=((2*bs:Nat):Int):=by rw [w64_id (by omega) (by omega)]; omega
 have hw3:w64 ((bs:Int)*2)=((2*bs:Nat):Int):=by rw [w64_id (by omega) (by omega)]; omega
 induction n using Nat.strongRecOn with
 | _ n ih=>
  intro P l r e hc hn hl ho
  have hl':=hl
  rw [List.length_append] at hl'
  have hwa:w64 ((P.length:Int)+(bs:Int))=((P.length+bs:Nat):Int):=by rw [w64_id (by omega) (by omega)]; omega
  by_cases c:2*bs≤l.length
  ·obtain ⟨A,l1,r1,rfl,rfl,hA,hc1⟩:=hc.two h0 (by omega)
   rw [List.length_append] at c e hl'
   obtain ⟨B,l2,r2,hl1,hr1,hB,hc2⟩:∃ B l2 r2,l1=B++l2∧r1=srtd bx B++r2∧B.length=bs∧Chs bx bs l2 r2:=by
    by_cases q:bs<l1.length
    ·exact hc1.two h0 q
    ·refine ⟨l1,[],[],by simp,by rw [hc1.short h0 (by omega)]; simp,by omega,?_⟩
     have:=Chs.last (bx:=bx) (bs:=bs) [] (by simp)
     rwa [srtd_nil] at this
   subst hl1 hr1
   rw [List.length_append] at c e hl'
   have hr2:=hc2.len
   have hs:=sym_eq (P:=P) (A:=srtd bx A) (B:=srtd bx B) (S:=r2) (List.length_pos_iff.1 (by rw [srtd_len]; omega)) (List.length_pos_iff.1 (by rw [srtd_len]; omega)) (srtd_srt A) (srtd_srt B) (by simp only [List.length_append,srtd_len]; omega) (by have hq:=ho; have hr:=hc2.ok; simp only [ok_app,ok_srtd] at hq ⊢; exact ⟨hq.1,hq.2.1,hq.2.2.1,hr hq.2.2.2⟩)
   rw [srtd_len,srtd_len,stab2,hA,hB] at hs
   have e2:P.length+bs+bs=P.length+2*bs:=by omega
   rw [e2] at hs
   have hp:(P++srtd bx (A++B)).length=P.length+2*bs:=by rw [List.length_append,srtd_len,List.length_append]; omega
   obtain ⟨r',k1,k2⟩:=ih l2.length (by omega) (P++srtd bx (A++B)) l2 r2 rfl hc2 (by rw [hn,hp]; simp only [List.length_append]; omega) (by rw [List.length_append,hp]; omega) (by have hq:=ho; simp only [ok_app,ok_cons,ok_nil,ok_srtd,and_true,true_and] at hq ⊢; simp [hq])
   refine ⟨srtd bx (A++B)++r',?_,?_⟩
   ·have:=Chs.more (bs:=2*bs) (A++B) l2 r' (by rw [List.length_append]; omega) k1
    rwa [List.append_assoc] at this
   ·rw [hp] at k2
    refine (loopO_inl ?_).trans (k2.trans (by simp only [List.append_assoc]))
    unfold slices_stableCmpFunc_int_v1_B2
    dsimp only
    rw [if_pos (d_t (by rw [hn]; simp only [List.length_append]; omega)),hwa,hs,ob_some,hw2,w64_id (by omega) (by omega),List.append_assoc]
    have:((P.length+2*bs:Nat):Int)+((2*bs:Nat):Int)=((P.length+2*bs+2*bs:Nat):Int):=by omega
    rw [this]
  ·refine ⟨srtd bx l,.last l (by omega),loopO_inr ?_⟩
   unfold slices_stableCmpFunc_int_v1_B2
   dsimp only
   rw [if_neg (d_f (by omega))]
   unfold slices_stableCmpFunc_int_v1_J3
   dsimp only
   rw [hwa,hw3]
   by_cases q:bs<l.length
   ·obtain ⟨A,l1,r1,rfl,rfl,hA,hc1⟩:=hc.two h0 q
    rw [List.length_append] at c q hl'
    have hr1:=hc1.short h0 (by omega)
    subst hr1
    have hs:=sym_eq (P:=P) (A:=srtd bx A) (B:=srtd bx l1) (S:=[]) (List.length_pos_iff.1 (by rw [srtd_len]; omega)) (List.length_pos_iff.1 (by rw [srtd_len]; omega)) (srtd_srt A) (srtd_srt l1) (by simp only [List.length_append,srtd_len,List.length_nil]; omega) (by have hq:=ho; simp only [ok_app,ok_cons,ok_nil,ok_srtd,and_true,true_and] at hq ⊢; simp [hq])
    rw [srtd_len,srtd_len,stab2,hA,List.append_nil,List.append_nil] at hs
    have e3:num=((P.length+bs+l1.length:Nat):Int):=by rw [hn,List.length_append]; omega
    rw [if_pos (d_t (by rw [e3]; omega)),e3,hs]; rfl
   ·rw [if_neg (d_f (by omega)),hc.short h0 (by omega)]; rfl
theorem all_passes (l:List Int) (hl:l.length≤500000000000) (ho:Ok bx l):∀ (n bs:Nat) (r:List Int),l.length - bs=n→0<bs→bs≤1000000000000→Chs bx bs l r→slices_stableCmpFunc_int_v1_L1 (l.length:Int) bx (r,(bs:Int))=some (srtd bx l):=by
 intro n
 induction n using Nat.strongRecOn with
 | _ n ih=>
  intro bs r e h0 h1 hc
  by_cases c:bs<l.length
  ·obtain ⟨r',k1,k2⟩:=second_pass (l.length:Int) bs h0 h1 r _ [] l r rfl hc (by simp) (by simpa using hl) (by simpa using ho)
   refine (loopO_inl ?_).trans (ih (l.length - 2*bs) (by omega) (2*bs) r' rfl (by omega) (by omega) k1)
   unfold slices_stableCmpFunc_int_v1_B1
   dsimp only
   have hw2:w64 (2*(bs:Int))=((2*bs:Nat):Int):=by rw [w64_id (by omega) (by omega)]; omega
   rw [if_pos (d_t (by omega)),hw2]
   simpa using k2
  ·refine loopO_inr ?_
   unfold slices_stableCmpFunc_int_v1_B1
   dsimp only
   rw [if_neg (d_f (by omega)),hc.short h0 (by omega)]; rfl
theorem stable_eq (l:List Int) (hl:l.length≤500000000000) (ho:Ok bx l):slices_SortStableFunc_int_int_v1 bx l=some (srtd bx l):=by
 unfold slices_SortStableFunc_int_int_v1 slices_stableCmpFunc_int_v1
 obtain ⟨r,k1,k2⟩:=first_pass (bx:=bx) (l.length:Int) _ [] l rfl (by simp) (by simpa using hl) (by simpa using ho)
 have:=all_passes l hl ho _ 20 r rfl (by omega) (by omega) k1
 have k2':slices_stableCmpFunc_int_v1_L3 (l.length:Int) bx (l,0,20)=slices_stableCmpFunc_int_v1_L1 (l.length:Int) bx (r,20):=k2
 rw [k2']
 have h20:((20:Nat):Int)=20:=rfl
 rw [h20] at this
 rw [this]; rfl
theorem stab_perm {l x:List Int} (h:Stab bx l x):x.Perm l:=by
 rw [List.perm_iff_count]
 intro a
 have:=congrArg (List.count a) (h a)
 unfold fk at this
 have e:∀ l:List Int,List.count a (List.filter (fun x=>decide (key bx a x)) l)=List.count a l:=fun l=>List.count_filter (p:=fun x=>decide (key bx a x)) (by simp [key_refl])
 rwa [e,e] at this
end So
theorem rlen (l:List Span):∀ n v b,look (sR l n).1 (sR l n).2 v=some b→b.reads.length≤n
 | 0,v,b,h=>by cases h
 | n+1,v,b,h=>by
  rw [sR] at h
  split at h
  ·rw [(put1_inv (f:=fR l n) (sR_inv l n) _ fun b=>rfl).2] at h
   split at h
   ·cases h
    show (_++[_]).length≤_
    rw [List.length_append,List.length_singleton]
    cases hb:look (sR l n).1 (sR l n).2 (val l n) with
    | none=>simp [newB]
    | some b=>have:=rlen l n _ b hb; simpa using this
   ·have:=rlen l n _ b h; omega
  ·have:=rlen l n _ b h; omega
theorem isR_b (l:List Span) (n:Nat):((!decide ((lget l (n:Int)).Kind=1))&&(decide (0≤(lget l (n:Int)).To)))=decide (isR l n):=b_iff (by unfold isR; simp)
theorem isW_b (l:List Span) (mp:List (Int×Nat)) (n:Nat):((decide ((lget l (n:Int)).Kind=1))&&((decide (0≤(lget l (n:Int)).To))||(!(!((mget mp ((lget l (n:Int)).Value)).isSome)))))=decide (isW l mp n):=
 b_iff (by unfold isW; simp)
theorem b2_step {l:List Span} (hl:l.length≤200) {k:Nat} (hk:k<l.length):history_bunches_B2 l ((sR l k).1,(k:Int),(sR l k).2)=some (.inl ((sR l (k+1)).1,((k+1:Nat):Int),(sR l (k+1)).2)):=by
 have hw:w64 ((k:Int)+1)=((k+1:Nat):Int):=by rw [w64_id (by omega) (by omega)]; omega
 unfold history_bunches_B2
 dsimp only
 rw [if_pos (d_t (by omega)),asrt_pos (by omega),isR_b,hw,sR]
 by_cases c:isR l k
 ·rw [if_pos (d_t c),if_pos c]
  obtain ⟨h1,h2,_⟩:=upd (sR_inv l k) (val l k)
  have hr:(lget (history_bunches_1 (val l k) (sR l k).1 (sR l k).2).2.2 ((history_bunches_1 (val l k) (sR l k).1 (sR l k).2).1:Int)).reads.length≤k:=by
   rw [h2]
   cases hb:look (sR l k).1 (sR l k).2 (val l k) with
   | none=>simp [newB]
   | some b=>exact rlen l k _ b hb
  unfold put1 fR
  generalize hq:history_bunches_1 (val l k) (sR l k).1 (sR l k).2=r at h1 h2 hr
  dsimp only [lt,val] at hq ⊢
  simp only [lget_set_self h1,lset_lset,lset_len]
  rw [asrt_pos (by omega),asrt_pos (by rw [List.length_append,List.length_singleton]; omega),asrt_pos (by omega),asrt_pos (by omega),asrt_pos (by omega),asrt_pos (by omega)]
  rfl
 ·rw [if_neg (d_f c),if_neg c]; rfl
theorem b1_step {l:List Span} (hl:l.length≤200) {k:Nat} (hk:k<l.length):history_bunches_B1 l ((sW l k).1,(k:Int),(sW l k).2)=some (.inl ((sW l (k+1)).1,((k+1:Nat):Int),(sW l (k+1)).2)):=by
 have hw:w64 ((k:Int)+1)=((k+1:Nat):Int):=by rw [w64_id (by omega) (by omega)]; omega
 unfold history_bunches_B1
 dsimp only
 rw [if_pos (d_t (by omega)),asrt_pos (by omega),isW_b,hw,sW]
 by_cases c:isW l (sW l k).1 k
 ·rw [if_pos (d_t c),if_pos c]
  obtain ⟨h1,h2,_⟩:=upd (sW_inv l k) (val l k)
  unfold put1 fW
  generalize hq:history_bunches_1 (val l k) (sW l k).1 (sW l k).2=r at h1 h2
  dsimp only [lt,val] at hq ⊢
  simp only [lget_set_self h1,lset_lset,lset_len]
  rw [asrt_pos (by omega),asrt_pos (by omega),asrt_pos (by omega),asrt_pos (by omega),asrt_pos (by omega)]
  rfl
 ·rw [if_neg (d_f c),if_neg c]; rfl
def zero1 (s:List (Int×Nat)×List bunch):List bunch:=match mget s.1 0 with
 | some k=>lset s.2 (k:Int) ⟨(lget s.2 (k:Int)).value,(lget s.2 (k:Int)).write,(lget s.2 (k:Int)).reads,-1,(lget s.2 (k:Int)).last⟩
 | none=>s.2
theorem zero1_inv {s:List (Int×Nat)×List bunch} (h:Inv s.1 s.2):Inv s.1 (zero1 s)∧∀ v,look s.1 (zero1 s) v=(look s.1 s.2 v).map fun b=>if v=0 then ⟨b.value,b.write,b.reads,-1,b.last⟩ else b:=by
 unfold zero1
 cases hm:mget s.1 0 with
 | none=>
  refine ⟨h,fun v=>?_⟩
  dsimp only
  unfold look
  cases hv:mget s.1 v with
  | none=>rfl
  | some j=>
   have:¬ v=0:=by rintro rfl; rw [hm] at hv; cases hv
   rw [Option.map_some,Option.map_some,if_neg this]
 | some k=>
  have hk:=(h.i1 0 k).1 hm
  dsimp only
  refine ⟨⟨fun w j=>?_,by rw [lset_len]; exact h.i2⟩,fun v=>?_⟩
  ·rw [h.i1,lset_len]
   by_cases e:k=j
   ·subst e
    rw [lget_set_self hk.1]
   ·rw [lget_set_ne e]
  ·unfold look
   cases hv:mget s.1 v with
   | none=>rfl
   | some j=>
    rw [Option.map_some,Option.map_some,Option.map_some]
    by_cases e:v=0
    ·subst e
     rw [hm] at hv; cases hv
     rw [lget_set_self hk.1,if_pos rfl]
    ·rw [if_neg e,lget_set_ne]
     rintro rfl
     exact e (((h.i1 v k).1 hv).2.symm.trans hk.2)
theorem inv_inj {mp:List (Int×Nat)} {ar:List bunch} (h:Inv mp ar) {j k:Nat} (hj:j<ar.length) (hk:k<ar.length) (e:(lget ar (j:Int)).value=(lget ar (k:Int)).value):j=k:=by
 have h1:=(h.i1 _ j).2 ⟨hj,rfl⟩
 have h2:=(h.i1 _ k).2 ⟨hk,rfl⟩
 rw [e,h2] at h1
 cases h1; rfl
theorem inv_nodup {mp:List (Int×Nat)} {ar:List bunch} (h:Inv mp ar):((List.range ar.length).map fun k:Nat=>(lget ar (k:Int)).value).Nodup:=
 List.pairwise_map.2 (List.nodup_range.imp_of_mem fun ha hb hne e=>hne (inv_inj h (List.mem_range.1 ha) (List.mem_range.1 hb) e))
theorem inv_look {mp:List (Int×Nat)} {ar:List bunch} (h:Inv mp ar) (v:Int) (b:bunch):look mp ar v=some b↔∃ k,k<ar.length∧lget ar (k:Int)=b∧b.value=v:=by
 unfold look
 rw [Option.map_eq_some_iff]
 constructor
 ·rintro ⟨k,h1,rfl⟩
  obtain ⟨a,b⟩:=(h.i1 v k).1 h1
  exact ⟨k,a,rfl,b⟩
 ·rintro ⟨k,a,rfl,b⟩
  exact ⟨k,(h.i1 v k).2 ⟨a,b⟩,rfl⟩
theorem j2_eq {s:List (Int×Nat)×List bunch} (h:Inv s.1 s.2) (hn:s.2.length≤400):∃ zs,history_bunches_J2 s=some (zs,zero1 s)∧zs.Perm (List.range (zero1 s).length)∧
  zs.Pairwise (fun x y:Nat=>(lget (zero1 s) (x:Int)).value<(lget (zero1 s) (y:Int)).value):=by
 have hz:=zero1_inv h
 have hlen:(zero1 s).length=s.2.length:=by
  unfold zero1
  split
  ·exact lset_len _ _ _
  ·rfl
 have e1:history_bunches_J2 s=asrt ((∀ k∈(s.1.map (fun p=>p.2)),k<(zero1 s).length)∧(s.1.map (fun p=>p.2)).length*8≤140737488351232) (ob (slices_SortFunc_history_bunch_history_bunch (s.1.map (fun p=>p.2)) (zero1 s)) fun x=>some (x,zero1 s)):=by
  unfold history_bunches_J2 zero1
  cases hm:mget s.1 0 with
  | none=>rw [if_neg (by simp)]; rfl
  | some k=>
   have hk:=(h.i1 0 k).1 hm
   rw [if_pos (by simp),asrt_pos (by rfl)]
   simp only [Option.getD_some]
   rw [asrt_pos (by omega)]; rfl
 rw [e1,hz.1.i2,asrt_pos ⟨fun k hk=>List.mem_range.1 hk,by rw [List.length_range]; omega⟩]
 have e2:slices_SortFunc_history_bunch_history_bunch (List.range (zero1 s).length) (zero1 s)=some ((List.range (zero1 s).length).mergeSort fun x y:Nat=>decide ((lget (zero1 s) (x:Int)).value≤(lget (zero1 s) (y:Int)).value)):=
  asrt_pos ⟨fun k hk=>List.mem_range.1 hk,inv_nodup hz.1,by rw [List.length_range]; omega⟩ _
 obtain ⟨a,b,_,_⟩:=sortZ_spec e2
 exact ⟨_,by rw [e2]; rfl,a,b⟩
theorem sR_len (l:List Span):∀ n,(sR l n).2.length≤n
 | 0=>Nat.zero_le _
 | n+1=>by
  have:=sR_len l n
  rw [sR]
  split
  ·show (lset _ _ _).length≤_
   rw [lset_len]
   cases hm:mget (sR l n).1 (val l n) with
   | none=>rw [at_new _ hm,List.length_append]; simp; omega
   | some k=>rw [at_old _ hm]; show (sR l n).2.length≤_; omega
  ·omega
theorem sW_len (l:List Span):∀ n,(sW l n).2.length≤l.length+n
 | 0=>sR_len l _
 | n+1=>by
  have:=sW_len l n
  rw [sW]
  split
  ·show (lset _ _ _).length≤_
   rw [lset_len]
   cases hm:mget (sW l n).1 (val l n) with
   | none=>rw [at_new _ hm,List.length_append]; simp; omega
   | some k=>rw [at_old _ hm]; show (sW l n).2.length≤_; omega
  ·omega
theorem bunches_eq {l:List Span} (hl:l.length≤200):∃ zs,history_bunches l []=some (zs,zero1 (sW l l.length))∧zs.Perm (List.range (zero1 (sW l l.length)).length)∧
  zs.Pairwise (fun x y:Nat=>(lget (zero1 (sW l l.length)) (x:Int)).value<(lget (zero1 (sW l l.length)) (y:Int)).value):=by
 obtain ⟨zs,h1,h2,h3⟩:=j2_eq (sW_inv l l.length) (by have:=sW_len l l.length; omega)
 refine ⟨zs,?_,h2,h3⟩
 unfold history_bunches history_bunches_L2
 refine loop_run (step:=fun y=>history_bunches_B2 l y) l.length (fun k=>((sR l k).1,(k:Int),(sR l k).2)) (fun k hk=>b2_step hl hk) ?_
 show history_bunches_B2 l ((sR l l.length).1,(l.length:Int),(sR l l.length).2)=_
 unfold history_bunches_B2
 rw [if_neg (d_f (by simp))]
 unfold history_bunches_J1 history_bunches_L1
 have e:loopO (fun y=>history_bunches_B1 l y) ((sR l l.length).1,(0:Int),(sR l l.length).2)=some (zs,zero1 (sW l l.length)):=by
  refine loop_run (step:=fun y=>history_bunches_B1 l y) l.length (fun k=>((sW l k).1,(k:Int),(sW l k).2)) (fun k hk=>b1_step hl hk) ?_
  show history_bunches_B1 l ((sW l l.length).1,(l.length:Int),(sW l l.length).2)=_
  unfold history_bunches_B1
  rw [if_neg (d_f (by simp))]
  show inrO (history_bunches_J2 (sW l l.length))=_
  rw [h1]; rfl
 show inrO (loopO (fun y=>history_bunches_B1 l y) ((sR l l.length).1,(0:Int),(sR l l.length).2))=_
 rw [e]; rfl
abbrev too (l:List Span) (n:Nat):Int:=(lget l (n:Int)).To
abbrev frm0 (l:List Span) (n:Nat):Int:=(lget l (n:Int)).From
abbrev knd (l:List Span) (n:Nat):Int:=(lget l (n:Int)).Kind
def MinOf (P:Nat→Prop) (f:Nat→Int) (x:Int):Prop:=(∃ i,P i∧x=f i)∧∀ i,P i→x≤f i
def MaxOf (P:Nat→Prop) (f:Nat→Int) (x:Int):Prop:=(∃ i,P i∧x=f i)∧∀ i,P i→f i≤x
theorem MinOf.uniq {P:Nat→Prop} {f:Nat→Int} {x y:Int} (h1:MinOf P f x) (h2:MinOf P f y):x=y:=by
 obtain ⟨⟨i,a,b⟩,c⟩:=h1
 obtain ⟨⟨j,d,e⟩,g⟩:=h2
 have:=c j d
 have:=g i a
 omega
theorem MaxOf.uniq {P:Nat→Prop} {f:Nat→Int} {x y:Int} (h1:MaxOf P f x) (h2:MaxOf P f y):x=y:=by
 obtain ⟨⟨i,a,b⟩,c⟩:=h1
 obtain ⟨⟨j,d,e⟩,g⟩:=h2
 have:=c j d
 have:=g i a
 omega
theorem MinOf.ins {P Q:Nat→Prop} {f:Nat→Int} {x:Int} {n:Nat} (h:MinOf P f x) (hq:∀ i,Q i↔P i∨i=n):MinOf Q f (min x (f n)):=by
 obtain ⟨⟨i,a,b⟩,c⟩:=h
 refine ⟨?_,fun j hj=>?_⟩
 ·by_cases e:x≤f n
  ·exact ⟨i,(hq i).2 (.inl a),by omega⟩
  ·exact ⟨n,(hq n).2 (.inr rfl),by omega⟩
 ·rcases (hq j).1 hj with q | q
  ·have:=c j q; omega
  ·subst q; omega
theorem MaxOf.ins {P Q:Nat→Prop} {f:Nat→Int} {x:Int} {n:Nat} (h:MaxOf P f x) (hq:∀ i,Q i↔P i∨i=n):MaxOf Q f (max x (f n)):=by
 obtain ⟨⟨i,a,b⟩,c⟩:=h
 refine ⟨?_,fun j hj=>?_⟩
 ·by_cases e:f n≤x
  ·exact ⟨i,(hq i).2 (.inl a),by omega⟩
  ·exact ⟨n,(hq n).2 (.inr rfl),by omega⟩
 ·rcases (hq j).1 hj with q | q
  ·have:=c j q; omega
  ·subst q; omega
theorem MinOf.of {P Q:Nat→Prop} {f:Nat→Int} {x:Int} (h:MinOf P f x) (hq:∀ i,Q i↔P i):MinOf Q f x:=by
 obtain ⟨⟨i,a,b⟩,c⟩:=h
 exact ⟨⟨i,(hq i).2 a,b⟩,fun j hj=>c j ((hq j).1 hj)⟩
theorem MaxOf.of {P Q:Nat→Prop} {f:Nat→Int} {x:Int} (h:MaxOf P f x) (hq:∀ i,Q i↔P i):MaxOf Q f x:=by
 obtain ⟨⟨i,a,b⟩,c⟩:=h
 exact ⟨⟨i,(hq i).2 a,b⟩,fun j hj=>c j ((hq j).1 hj)⟩
theorem MinOf.one {Q:Nat→Prop} {f:Nat→Int} {n:Nat} (hq:∀ i,Q i↔i=n):MinOf Q f (f n):=⟨⟨n,(hq n).2 rfl,rfl⟩,fun j hj=>by rw [(hq j).1 hj]; exact Int.le_refl _⟩
theorem MaxOf.one {Q:Nat→Prop} {f:Nat→Int} {n:Nat} (hq:∀ i,Q i↔i=n):MaxOf Q f (f n):=⟨⟨n,(hq n).2 rfl,rfl⟩,fun j hj=>by rw [(hq j).1 hj]; exact Int.le_refl _⟩
def rdv (l:List Span) (v:Int) (i:Nat):Prop:=isR l i∧val l i=v
instance (l:List Span) (v:Int) (i:Nat):Decidable (rdv l v i):=by unfold rdv; infer_instance
def rds (l:List Span) (n:Nat) (v:Int):List Int:=((List.range n).filter fun i=>decide (rdv l v i)).map fun i:Nat=>(i:Int)
theorem rds_succ (l:List Span) (n:Nat) (v:Int):rds l (n+1) v=if rdv l v n then rds l n v++[(n:Int)] else rds l n v:=by
 unfold rds
 rw [List.range_succ,List.filter_append,List.map_append]
 by_cases c:rdv l v n <;> simp [c]
theorem rds_nil {l:List Span} {n:Nat} {v:Int} (h:∀ i,i<n→¬ rdv l v i):rds l n v=[]:=by
 unfold rds
 rw [List.filter_eq_nil_iff.2 (fun i hi=>by have:=h i (List.mem_range.1 hi); simpa using this)]; rfl
structure SR (l:List Span) (n:Nat) (v:Int) (o:Option bunch):Prop where
 no:o=none→∀ i,i<n→¬ rdv l v i
 wr:∀ b,o=some b→b.write = -1
 rd:∀ b,o=some b→b.reads=rds l n v
 fi:∀ b,o=some b→MinOf (fun i=>i<n∧rdv l v i) (too l) b.first
 la:∀ b,o=some b→MaxOf (fun i=>i<n∧rdv l v i) (frm0 l) b.last
theorem good_rng {l:List Span} (hg:Good l) {k:Nat} (hk:k<l.length):0≤frm0 l k∧too l k≤1000000000∧(0≤too l k∨too l k = -1):=by
 have:=hg.rng k hk
 unfold rngBad at this
 dsimp only [frm0,too]
 omega
theorem sR_spec {l:List Span} (hg:Good l):∀ n,n≤l.length→∀ v,SR l n v (look (sR l n).1 (sR l n).2 v)
 | 0,_,v=>⟨fun _ i hi=>by omega,(fun b h=>nomatch h),(fun b h=>nomatch h),(fun b h=>nomatch h),(fun b h=>nomatch h)⟩
 | n+1,hn,v=>by
  have ih:=sR_spec hg n (by omega)
  have hr:=good_rng hg (k:=n) (by omega)
  rw [sR]
  by_cases c:isR l n
  ·rw [if_pos c]
   have hv:=(put1_inv (f:=fR l n) (sR_inv l n) (val l n) fun b=>rfl).2 v
   rw [hv]
   by_cases e:v=val l n
   ·rw [if_pos e]
    have hrd:rdv l v n:=⟨c,e.symm⟩
    have hiff:∀ i,(i<n+1∧rdv l v i)↔(i<n∧rdv l v i)∨i=n:=fun i=>by
     constructor
     ·rintro ⟨h1,h2⟩
      by_cases q:i=n
      ·exact .inr q
      ·exact .inl ⟨by omega,h2⟩
     ·rintro (⟨h1,h2⟩ | rfl)
      ·exact ⟨by omega,h2⟩
      ·exact ⟨by omega,hrd⟩
    have ihv:=ih v
    rw [← e]
    cases hb:look (sR l n).1 (sR l n).2 v with
    | none=>
     rw [hb] at ihv
     have hno:=ihv.no rfl
     have hone:∀ i,(i<n+1∧rdv l v i)↔i=n:=fun i=>by
      rw [hiff]
      exact ⟨fun h=>h.elim (fun h=>absurd h.2 (hno i h.1)) id,.inr⟩
     have e1:min (1000000001:Int) (too l n)=too l n:=by omega
     have e2:max (-1:Int) (frm0 l n)=frm0 l n:=by omega
     refine ⟨(fun h=>nomatch h),fun b h=>?_,fun b h=>?_,fun b h=>?_,fun b h=>?_⟩
     all_goals cases h
     ·rfl
     ·show []++[(n:Int)]=_
      rw [rds_succ,if_pos hrd,rds_nil hno]
     ·show MinOf _ _ (min (1000000001:Int) (too l n))
      rw [e1]; exact MinOf.one hone
     ·show MaxOf _ _ (max (-1:Int) (frm0 l n))
      rw [e2]; exact MaxOf.one hone
    | some b0=>
     rw [hb] at ihv
     refine ⟨(fun h=>nomatch h),fun b h=>?_,fun b h=>?_,fun b h=>?_,fun b h=>?_⟩
     all_goals cases h
     ·exact ihv.wr b0 rfl
     ·show b0.reads++[(n:Int)]=_
      rw [rds_succ,if_pos hrd,ihv.rd b0 rfl]
     ·exact (ihv.fi b0 rfl).ins hiff
     ·exact (ihv.la b0 rfl).ins hiff
   ·rw [if_neg e]
    have hrd:¬ rdv l v n:=fun h=>e h.2.symm
    have hiff:∀ i,(i<n+1∧rdv l v i)↔(i<n∧rdv l v i):=fun i=>
     ⟨fun ⟨h1,h2⟩=>⟨(if q:i=n then absurd (q ▸ h2) hrd else (by omega)),h2⟩,fun ⟨h1,h2⟩=>⟨by omega,h2⟩⟩
    have ihv:=ih v
    exact ⟨fun h i hi hh=>ihv.no h i ((hiff i).1 ⟨hi,hh⟩).1 hh,ihv.wr,fun b h=>by rw [rds_succ,if_neg hrd]; exact ihv.rd b h,fun b h=>(ihv.fi b h).of hiff,fun b h=>(ihv.la b h).of hiff⟩
  ·rw [if_neg c]
   have hrd:¬ rdv l v n:=fun h=>c h.1
   have hiff:∀ i,(i<n+1∧rdv l v i)↔(i<n∧rdv l v i):=fun i=>
    ⟨fun ⟨h1,h2⟩=>⟨(if q:i=n then absurd (q ▸ h2) hrd else (by omega)),h2⟩,fun ⟨h1,h2⟩=>⟨by omega,h2⟩⟩
   have ihv:=ih v
   exact ⟨fun h i hi hh=>ihv.no h i ((hiff i).1 ⟨hi,hh⟩).1 hh,ihv.wr,fun b h=>by rw [rds_succ,if_neg hrd]; exact ihv.rd b h,fun b h=>(ihv.fi b h).of hiff,fun b h=>(ihv.la b h).of hiff⟩
def cn (l:List Span) (n:Nat) (v:Int) (i:Nat):Prop:=i<l.length∧(rdv l v i∨(i<n∧knd l i=1∧val l i=v∧(0≤too l i∨∃ k,k<l.length∧rdv l v k)))
structure SW (l:List Span) (n:Nat) (v:Int) (o:Option bunch):Prop where
 no:o=none→∀ i,¬ cn l n v i
 wr:∀ b,o=some b→(b.write = -1∧∀ i,i<n→¬ (knd l i=1∧val l i=v))∨∃ i:Nat,i<n∧knd l i=1∧val l i=v∧b.write=i
 rd:∀ b,o=some b→b.reads=rds l l.length v
 fi:∀ b,o=some b→MinOf (fun i=>cn l n v i∧0≤too l i) (too l) b.first
 la:∀ b,o=some b→MaxOf (cn l n v) (frm0 l) b.last
theorem rdv_too {l:List Span} {v:Int} {i:Nat} (h:rdv l v i):0≤too l i:=h.1.2
theorem sW_spec {l:List Span} (hg:Good l):∀ n,n≤l.length→∀ v,SW l n v (look (sW l n).1 (sW l n).2 v)
 | 0,_,v=>by
  have h:=sR_spec hg l.length (Nat.le_refl _) v
  have hiff:∀ i,cn l 0 v i↔(i<l.length∧rdv l v i):=fun i=>by unfold cn; simp
  have hiff2:∀ i,(cn l 0 v i∧0≤too l i)↔(i<l.length∧rdv l v i):=fun i=>by
   rw [hiff]; exact ⟨fun h=>h.1,fun h=>⟨h,rdv_too h.2⟩⟩
  exact ⟨fun q i hi=>h.no q i ((hiff i).1 hi).1 ((hiff i).1 hi).2,fun b hb=>.inl ⟨h.wr b hb,fun i hi=>by omega⟩,h.rd,fun b hb=>(h.fi b hb).of hiff2,fun b hb=>(h.la b hb).of hiff⟩
 | n+1,hn,v=>by
  have ih:=sW_spec hg n (by omega)
  have hr:=good_rng hg (k:=n) (by omega)
  have ihv:=ih v
  have other:¬ (knd l n=1∧val l n=v)→SW l (n+1) v (look (sW l n).1 (sW l n).2 v):=fun hne=>by
   have hiff:∀ i,cn l (n+1) v i↔cn l n v i:=fun i=>by
    unfold cn
    constructor
    ·rintro ⟨h0,h | ⟨h1,h2,h3,h4⟩⟩
     ·exact ⟨h0,.inl h⟩
     ·refine ⟨h0,.inr ⟨?_,h2,h3,h4⟩⟩
      by_cases q:i=n
      ·subst q; exact absurd ⟨h2,h3⟩ hne
      ·omega
    ·rintro ⟨h0,h | ⟨h1,h2,h3,h4⟩⟩
     ·exact ⟨h0,.inl h⟩
     ·exact ⟨h0,.inr ⟨by omega,h2,h3,h4⟩⟩
   refine ⟨fun q i hi=>ihv.no q i ((hiff i).1 hi),fun b hb=>?_,ihv.rd,fun b hb=>(ihv.fi b hb).of fun i=>by rw [hiff],fun b hb=>(ihv.la b hb).of hiff⟩
   rcases ihv.wr b hb with ⟨h1,h2⟩ | ⟨i,h1,h2⟩
   ·refine .inl ⟨h1,fun i hi hh=>?_⟩
    by_cases q:i=n
    ·subst q; exact hne hh
    ·exact h2 i (by omega) hh
   ·exact .inr ⟨i,by omega,h2⟩
  have hcn:∀ j,cn l n v j→knd l n=1→val l n=v→rdv l v j∧j<l.length:=fun j hj h1 h2=>by
   rcases hj with ⟨h0,h | ⟨h3,h4,h5,_⟩⟩
   ·exact ⟨h,h0⟩
   ·have:=hg.one j n h0 (by omega) h4 h1 (h5.trans h2.symm)
    omega
  rw [sW]
  by_cases c:isW l (sW l n).1 n
  ·rw [if_pos c]
   have hv:=(put1_inv (f:=fW l n) (sW_inv l n) (val l n) fun b=>rfl).2 v
   rw [hv]
   by_cases e:v=val l n
   ·rw [if_pos e,← e]
    have hk:knd l n=1:=c.1
    have huniq:∀ i,i<n→¬ (knd l i=1∧val l i=v):=fun i hi hh=>by
     have:=hg.one i n (by omega) (by omega) hh.1 hk (hh.2.trans e)
     omega
    cases hb:look (sW l n).1 (sW l n).2 v with
    | none=>
     rw [hb] at ihv
     have hno:=ihv.no rfl
     have hnr:∀ k,k<l.length→¬ rdv l v k:=fun k hk h=>hno k ⟨hk,.inl h⟩
     have ht:0≤too l n:=by
      rcases c.2 with h | h
      ·exact h
      ·exfalso
       unfold look at hb
       rw [← e] at h
       cases hm:mget (sW l n).1 v with
       | none=>rw [hm] at h; cases h
       | some k=>rw [hm] at hb; cases hb
     have hone:∀ i,cn l (n+1) v i↔i=n:=fun i=>by
      constructor
      ·rintro ⟨h0,h | ⟨h1,h2,h3,h4⟩⟩
       ·exact absurd h (hnr i h0)
       ·by_cases q:i=n
        ·exact q
        ·exact absurd ⟨h2,h3⟩ (huniq i (by omega))
      ·rintro rfl
       exact ⟨by omega,.inr ⟨by omega,hk,e.symm,.inl ht⟩⟩
     have hone2:∀ i,(cn l (n+1) v i∧0≤too l i)↔i=n:=fun i=>by
      rw [hone]
      exact ⟨fun h=>h.1,fun h=>⟨h,by rw [h]; exact ht⟩⟩
     have he:history_end (lget l (n:Int))=too l n:=by unfold history_end; rw [if_neg (d_f (by show ¬ too l n<0; omega))]
     have e1:min (1000000001:Int) (too l n)=too l n:=by omega
     have e2:max (-1:Int) (frm0 l n)=frm0 l n:=by omega
     refine ⟨(fun h=>nomatch h),fun b h=>?_,fun b h=>?_,fun b h=>?_,fun b h=>?_⟩
     all_goals cases h
     ·exact .inr ⟨n,by omega,hk,e.symm,rfl⟩
     ·exact (rds_nil hnr).symm
     ·show MinOf _ _ (min (1000000001:Int) (history_end (lget l (n:Int))))
      rw [he,e1]; exact MinOf.one hone2
     ·show MaxOf _ _ (max (-1:Int) (frm0 l n))
      rw [e2]; exact MaxOf.one hone
    | some b0=>
     rw [hb] at ihv
     obtain ⟨⟨j,hj,_⟩,_⟩:=ihv.la b0 rfl
     have hrd:=hcn j hj hk e.symm
     have hiff:∀ i,cn l (n+1) v i↔cn l n v i∨i=n:=fun i=>by
      constructor
      ·rintro ⟨h0,h | ⟨h1,h2,h3,h4⟩⟩
       ·exact .inl ⟨h0,.inl h⟩
       ·by_cases q:i=n
        ·exact .inr q
        ·exact absurd ⟨h2,h3⟩ (huniq i (by omega))
      ·rintro (⟨h0,h | ⟨h1,h2,h3,h4⟩⟩ | rfl)
       ·exact ⟨h0,.inl h⟩
       ·exact ⟨h0,.inr ⟨by omega,h2,h3,h4⟩⟩
       ·exact ⟨by omega,.inr ⟨by omega,hk,e.symm,.inr ⟨j,hrd.2,hrd.1⟩⟩⟩
     refine ⟨(fun h=>nomatch h),fun b h=>?_,fun b h=>?_,fun b h=>?_,fun b h=>?_⟩
     all_goals cases h
     ·exact .inr ⟨n,by omega,hk,e.symm,rfl⟩
     ·exact ihv.rd b0 rfl
     ·show MinOf _ _ (min b0.first (history_end (lget l (n:Int))))
      have hf:=ihv.fi b0 rfl
      rcases hr.2.2 with ht | ht
      ·have he:history_end (lget l (n:Int))=too l n:=by unfold history_end; rw [if_neg (d_f (by show ¬ too l n<0; omega))]
       rw [he]
       refine hf.ins fun i=>?_
       rw [hiff]
       constructor
       ·rintro ⟨h1 | h1,h2⟩
        ·exact .inl ⟨h1,h2⟩
        ·exact .inr h1
       ·rintro (⟨h1,h2⟩ | h1)
        ·exact ⟨.inl h1,h2⟩
        ·exact ⟨.inr h1,by rw [h1]; exact ht⟩
      ·have he:history_end (lget l (n:Int))=1000000001:=by unfold history_end; rw [if_pos (d_t (by show too l n<0; omega))]
       obtain ⟨i,⟨hi,_⟩,e3⟩:=hf.1
       have:=good_rng hg (k:=i) hi.1
       rw [he]
       have e4:min b0.first 1000000001=b0.first:=by omega
       rw [e4]
       refine hf.of fun i=>?_
       rw [hiff]
       constructor
       ·rintro ⟨h1 | h1,h2⟩
        ·exact ⟨h1,h2⟩
        ·subst h1; omega
       ·rintro ⟨h1,h2⟩
        exact ⟨.inl h1,h2⟩
     ·exact (ihv.la b0 rfl).ins hiff
   ·rw [if_neg e]
    exact other fun h=>e h.2.symm
  ·rw [if_neg c]
   by_cases hk:knd l n=1∧val l n=v
   ·
    have hb:look (sW l n).1 (sW l n).2 v=none:=by
     cases hb:look (sW l n).1 (sW l n).2 v with
     | none=>rfl
     | some b=>
      exfalso
      refine c ⟨hk.1,.inr ?_⟩
      rw [hk.2]
      unfold look at hb
      cases hm:mget (sW l n).1 v with
      | none=>rw [hm] at hb; cases hb
      | some k=>rfl
    have ht:¬ 0≤too l n:=fun h=>c ⟨hk.1,.inl h⟩
    rw [hb] at ihv ⊢
    have hno:=ihv.no rfl
    refine ⟨fun _ i hi=>?_,(fun b h=>nomatch h),(fun b h=>nomatch h),(fun b h=>nomatch h),(fun b h=>nomatch h)⟩
    rcases hi with ⟨h0,h | ⟨h1,h2,h3,h4⟩⟩
    ·exact hno i ⟨h0,.inl h⟩
    ·by_cases q:i=n
     ·subst q
      rcases h4 with h4 | ⟨k,h5,h6⟩
      ·exact ht h4
      ·exact hno k ⟨h5,.inl h6⟩
     ·exact hno i ⟨h0,.inr ⟨by omega,h2,h3,h4⟩⟩
   ·exact other hk
def cnt (l:List Span) (v:Int) (i:Nat):Prop:=cn l l.length v i
structure BOk (l:List Span) (b:bunch):Prop where
 wr:(b.write = -1∧∀ i,i<l.length→¬ (knd l i=1∧val l i=b.value))∨∃ i:Nat,i<l.length∧knd l i=1∧val l i=b.value∧b.write=i
 rd:b.reads=rds l l.length b.value
 fi:(b.value=0∧b.first = -1)∨(b.value≠0∧MinOf (fun i=>cnt l b.value i∧0≤too l i) (too l) b.first)
 la:MaxOf (cnt l b.value) (frm0 l) b.last
def BB (l:List Span):List bunch:=zero1 (sW l l.length)
theorem bb_ok {l:List Span} (hg:Good l):∀ k:Nat,k<(BB l).length→BOk l (lget (BB l) (k:Int)):=fun k hk=>by
 have hi:=zero1_inv (sW_inv l l.length)
 have h1:=(inv_look hi.1 _ (lget (BB l) (k:Int))).2 ⟨k,hk,rfl,rfl⟩
 rw [hi.2,Option.map_eq_some_iff] at h1
 obtain ⟨b,h2,h3⟩:=h1
 have hs:=sW_spec hg l.length (Nat.le_refl _) (lget (BB l) (k:Int)).value
 rw [h2] at hs
 by_cases e:(lget (BB l) (k:Int)).value=0
 ·rw [if_pos e] at h3
  have hv:=look_value (sW_inv l l.length) h2
  rw [← h3] at hs ⊢
  exact ⟨hs.wr b rfl,hs.rd b rfl,.inl ⟨hv.trans e,rfl⟩,hs.la b rfl⟩
 ·rw [if_neg e] at h3
  have hv:=look_value (sW_inv l l.length) h2
  rw [h3] at hs
  exact ⟨hs.wr _ rfl,hs.rd _ rfl,.inr ⟨e,hs.fi _ rfl⟩,hs.la _ rfl⟩
theorem bb_has {l:List Span} (hg:Good l) (v:Int):(∃ i,cnt l v i)↔∃ k:Nat,k<(BB l).length∧(lget (BB l) (k:Int)).value=v:=by
 have hi:=zero1_inv (sW_inv l l.length)
 have hs:=sW_spec hg l.length (Nat.le_refl _) v
 constructor
 ·rintro ⟨i,h⟩
  cases hb:look (sW l l.length).1 (sW l l.length).2 v with
  | none=>rw [hb] at hs; exact absurd h (hs.no rfl i)
  | some b=>
   have h1:=hi.2 v
   rw [hb,Option.map_some] at h1
   obtain ⟨k,a,_,c⟩:=(inv_look hi.1 v _).1 h1
   refine ⟨k,a,?_⟩
   rw [show lget (BB l) (k:Int)=_ from (by assumption)]; exact c
 ·rintro ⟨k,hk,e⟩
  have h:=(bb_ok hg k hk).la.1
  obtain ⟨i,h1,_⟩:=h
  rw [e] at h1
  exact ⟨i,h1⟩
theorem bb_inj {l:List Span} {j k:Nat} (hj:j<(BB l).length) (hk:k<(BB l).length) (e:(lget (BB l) (j:Int)).value=(lget (BB l) (k:Int)).value):j=k:=inv_inj (zero1_inv (sW_inv l l.length)).1 hj hk e
def rdK (l:List Span) (v:Int) (k:Nat):Prop:=knd l k=2∧val l k=v∧0≤too l k
instance (l:List Span) (v:Int) (k:Nat):Decidable (rdK l v k):=by unfold rdK; infer_instance
noncomputable def rdB (l:List Span) (v:Int) (n:Nat):Bool:=@decide (∃ j,j<n∧rdK l v j) (Classical.propDecidable _)
theorem rdB_iff (l:List Span) (v:Int) (n:Nat):rdB l v n=true↔∃ j,j<n∧rdK l v j:=@decide_eq_true_iff _ (Classical.propDecidable _)
theorem rdK_iff {l:List Span} (hg:Good l) {k:Nat} (hk:k<l.length) (v:Int):rdK l v k↔rdv l v k:=by
 have:=hg.kind k hk
 unfold rdK rdv isR
 dsimp only [knd,too,val]
 omega
def cI (l:List Span) (i:Nat):Prop:=0≤too l i∨(knd l i=1∧∃ k,k<l.length∧rdK l (val l i) k)
noncomputable instance (l:List Span) (i:Nat):Decidable (cI l i):=Classical.propDecidable _
theorem cnt_iff {l:List Span} (hg:Good l) (v:Int) (i:Nat):cnt l v i↔i<l.length∧val l i=v∧cI l i:=by
 unfold cnt cn cI
 constructor
 ·rintro ⟨h0,h | ⟨h1,h2,h3,h4⟩⟩
  ·exact ⟨h0,h.2,.inl (rdv_too h)⟩
  ·refine ⟨h0,h3,?_⟩
   rcases h4 with h4 | ⟨k,h5,h6⟩
   ·exact .inl h4
   ·exact .inr ⟨h2,k,h5,by rw [h3]; exact (rdK_iff hg h5 v).2 h6⟩
 ·rintro ⟨h0,h1,h2⟩
  refine ⟨h0,?_⟩
  by_cases hk:knd l i=1
  ·refine .inr ⟨h0,hk,h1,?_⟩
   rcases h2 with h2 | ⟨_,k,h5,h6⟩
   ·exact .inl h2
   ·exact .inr ⟨k,h5,by rw [h1] at h6; exact (rdK_iff hg h5 v).1 h6⟩
  ·rcases h2 with h2 | h2
   ·exact .inl ⟨⟨hk,h2⟩,h1⟩
   ·exact absurd h2.1 hk
noncomputable def cl (l:List Span) (n:Nat):List Int:=((List.range n).filter fun i=>decide (cI l i)).map fun i:Nat=>(i:Int)
theorem cl_succ (l:List Span) (n:Nat):cl l (n+1)=if cI l n then cl l n++[(n:Int)] else cl l n:=by
 unfold cl
 rw [List.range_succ,List.filter_append,List.map_append]
 by_cases c:cI l n <;> simp [c]
theorem cl_len (l:List Span) (n:Nat):(cl l n).length≤n:=by
 unfold cl
 rw [List.length_map]
 have:=List.length_filter_le (fun i=>decide (cI l i)) (List.range n)
 simpa using this
theorem mem_cl {l:List Span} {n:Nat} {z:Int}:z∈cl l n↔∃ i:Nat,i<n∧cI l i∧z=i:=by
 unfold cl
 simp only [List.mem_map,List.mem_filter,List.mem_range,decide_eq_true_eq]
 exact ⟨fun ⟨i,⟨a,b⟩,c⟩=>⟨i,a,b,c.symm⟩,fun ⟨i,a,b,c⟩=>⟨i,⟨a,b⟩,c.symm⟩⟩
theorem counting_eq {l:List Span} (hl:l.length≤400):R_Counting l=some (cl l l.length):=by
 unfold R_Counting R_Counting_L1
 refine loop_run (step:=fun y=>R_Counting_B1 l y) l.length (fun k=>(cl l k,(k:Int))) (fun k hk=>?_) ?_
 ·have hw:w64 ((k:Int)+1)=((k+1:Nat):Int):=by rw [w64_id (by omega) (by omega)]; omega
  show R_Counting_B1 l (cl l k,(k:Int))=_
  unfold R_Counting_B1 R_Counting_L2
  rw [if_pos (d_t (by show (k:Int)<_; omega))]
  have h:loopO (fun y=>R_Counting_B2 l (cl l k,(k:Int)) y) (rdB l (val l k) 0,((0:Nat):Int))=some (.inl (cl l (k+1),((k+1:Nat):Int))):=by
   refine loop_run (step:=fun y=>R_Counting_B2 l (cl l k,(k:Int)) y) l.length (fun j=>(rdB l (val l k) j,(j:Int))) (fun j hj=>?_) ?_
   ·have hw2:w64 ((j:Int)+1)=((j+1:Nat):Int):=by rw [w64_id (by omega) (by omega)]; omega
    show R_Counting_B2 l (cl l k,(k:Int)) (_,(j:Int))=_
    unfold R_Counting_B2
    dsimp only
    rw [if_pos (d_t (by omega)),asrt_pos (fun _=>by omega),asrt_pos (fun _ _=>by omega),asrt_pos (fun _ _=>by omega),asrt_pos (fun _ _=>by omega),hw2]
    show some (Sum.inl (_,_))=_
    have e:(rdB l (val l k) j||(((decide ((lget l (j:Int)).Kind=2))&&(decide ((lget l (j:Int)).Value=(lget l (k:Int)).Value)))&&(decide (0≤(lget l (j:Int)).To))))=rdB l (val l k) (j+1):=by
     refine Bool.eq_iff_iff.2 ?_
     rw [Bool.or_eq_true,Bool.and_eq_true,Bool.and_eq_true,rdB_iff,rdB_iff]
     simp only [decide_eq_true_eq]
     constructor
     ·rintro (⟨i,h1,h2⟩ | ⟨⟨h1,h2⟩,h3⟩)
      ·exact ⟨i,by omega,h2⟩
      ·exact ⟨j,by omega,h1,h2,h3⟩
     ·rintro ⟨i,h1,h2⟩
      by_cases q:i=j
      ·subst q; exact .inr ⟨⟨h2.1,h2.2.1⟩,h2.2.2⟩
      ·exact .inl ⟨i,by omega,h2⟩
    rw [e]
   ·show R_Counting_B2 l (cl l k,(k:Int)) (_,(l.length:Int))=_
    unfold R_Counting_B2 R_Counting_J2
    dsimp only
    have hcl:=cl_len l k
    rw [if_neg (d_f (by omega)),asrt_pos (by omega),asrt_pos (fun _=>by omega),hw]
    have e:((decide (0≤(lget l (k:Int)).To))||((decide ((lget l (k:Int)).Kind=1))&&(rdB l (val l k) l.length)))=decide (cI l k):=by
     refine Bool.eq_iff_iff.2 ?_
     rw [Bool.or_eq_true,Bool.and_eq_true,rdB_iff]
     simp only [decide_eq_true_eq]
     exact Iff.rfl
    rw [e,cl_succ]
    by_cases c:cI l k
    ·rw [if_pos (d_t c),if_pos c,asrt_pos (by rw [List.length_append,List.length_singleton]; omega)]; rfl
    ·rw [if_neg (d_f c),if_neg c]; rfl
  refine Eq.trans ?_ h
  show loopO _ _=loopO _ _
  congr 1
  refine Prod.ext ?_ rfl
  show false=rdB l (val l k) 0
  cases hb:rdB l (val l k) 0 with
  | false=>rfl
  | true=>obtain ⟨i,hi,_⟩:=(rdB_iff _ _ _).1 hb; omega
 ·show R_Counting_B1 l (cl l l.length,(l.length:Int))=_
  unfold R_Counting_B1
  rw [if_neg (d_f (by show ¬ (l.length:Int)<_; omega))]; rfl
def keep1 (l:List Span) (p:Int→Int→Bool) (f:Int→Int) (b0:Int) (xs:List Int):Int:=xs.foldl (fun b z=>if p b z=true then f z else b) b0
theorem keep1_snoc (l:List Span) (p:Int→Int→Bool) (f:Int→Int) (b0:Int) (xs:List Int) (z:Int):keep1 l p f b0 (xs++[z])=if p (keep1 l p f b0 xs) z=true then f z else keep1 l p f b0 xs:=by
 unfold keep1
 rw [List.foldl_append]; rfl
def feP (l:List Span) (v:Int) (b z:Int):Bool:=((decide ((lget l z).Value=v))&&(decide (0≤(lget l z).To)))&&(decide ((lget l z).To<b))
def lbP (l:List Span) (v:Int) (b z:Int):Bool:=(decide ((lget l z).Value=v))&&(decide (b<(lget l z).From))
noncomputable def feV (l:List Span) (v:Int):Int:=if v=0 then -1 else keep1 l (feP l v) (fun z=>(lget l z).To) 2000000000 (cl l l.length)
noncomputable def lbV (l:List Span) (v:Int):Int:=keep1 l (lbP l v) (fun z=>(lget l z).From) (-1) (cl l l.length)
theorem in_cl {l:List Span} {k:Nat} (hk:k<(cl l l.length).length):0≤lget (cl l l.length) (k:Int)∧lget (cl l l.length) (k:Int)<(l.length:Int):=by
 obtain ⟨i,h1,_,h2⟩:=mem_cl.1 (lget_mem (cl l l.length) (k:Int) (by omega))
 omega
theorem first_eq {l:List Span} (hl:l.length≤400) (v:Int):R_FirstEnd l v=some (feV l v):=by
 unfold R_FirstEnd feV
 by_cases c:v=0
 ·rw [if_pos (d_t c),if_pos c]
 rw [if_neg (d_f c),if_neg c,counting_eq hl]
 have hcl:=cl_len l l.length
 show R_FirstEnd_L1 l v (cl l l.length) (2000000000,0)=_
 unfold R_FirstEnd_L1
 refine (loop_run (step:=fun y=>R_FirstEnd_B1 l v (cl l l.length) y) (cl l l.length).length (fun k=>(keep1 l (feP l v) (fun z=>(lget l z).To) 2000000000 ((cl l l.length).take k),(k:Int))) (fun k hk=>?_) ?_:_)
 ·have hw:w64 ((k:Int)+1)=((k+1:Nat):Int):=by rw [w64_id (by omega) (by omega)]; omega
  have hin:=in_cl hk
  show R_FirstEnd_B1 l v (cl l l.length) (_,(k:Int))=_
  unfold R_FirstEnd_B1
  dsimp only
  rw [if_pos (d_t (by omega)),asrt_pos (by omega),asrt_pos (by omega),asrt_pos hin,hw,lget_take _ k hk,keep1_snoc]
  show ob (if feP l v _ _=true then _ else _) _=_
  by_cases q:feP l v (keep1 l (feP l v) (fun z=>(lget l z).To) 2000000000 ((cl l l.length).take k)) (lget (cl l l.length) (k:Int))=true
  ·rw [if_pos q,if_pos q]; rfl
  ·rw [if_neg q,if_neg q]; rfl
 ·show R_FirstEnd_B1 l v (cl l l.length) (_,((cl l l.length).length:Int))=_
  unfold R_FirstEnd_B1
  rw [if_neg (d_f (by show ¬ ((cl l l.length).length:Int)<_; omega)),List.take_length]; rfl
theorem last_eq {l:List Span} (hl:l.length≤400) (v:Int):R_LastBegin l v=some (lbV l v):=by
 unfold R_LastBegin lbV
 rw [counting_eq hl]
 have hcl:=cl_len l l.length
 show R_LastBegin_L1 l v (cl l l.length) (-1,0)=_
 unfold R_LastBegin_L1
 refine (loop_run (step:=fun y=>R_LastBegin_B1 l v (cl l l.length) y) (cl l l.length).length (fun k=>(keep1 l (lbP l v) (fun z=>(lget l z).From) (-1) ((cl l l.length).take k),(k:Int))) (fun k hk=>?_) ?_:_)
 ·have hw:w64 ((k:Int)+1)=((k+1:Nat):Int):=by rw [w64_id (by omega) (by omega)]; omega
  have hin:=in_cl hk
  show R_LastBegin_B1 l v (cl l l.length) (_,(k:Int))=_
  unfold R_LastBegin_B1
  dsimp only
  rw [if_pos (d_t (by omega)),asrt_pos (by omega),asrt_pos (by omega),asrt_pos hin,hw,lget_take _ k hk,keep1_snoc]
  show ob (if lbP l v _ _=true then _ else _) _=_
  by_cases q:lbP l v (keep1 l (lbP l v) (fun z=>(lget l z).From) (-1) ((cl l l.length).take k)) (lget (cl l l.length) (k:Int))=true
  ·rw [if_pos q,if_pos q]; rfl
  ·rw [if_neg q,if_neg q]; rfl
 ·show R_LastBegin_B1 l v (cl l l.length) (_,((cl l l.length).length:Int))=_
  unfold R_LastBegin_B1
  rw [if_neg (d_f (by show ¬ ((cl l l.length).length:Int)<_; omega)),List.take_length]; rfl
theorem fe_spec {l:List Span} {v:Int}:∀ xs:List Int,(keep1 l (feP l v) (fun z=>(lget l z).To) 2000000000 xs=2000000000∨∃ z∈xs,(lget l z).Value=v∧0≤(lget l z).To∧keep1 l (feP l v) (fun z=>(lget l z).To) 2000000000 xs=(lget l z).To)∧
  ∀ z∈xs,(lget l z).Value=v→0≤(lget l z).To→keep1 l (feP l v) (fun z=>(lget l z).To) 2000000000 xs≤(lget l z).To:=by
 suffices h:∀ xs:List Int,(keep1 l (feP l v) (fun z=>(lget l z).To) 2000000000 xs.reverse=2000000000∨∃ z∈xs.reverse,(lget l z).Value=v∧0≤(lget l z).To∧keep1 l (feP l v) (fun z=>(lget l z).To) 2000000000 xs.reverse=(lget l z).To)∧
   ∀ z∈xs.reverse,(lget l z).Value=v→0≤(lget l z).To→keep1 l (feP l v) (fun z=>(lget l z).To) 2000000000 xs.reverse≤(lget l z).To by
  intro xs
  have:=h xs.reverse
  rwa [List.reverse_reverse] at this
 intro xs
 induction xs with
 | nil=>exact ⟨.inl rfl,fun z hz=>by simp at hz⟩
 | cons x xs ih=>
  rw [List.reverse_cons,keep1_snoc]
  obtain ⟨h1,h2⟩:=ih
  by_cases q:feP l v (keep1 l (feP l v) (fun z=>(lget l z).To) 2000000000 xs.reverse) x=true
  ·rw [if_pos q]
   unfold feP at q
   simp only [Bool.and_eq_true,decide_eq_true_eq] at q
   refine ⟨.inr ⟨x,by simp,q.1.1,q.1.2,rfl⟩,fun z hz a b=>?_⟩
   rcases List.mem_append.1 hz with hz | hz
   ·have:=h2 z hz a b
    unfold feP at this
    exact Int.le_trans (Int.le_of_lt q.2) this
   ·rw [List.mem_singleton.1 hz]; exact Int.le_refl _
  ·rw [if_neg q]
   refine ⟨?_,fun z hz a b=>?_⟩
   ·rcases h1 with h1 | ⟨z,a,b⟩
    ·exact .inl h1
    ·exact .inr ⟨z,List.mem_append_left _ a,b⟩
   ·rcases List.mem_append.1 hz with hz | hz
    ·exact h2 z hz a b
    ·rw [List.mem_singleton.1 hz] at a b ⊢
     unfold feP at q
     simp only [Bool.and_eq_true,decide_eq_true_eq,not_and,Int.not_lt] at q
     exact q ⟨a,b⟩
theorem lb_spec {l:List Span} {v:Int}:∀ xs:List Int,(keep1 l (lbP l v) (fun z=>(lget l z).From) (-1) xs = -1∨∃ z∈xs,(lget l z).Value=v∧keep1 l (lbP l v) (fun z=>(lget l z).From) (-1) xs=(lget l z).From)∧
  ∀ z∈xs,(lget l z).Value=v→(lget l z).From≤keep1 l (lbP l v) (fun z=>(lget l z).From) (-1) xs:=by
 suffices h:∀ xs:List Int,(keep1 l (lbP l v) (fun z=>(lget l z).From) (-1) xs.reverse = -1∨∃ z∈xs.reverse,(lget l z).Value=v∧keep1 l (lbP l v) (fun z=>(lget l z).From) (-1) xs.reverse=(lget l z).From)∧
   ∀ z∈xs.reverse,(lget l z).Value=v→(lget l z).From≤keep1 l (lbP l v) (fun z=>(lget l z).From) (-1) xs.reverse by
  intro xs
  have:=h xs.reverse
  rwa [List.reverse_reverse] at this
 intro xs
 induction xs with
 | nil=>exact ⟨.inl rfl,fun z hz=>by simp at hz⟩
 | cons x xs ih=>
  rw [List.reverse_cons,keep1_snoc]
  obtain ⟨h1,h2⟩:=ih
  by_cases q:lbP l v (keep1 l (lbP l v) (fun z=>(lget l z).From) (-1) xs.reverse) x=true
  ·rw [if_pos q]
   unfold lbP at q
   simp only [Bool.and_eq_true,decide_eq_true_eq] at q
   refine ⟨.inr ⟨x,by simp,q.1,rfl⟩,fun z hz a=>?_⟩
   rcases List.mem_append.1 hz with hz | hz
   ·have:=h2 z hz a
    unfold lbP at this
    exact Int.le_trans this (Int.le_of_lt q.2)
   ·rw [List.mem_singleton.1 hz]; exact Int.le_refl _
  ·rw [if_neg q]
   refine ⟨?_,fun z hz a=>?_⟩
   ·rcases h1 with h1 | ⟨z,a,b⟩
    ·exact .inl h1
    ·exact .inr ⟨z,List.mem_append_left _ a,b⟩
   ·rcases List.mem_append.1 hz with hz | hz
    ·exact h2 z hz a
    ·rw [List.mem_singleton.1 hz] at a ⊢
     unfold lbP at q
     simp only [Bool.and_eq_true,decide_eq_true_eq,not_and,Int.not_lt] at q
     exact q a
theorem mem_cnt {l:List Span} (hg:Good l) {z:Int} {v:Int}:(z∈cl l l.length∧(lget l z).Value=v)↔∃ i:Nat,cnt l v i∧z=i:=by
 rw [mem_cl]
 constructor
 ·rintro ⟨⟨i,h1,h2,rfl⟩,h3⟩
  exact ⟨i,(cnt_iff hg v i).2 ⟨h1,h3,h2⟩,rfl⟩
 ·rintro ⟨i,h,rfl⟩
  obtain ⟨h1,h2,h3⟩:=(cnt_iff hg v i).1 h
  exact ⟨⟨i,h1,h3,rfl⟩,h2⟩
theorem fe_bunch {l:List Span} (hg:Good l) {b:bunch} (hb:BOk l b):b.first=feV l b.value:=by
 unfold feV
 rcases hb.fi with ⟨h1,h2⟩ | ⟨h1,h2⟩
 ·rw [if_pos h1,h2]
 ·rw [if_neg h1]
  refine h2.uniq ?_
  obtain ⟨s1,s2⟩:=fe_spec (l:=l) (v:=b.value) (cl l l.length)
  refine ⟨?_,fun i hi=>?_⟩
  ·rcases s1 with s1 | ⟨z,hz,a,c,d⟩
   ·exfalso
    obtain ⟨i,hi,_⟩:=h2.1
    obtain ⟨q1,q2⟩:=(mem_cnt hg (v:=b.value)).2 ⟨i,hi.1,rfl⟩
    have:=s2 _ q1 q2 hi.2
    have:=(good_rng hg (k:=i) ((cnt_iff hg _ _).1 hi.1).1).2.1
    dsimp only [too] at this
    omega
   ·obtain ⟨i,h3,rfl⟩:=(mem_cnt hg).1 ⟨hz,a⟩
    exact ⟨i,⟨h3,c⟩,d⟩
  ·obtain ⟨q1,q2⟩:=(mem_cnt hg (v:=b.value)).2 ⟨i,hi.1,rfl⟩
   exact s2 _ q1 q2 hi.2
theorem lb_bunch {l:List Span} (hg:Good l) {b:bunch} (hb:BOk l b):b.last=lbV l b.value:=by
 unfold lbV
 refine hb.la.uniq ?_
 obtain ⟨s1,s2⟩:=lb_spec (l:=l) (v:=b.value) (cl l l.length)
 refine ⟨?_,fun i hi=>?_⟩
 ·rcases s1 with s1 | ⟨z,hz,a,d⟩
  ·exfalso
   obtain ⟨i,hi,_⟩:=hb.la.1
   obtain ⟨q1,q2⟩:=(mem_cnt hg (v:=b.value)).2 ⟨i,hi,rfl⟩
   have:=s2 _ q1 q2
   have:=(good_rng hg (k:=i) ((cnt_iff hg _ _).1 hi).1).1
   dsimp only [frm0] at this
   omega
  ·obtain ⟨i,h3,rfl⟩:=(mem_cnt hg).1 ⟨hz,a⟩
   exact ⟨i,h3,d⟩
 ·obtain ⟨q1,q2⟩:=(mem_cnt hg (v:=b.value)).2 ⟨i,hi,rfl⟩
  exact s2 _ q1 q2
def wrK (l:List Span) (v:Int) (i:Nat):Prop:=knd l i=1∧val l i=v
instance (l:List Span) (v:Int) (i:Nat):Decidable (wrK l v i):=by unfold wrK; infer_instance
def SC (l:List Span) (v:Int):Prop:=v≠0∧((∀ i,i<l.length→¬ wrK l v i)∨∃ w i:Nat,w<l.length∧wrK l v w∧i<l.length∧rdK l v i∧too l i<frm0 l w)
noncomputable instance (l:List Span) (v:Int):Decidable (SC l v):=Classical.propDecidable _
def wIdx (l:List Span) (v:Int):Nat→Int
 | 0=>-1
 | n+1=>if wrK l v n then (n:Int) else wIdx l v n
theorem wIdx_spec (l:List Span) (v:Int):∀ n,(wIdx l v n = -1∧∀ i,i<n→¬ wrK l v i)∨∃ i:Nat,i<n∧wrK l v i∧wIdx l v n=i
 | 0=>.inl ⟨rfl,fun i hi=>by omega⟩
 | n+1=>by
  rw [wIdx]
  by_cases c:wrK l v n
  ·rw [if_pos c]; exact .inr ⟨n,by omega,c,rfl⟩
  ·rw [if_neg c]
   rcases wIdx_spec l v n with ⟨h1,h2⟩ | ⟨i,h1,h2⟩
   ·refine .inl ⟨h1,fun i hi=>?_⟩
    by_cases q:i=n
    ·rw [q]; exact c
    ·exact h2 i (by omega)
   ·exact .inr ⟨i,by omega,h2⟩
theorem self_eq {l:List Span} (hg:Good l) (v:Int):R_SelfClash l v=some (decide (SC l v)):=by
 have hl:=hg.len
 unfold R_SelfClash
 by_cases c:v=0
 ·rw [if_pos (d_t c)]
  have:¬ SC l v:=fun h=>h.1 c
  rw [decide_eq_false this]
 rw [if_neg (d_f c)]
 unfold R_SelfClash_L2
 refine loop_run (step:=fun y=>R_SelfClash_B2 l v y) l.length (fun k=>(wIdx l v k,(k:Int))) (fun k hk=>?_) ?_
 ·have hw:w64 ((k:Int)+1)=((k+1:Nat):Int):=by rw [w64_id (by omega) (by omega)]; omega
  show R_SelfClash_B2 l v (wIdx l v k,(k:Int))=_
  unfold R_SelfClash_B2
  dsimp only
  rw [if_pos (d_t (by omega)),asrt_pos (by omega),asrt_pos (fun _=>by omega),hw,wIdx]
  have e:((decide ((lget l (k:Int)).Kind=1))&&(decide ((lget l (k:Int)).Value=v)))=decide (wrK l v k):=b_iff (by simp [wrK])
  rw [e]
  by_cases q:wrK l v k
  ·rw [if_pos (d_t q),if_pos q]; rfl
  ·rw [if_neg (d_f q),if_neg q]; rfl
 ·show R_SelfClash_B2 l v (wIdx l v l.length,(l.length:Int))=_
  unfold R_SelfClash_B2
  rw [if_neg (d_f (by show ¬ (l.length:Int)<_; omega))]
  show inrO (R_SelfClash_J1 l v (wIdx l v l.length))=_
  unfold R_SelfClash_J1
  rcases wIdx_spec l v l.length with ⟨h1,h2⟩ | ⟨w,h1,h2,h3⟩
  ·rw [if_pos (d_t (by omega))]
   have:SC l v:=⟨c,.inl h2⟩
   rw [decide_eq_true this]; rfl
  ·rw [if_neg (d_f (by omega)),h3]
   unfold R_SelfClash_L1
   have hst:∀ k:Nat,k<l.length→R_SelfClash_B1 l v (w:Int) (k:Int)=if rdK l v k∧too l k<frm0 l w then some (.inr true) else some (.inl ((k+1:Nat):Int)):=fun k hk=>by
    have hw:w64 ((k:Int)+1)=((k+1:Nat):Int):=by rw [w64_id (by omega) (by omega)]; omega
    unfold R_SelfClash_B1
    rw [if_pos (d_t (by omega)),asrt_pos (by omega),asrt_pos (fun _=>by omega),asrt_pos (fun _=>by omega),asrt_pos (fun _=>by omega),hw]
    have e:((((decide ((lget l (k:Int)).Kind=2))&&(decide ((lget l (k:Int)).Value=v)))&&(R_SpanAhead (⟨(lget l (k:Int)).Kind,(lget l (k:Int)).Value,(lget l (k:Int)).From,(lget l (k:Int)).To⟩:Span) (⟨(lget l (w:Int)).Kind,(lget l (w:Int)).Value,(lget l (w:Int)).From,(lget l (w:Int)).To⟩:Span))))=decide (rdK l v k∧too l k<frm0 l w):=by
     refine b_iff ?_
     unfold R_SpanAhead rdK
     simp only [Bool.and_eq_true,decide_eq_true_eq,knd,val,too,frm0]
     constructor
     ·rintro ⟨⟨a,b⟩,c,d⟩; exact ⟨⟨a,b,c⟩,d⟩
     ·rintro ⟨⟨a,b,c⟩,d⟩; exact ⟨⟨a,b⟩,c,d⟩
    dsimp only [lt] at e ⊢
    rw [e]
    by_cases q:rdK l v k∧too l k<frm0 l w
    ·rw [if_pos (d_t q),if_pos q]
    ·rw [if_neg (d_f q),if_neg q]
   have he:R_SelfClash_B1 l v (w:Int) (l.length:Int)=some (.inr false):=by
    unfold R_SelfClash_B1
    rw [if_neg (d_f (by omega))]; rfl
   rcases loop_any (step:=fun y=>R_SelfClash_B1 l v (w:Int) y) l.length (fun k=>(k:Int)) (fun k=>rdK l v k∧too l k<frm0 l w) (rb:=true) (r:=false) (fun k hk hn=>by rw [hst k hk,if_neg hn]) (fun k hk hn=>by rw [hst k hk,if_pos hn]) he with ⟨⟨j,a,b⟩,h5⟩ | ⟨a,h5⟩
   ·have:SC l v:=⟨c,.inr ⟨w,j,h1,h2,a,b⟩⟩
    rw [decide_eq_true this]
    have h5:loopO (fun y=>R_SelfClash_B1 l v (w:Int) y) 0=some true:=h5
    rw [h5]; rfl
   ·have:¬ SC l v:=by
     rintro ⟨_,h | ⟨w',i,b1,b2,b3,b4⟩⟩
     ·exact h w h1 h2
     ·have hww:=hg.one w' w b1 h1 b2.1 h2.1 (b2.2.trans h2.2.symm)
      subst hww
      exact a i b3 b4
    rw [decide_eq_false this]
    have h5:loopO (fun y=>R_SelfClash_B1 l v (w:Int) y) 0=some false:=h5
    rw [h5]; rfl
theorem contains_eq {l:List Span} {ar:List bunch} {b:Nat} (hl:l.length≤200) (hb:b<ar.length) {w:Nat} (hw:(lget ar (b:Int)).write=w) (hwl:w<l.length) (xs:List Int) (hx:xs.length≤400) (hin:∀ z∈xs,0≤z∧z<(l.length:Int)) :
  slices_ContainsFunc_int_int xs l b ar=some (xs.any fun z=>decide ((lget l z).To<frm0 l w)):=by
 unfold slices_ContainsFunc_int_int slices_IndexFunc_int_int slices_IndexFunc_int_int_L1
 have hst:∀ k:Nat,k<xs.length→slices_IndexFunc_int_int_B1 xs l b ar (k:Int)=if (lget l (lget xs (k:Int))).To<frm0 l w then some (.inr (k:Int)) else some (.inl ((k+1:Nat):Int)):=fun k hk=>by
  have hw2:w64 ((k:Int)+1)=((k+1:Nat):Int):=by rw [w64_id (by omega) (by omega)]; omega
  have hz:=hin _ (lget_mem xs (k:Int) (by omega))
  unfold slices_IndexFunc_int_int_B1 history_bunch_alone_1
  rw [if_pos (d_t (by omega)),asrt_pos (by omega),asrt_pos hz,asrt_pos (by omega),asrt_pos (by rw [hw]; omega),hw,hw2]
  show (if decide ((lget l (lget xs (k:Int))).To<frm0 l w)=true then _ else _)=_
  by_cases q:(lget l (lget xs (k:Int))).To<frm0 l w
  ·rw [if_pos (d_t q),if_pos q]
  ·rw [if_neg (d_f q),if_neg q]
 have he:slices_IndexFunc_int_int_B1 xs l b ar (xs.length:Int)=some (.inr (-1)):=by
  unfold slices_IndexFunc_int_int_B1
  rw [if_neg (d_f (by omega))]; rfl
 rcases loop_first (step:=fun y=>slices_IndexFunc_int_int_B1 xs l b ar y) xs.length (fun k=>(k:Int)) (fun k=>(lget l (lget xs (k:Int))).To<frm0 l w) (fun k=>(k:Int)) (r:=-1) (fun k hk hn=>by rw [hst k hk,if_neg hn]) (fun k hk hn=>by rw [hst k hk,if_pos hn]) he with ⟨j,a,c,_,h5⟩ | ⟨a,h5⟩
 ·have h5:loopO (fun y=>slices_IndexFunc_int_int_B1 xs l b ar y) 0=some (j:Int):=h5
  rw [h5]
  show some (decide (0≤(j:Int)))=_
  rw [d_t (by omega)]
  congr 1
  symm
  rw [List.any_eq_true]
  exact ⟨_,lget_mem xs (j:Int) (by omega),d_t c⟩
 ·have h5:loopO (fun y=>slices_IndexFunc_int_int_B1 xs l b ar y) 0=some (-1):=h5
  rw [h5]
  show some false=_
  congr 1
  symm
  rw [List.any_eq_false]
  intro z hz
  obtain ⟨k,hk,rfl⟩:=mem_lget.1 hz
  simpa using a k hk
theorem mem_rds {l:List Span} {n:Nat} {v z:Int}:z∈rds l n v↔∃ i:Nat,i<n∧rdv l v i∧z=i:=by
 unfold rds
 simp only [List.mem_map,List.mem_filter,List.mem_range,decide_eq_true_eq]
 exact ⟨fun ⟨i,⟨a,b⟩,c⟩=>⟨i,a,b,c.symm⟩,fun ⟨i,a,b,c⟩=>⟨i,⟨a,b⟩,c.symm⟩⟩
theorem rds_len (l:List Span) (n:Nat) (v:Int):(rds l n v).length≤n:=by
 unfold rds
 rw [List.length_map]
 have:=List.length_filter_le (fun i=>decide (rdv l v i)) (List.range n)
 simpa using this
theorem alone_eq {l:List Span} (hg:Good l) {b:Nat} (hb:b<(BB l).length):history_bunch_alone b l (BB l)=some (decide (SC l (lget (BB l) (b:Int)).value)):=by
 have hok:=bb_ok hg b hb
 unfold history_bunch_alone
 rw [asrt_pos (by omega)]
 by_cases c:(lget (BB l) (b:Int)).value=0
 ·rw [if_pos (d_t c)]
  have:¬ SC l (lget (BB l) (b:Int)).value:=fun h=>h.1 c
  rw [decide_eq_false this]
 rw [if_neg (d_f c),asrt_pos (by omega),asrt_pos (fun _=>by omega)]
 rcases hok.wr with ⟨h1,h2⟩ | ⟨w,h1,h2,h3,h4⟩
 ·rw [h1]
  have:SC l (lget (BB l) (b:Int)).value:=⟨c,.inl fun i hi=>h2 i hi⟩
  rw [decide_eq_true this]; rfl
 ·have e:(decide ((lget (BB l) (b:Int)).write<0))=false:=decide_eq_false (by omega)
  rw [e,if_pos (by rfl)]
  rw [contains_eq hg.len hb h4 h1 _ (by rw [hok.rd]; have:=rds_len l l.length (lget (BB l) (b:Int)).value; have:=hg.len; omega) (fun z hz=>by
   rw [hok.rd] at hz
   obtain ⟨i,a,_,rfl⟩:=mem_rds.1 hz
   omega)]
  show some (false||_)=_
  rw [Bool.false_or]
  congr 1
  rw [hok.rd]
  refine Bool.eq_iff_iff.2 ?_
  rw [List.any_eq_true,decide_eq_true_iff]
  constructor
  ·rintro ⟨z,hz,h5⟩
   obtain ⟨i,a,d,rfl⟩:=mem_rds.1 hz
   exact ⟨c,.inr ⟨w,i,h1,⟨h2,h3⟩,a,(rdK_iff hg a _).2 d,of_decide_eq_true h5⟩⟩
  ·rintro ⟨_,h | ⟨w',i,b1,b2,b3,b4,b5⟩⟩
   ·exact absurd ⟨h2,h3⟩ (h w h1)
   ·have hww:=hg.one w' w b1 h1 b2.1 h2 (b2.2.trans h3.symm)
    subst hww
    exact ⟨i,mem_rds.2 ⟨i,b3,(rdK_iff hg b3 _).1 b4,rfl⟩,decide_eq_true b5⟩
def CL (l:List Span) (a b:Int):Prop:=if a=b then SC l a else feV l a<lbV l b∧feV l b<lbV l a
noncomputable instance (l:List Span) (a b:Int):Decidable (CL l a b):=Classical.propDecidable _
theorem clash_eq {l:List Span} (hg:Good l) {a b:Nat} (ha:a<(BB l).length) (hb:b<(BB l).length):history_clash a b (BB l)=some (decide (feV l (lget (BB l) (a:Int)).value<lbV l (lget (BB l) (b:Int)).value∧feV l (lget (BB l) (b:Int)).value<lbV l (lget (BB l) (a:Int)).value)):=by
 unfold history_clash
 rw [asrt_pos (by omega),asrt_pos (by omega),asrt_pos (fun _=>by omega),asrt_pos (fun _=>by omega)]
 rw [fe_bunch hg (bb_ok hg a ha),fe_bunch hg (bb_ok hg b hb),lb_bunch hg (bb_ok hg a ha),lb_bunch hg (bb_ok hg b hb)]
 show some (_&&_)=_
 congr 1
 exact b_iff (by simp)
def ClS (l:List Span) (D:Int→Int→Prop) (r:Int×Int×Bool):Prop:=
 (r.2.2=false∧r.1=0∧r.2.1=0∧∀ a b,D a b→¬ CL l a b)∨(r.2.2=true∧D r.1 r.2.1∧CL l r.1 r.2.1∧∀ a b,D a b→CL l a b→r.1<a∨(r.1=a∧r.2.1≤b))
theorem ClS.uniq {l:List Span} {D:Int→Int→Prop} {r s:Int×Int×Bool} (h1:ClS l D r) (h2:ClS l D s):r=s:=by
 obtain ⟨r1,r2,r3⟩:=r
 obtain ⟨s1,s2,s3⟩:=s
 rcases h1 with ⟨a1,a2,a3,a4⟩ | ⟨a1,a2,a3,a4⟩ <;> rcases h2 with ⟨b1,b2,b3,b4⟩ | ⟨b1,b2,b3,b4⟩
 ·simp only at *; rw [a1,a2,a3,b1,b2,b3]
 ·exact absurd b3 (a4 _ _ b2)
 ·exact absurd a3 (b4 _ _ a2)
 ·simp only at *
  have:=a4 _ _ b2 b3
  have:=b4 _ _ a2 a3
  rw [a1,b1,show r1=s1 by omega,show r2=s2 by omega]
theorem ClS.of {l:List Span} {D E:Int→Int→Prop} {r:Int×Int×Bool} (h:ClS l D r) (e:∀ a b,E a b↔D a b):ClS l E r:=by
 rcases h with ⟨a1,a2,a3,a4⟩ | ⟨a1,a2,a3,a4⟩
 ·exact .inl ⟨a1,a2,a3,fun a b h=>a4 a b ((e a b).1 h)⟩
 ·exact .inr ⟨a1,(e _ _).2 a2,a3,fun a b h=>a4 a b ((e a b).1 h)⟩
noncomputable def upC (l:List Span) (s:Int×Int×Bool) (a b:Int):Int×Int×Bool:=if CL l a b∧(s.2.2=false∨a<s.1∨(a=s.1∧b<s.2.1)) then (a,b,true) else s
theorem ClS.up {l:List Span} {D E:Int→Int→Prop} {s:Int×Int×Bool} (h:ClS l D s) (a b:Int) (e:∀ x y,E x y↔D x y∨(x=a∧y=b)):ClS l E (upC l s a b):=by
 unfold upC
 by_cases c:CL l a b∧(s.2.2=false∨a<s.1∨(a=s.1∧b<s.2.1))
 ·rw [if_pos c]
  refine .inr ⟨rfl,(e _ _).2 (.inr ⟨rfl,rfl⟩),c.1,fun x y hxy hc=>?_⟩
  show a<x∨a=x∧b≤y
  rcases (e x y).1 hxy with q | ⟨rfl,rfl⟩
  ·rcases h with ⟨a1,a2,a3,a4⟩ | ⟨a1,a2,a3,a4⟩
   ·exact absurd hc (a4 _ _ q)
   ·have:=a4 x y q hc
    rcases c.2 with c2 | c2
    ·rw [a1] at c2; cases c2
    ·omega
  ·omega
 ·rw [if_neg c]
  rcases h with ⟨a1,a2,a3,a4⟩ | ⟨a1,a2,a3,a4⟩
  ·refine .inl ⟨a1,a2,a3,fun x y hxy hc=>?_⟩
   rcases (e x y).1 hxy with q | ⟨rfl,rfl⟩
   ·exact a4 _ _ q hc
   ·exact c ⟨hc,.inl a1⟩
  ·refine .inr ⟨a1,(e _ _).2 (.inl a2),a3,fun x y hxy hc=>?_⟩
   rcases (e x y).1 hxy with q | ⟨rfl,rfl⟩
   ·exact a4 _ _ q hc
   ·have:¬ (x<s.1∨(x=s.1∧y<s.2.1)):=fun q=>c ⟨hc,.inr q⟩
    omega
abbrev vz (l:List Span) (z:Int):Int:=(lget l z).Value
noncomputable def inn (l:List Span) (xs:List Int) (a:Int) (s:Int×Int×Bool):Int×Int×Bool:=xs.foldl (fun s z=>upC l s a (vz l z)) s
noncomputable def out (l:List Span) (xs ys:List Int) (s:Int×Int×Bool):Int×Int×Bool:=ys.foldl (fun s z=>inn l xs (vz l z) s) s
theorem inn_snoc (l:List Span) (xs:List Int) (a:Int) (s:Int×Int×Bool) (z:Int):inn l (xs++[z]) a s=upC l (inn l xs a s) a (vz l z):=by
 unfold inn
 rw [List.foldl_append]; rfl
theorem out_snoc (l:List Span) (xs ys:List Int) (s:Int×Int×Bool) (z:Int):out l xs (ys++[z]) s=inn l xs (vz l z) (out l xs ys s):=by
 unfold out
 rw [List.foldl_append]; rfl
theorem inn_spec {l:List Span} {a:Int}:∀ (xs:List Int) {D:Int→Int→Prop} {s:Int×Int×Bool},ClS l D s→ClS l (fun x y=>D x y∨(x=a∧∃ z∈xs,vz l z=y)) (inn l xs a s)
 | [],D,s,h=>h.of fun x y=>by simp
 | z::xs,D,s,h=>by
  have h1:=h.up a (vz l z) (E:=fun x y=>D x y∨(x=a∧y=vz l z)) fun x y=>Iff.rfl
  refine (inn_spec xs h1).of fun x y=>?_
  simp only [List.mem_cons]
  constructor
  ·rintro (q | ⟨q,w,rfl | hw,e⟩)
   ·exact .inl (.inl q)
   ·exact .inl (.inr ⟨q,e.symm⟩)
   ·exact .inr ⟨q,w,hw,e⟩
  ·rintro ((q | ⟨q,e⟩) | ⟨q,w,hw,e⟩)
   ·exact .inl q
   ·exact .inr ⟨q,z,.inl rfl,e.symm⟩
   ·exact .inr ⟨q,w,.inr hw,e⟩
theorem out_spec {l:List Span} {xs:List Int}:∀ (ys:List Int) {D:Int→Int→Prop} {s:Int×Int×Bool},ClS l D s→ClS l (fun x y=>D x y∨((∃ w∈ys,vz l w=x)∧∃ z∈xs,vz l z=y)) (out l xs ys s)
 | [],D,s,h=>h.of fun x y=>by simp
 | w::ys,D,s,h=>by
  have h1:=inn_spec (a:=vz l w) xs h
  refine (out_spec ys h1).of fun x y=>?_
  simp only [List.mem_cons]
  constructor
  ·rintro (q | ⟨⟨u,rfl | hu,e⟩,hz⟩)
   ·exact .inl (.inl q)
   ·exact .inl (.inr ⟨e.symm,hz⟩)
   ·exact .inr ⟨⟨u,hu,e⟩,hz⟩
  ·rintro ((q | ⟨e,hz⟩) | ⟨⟨u,hu,e⟩,hz⟩)
   ·exact .inl q
   ·exact .inr ⟨⟨w,.inl rfl,e.symm⟩,hz⟩
   ·exact .inr ⟨⟨u,.inr hu,e⟩,hz⟩
theorem clashing_eq {l:List Span} (hg:Good l):R_Clashing l=some (out l (cl l l.length) (cl l l.length) (0,0,false)):=by
 have hl:=hg.len
 have hcl:=cl_len l l.length
 unfold R_Clashing
 rw [counting_eq (by omega)]
 show R_Clashing_L1 l (cl l l.length) (0,0,false,0)=_
 unfold R_Clashing_L1
 refine loop_run (step:=fun y=>R_Clashing_B1 l (cl l l.length) y) (cl l l.length).length (fun k=>((out l (cl l l.length) ((cl l l.length).take k) (0,0,false)).1,(out l (cl l l.length) ((cl l l.length).take k) (0,0,false)).2.1,(out l (cl l l.length) ((cl l l.length).take k) (0,0,false)).2.2,(k:Int))) (fun k hk=>?_) ?_
 ·have hw:w64 ((k:Int)+1)=((k+1:Nat):Int):=by rw [w64_id (by omega) (by omega)]; omega
  have hin:=in_cl hk
  generalize hs:out l (cl l l.length) ((cl l l.length).take k) (0,0,false)=s
  rw [lget_take _ k hk,out_snoc,hs]
  show R_Clashing_B1 l (cl l l.length) (s.1,s.2.1,s.2.2,(k:Int))=_
  unfold R_Clashing_B1
  rw [if_pos (d_t (by show (k:Int)<_; omega))]
  show R_Clashing_L2 l (cl l l.length) (s.1,s.2.1,s.2.2,(k:Int)) (s.1,s.2.1,s.2.2,0)=_
  unfold R_Clashing_L2
  generalize ha:lget (cl l l.length) (k:Int)=az at hin
  refine loop_run (step:=fun y=>R_Clashing_B2 l (cl l l.length) (s.1,s.2.1,s.2.2,(k:Int)) y) (cl l l.length).length (fun j=>((inn l ((cl l l.length).take j) (vz l az) s).1,(inn l ((cl l l.length).take j) (vz l az) s).2.1,(inn l ((cl l l.length).take j) (vz l az) s).2.2,(j:Int))) (fun j hj=>?_) ?_
  ·have hw2:w64 ((j:Int)+1)=((j+1:Nat):Int):=by rw [w64_id (by omega) (by omega)]; omega
   have hin2:=in_cl hj
   generalize ht:inn l ((cl l l.length).take j) (vz l az) s=t
   rw [lget_take _ j hj,inn_snoc,ht]
   generalize hb:lget (cl l l.length) (j:Int)=bz at hin2
   show R_Clashing_B2 l (cl l l.length) (s.1,s.2.1,s.2.2,(k:Int)) (t.1,t.2.1,t.2.2,(j:Int))=_
   unfold R_Clashing_B2
   dsimp only
   rw [if_pos (d_t (by omega)),asrt_pos (by omega),asrt_pos (by omega),ha,asrt_pos hin,asrt_pos (by omega),asrt_pos (by omega),hb,asrt_pos hin2,hw2]
   rw [first_eq (by omega),last_eq (by omega),first_eq (by omega),last_eq (by omega),self_eq hg]
   have fin:∀ (v5:Bool),v5=decide (CL l (vz l az) (vz l bz))→(ob (
     if (v5&&(((!t.2.2)||(decide (((lget l az).Value)<t.1)))||((decide (((lget l az).Value)=t.1))&&(decide (((lget l bz).Value)<t.2.1)))))=true then
      some ((lget l az).Value,(lget l bz).Value,true)
     else
      some (t.1,t.2.1,t.2.2)) fun (v6:Int×Int×Bool)=>some (Sum.inl (v6.1,v6.2.1,v6.2.2,((j+1:Nat):Int))))=(some (Sum.inl ((upC l t (vz l az) (vz l bz)).1,(upC l t (vz l az) (vz l bz)).2.1,(upC l t (vz l az) (vz l bz)).2.2,((j+1:Nat):Int))):Option ((Int×Int×Bool×Int)⊕((Int×Int×Bool×Int)⊕(Int×Int×Bool)))):=fun v5 h5=>by
    have e:(v5&&(((!t.2.2)||(decide (((lget l az).Value)<t.1)))||((decide (((lget l az).Value)=t.1))&&(decide (((lget l bz).Value)<t.2.1)))))=decide (CL l (vz l az) (vz l bz)∧(t.2.2=false∨vz l az<t.1∨(vz l az=t.1∧vz l bz<t.2.1))):=by
     rw [h5]
     refine b_iff ?_
     simp only [Bool.and_eq_true,Bool.or_eq_true,decide_eq_true_eq,Bool.not_eq_true',or_assoc]
    rw [e]
    unfold upC
    by_cases q:CL l (vz l az) (vz l bz)∧(t.2.2=false∨vz l az<t.1∨(vz l az=t.1∧vz l bz<t.2.1))
    ·rw [if_pos (d_t q),if_pos q]; rfl
    ·rw [if_neg (d_f q),if_neg q]; rfl
   by_cases c:(lget l az).Value=(lget l bz).Value
   ·rw [if_neg (n_f c),if_neg (n_f c)]
    have e1:∀ x:Bool,((!decide ((lget l az).Value=(lget l bz).Value))&&x)=false:=fun x=>by rw [decide_eq_true c]; rfl
    simp only [ob_some,e1]
    rw [if_neg (by simp),if_neg (by simp)]
    simp only [ob_some,lt]
    rw [if_pos (d_t c)]
    simp only [ob_some]
    refine fin _ ?_
    refine Bool.eq_iff_iff.2 ?_
    rw [decide_eq_true_iff,decide_eq_true_iff]
    unfold CL
    rw [if_pos c]
   ·rw [if_pos (n_t c),if_pos (n_t c)]
    have e1:∀ x:Bool,((!decide ((lget l az).Value=(lget l bz).Value))&&x)=x:=fun x=>by rw [decide_eq_false c]; simp
    simp only [ob_some,e1]
    by_cases d:feV l (lget l az).Value<lbV l (lget l bz).Value
    ·rw [if_pos (d_t d),if_pos (d_t d)]
     simp only [ob_some,lt]
     rw [if_neg (d_f c)]
     simp only [ob_some]
     refine fin _ ?_
     rw [decide_eq_true d]
     refine Bool.eq_iff_iff.2 ?_
     rw [Bool.true_and,decide_eq_true_iff,decide_eq_true_iff]
     unfold CL
     rw [if_neg c]
     exact ⟨fun h=>⟨d,h⟩,fun h=>h.2⟩
    ·rw [if_neg (d_f d),if_neg (d_f d)]
     simp only [ob_some,lt]
     rw [if_neg (d_f c)]
     simp only [ob_some]
     refine fin _ ?_
     rw [decide_eq_false d]
     refine Bool.eq_iff_iff.2 ?_
     rw [Bool.false_and,decide_eq_true_iff]
     unfold CL
     rw [if_neg c]
     exact ⟨(fun h=>by cases h),fun h=>absurd h.1 d⟩
  ·generalize ht:inn l ((cl l l.length).take (cl l l.length).length) (vz l az) s=t
   rw [List.take_length] at ht
   rw [ht]
   show R_Clashing_B2 l (cl l l.length) (s.1,s.2.1,s.2.2,(k:Int)) (t.1,t.2.1,t.2.2,((cl l l.length).length:Int))=_
   unfold R_Clashing_B2
   rw [if_neg (d_f (by show ¬ ((cl l l.length).length:Int)<_; omega))]
   show some (Sum.inr (Sum.inl (t.1,t.2.1,t.2.2,w64 ((k:Int)+1))))=_
   rw [hw]
 ·generalize hs:out l (cl l l.length) ((cl l l.length).take (cl l l.length).length) (0,0,false)=s
  rw [List.take_length] at hs
  rw [hs]
  show R_Clashing_B1 l (cl l l.length) (s.1,s.2.1,s.2.2,((cl l l.length).length:Int))=_
  unfold R_Clashing_B1
  rw [if_neg (d_f (by show ¬ ((cl l l.length).length:Int)<_; omega))]; rfl
def has (l:List Span) (v:Int):Prop:=∃ i,cnt l v i
theorem clashing_spec {l:List Span} (hg:Good l):ClS l (fun a b=>has l a∧has l b) (out l (cl l l.length) (cl l l.length) (0,0,false)):=by
 refine (out_spec (l:=l) (xs:=cl l l.length) (D:=fun _ _=>False) (s:=(0,0,false)) (cl l l.length) (.inl ⟨rfl,rfl,rfl,fun a b h=>h.elim⟩)).of fun a b=>?_
 have key:∀ v,has l v↔∃ z∈cl l l.length,vz l z=v:=fun v=>by
  constructor
  ·rintro ⟨i,h⟩
   obtain ⟨q1,q2⟩:=(mem_cnt hg (v:=v)).2 ⟨i,h,rfl⟩
   exact ⟨_,q1,q2⟩
  ·rintro ⟨z,h1,h2⟩
   obtain ⟨i,h3,_⟩:=(mem_cnt hg).1 ⟨h1,h2⟩
   exact ⟨i,h3⟩
 rw [key,key]
 simp
theorem has_end {l:List Span} (hg:Good l) {v:Int} (h:has l v):∃ i,cnt l v i∧0≤too l i:=by
 obtain ⟨i,hi⟩:=h
 obtain ⟨h1,h2,h3⟩:=(cnt_iff hg v i).1 hi
 rcases h3 with h3 | ⟨_,k,h4,h5⟩
 ·exact ⟨i,hi,h3⟩
 ·rw [h2] at h5
  exact ⟨k,(cnt_iff hg v k).2 ⟨h4,h5.2.1,.inl h5.2.2⟩,h5.2.2⟩
theorem fe_min {l:List Span} (hg:Good l) {v:Int} (hv:v≠0) (h:has l v):MinOf (fun i=>cnt l v i∧0≤too l i) (too l) (feV l v):=by
 unfold feV
 rw [if_neg hv]
 obtain ⟨s1,s2⟩:=fe_spec (l:=l) (v:=v) (cl l l.length)
 refine ⟨?_,fun i hi=>?_⟩
 ·rcases s1 with s1 | ⟨z,hz,a,c,d⟩
  ·exfalso
   obtain ⟨i,hi,hi2⟩:=has_end hg h
   obtain ⟨q1,q2⟩:=(mem_cnt hg (v:=v)).2 ⟨i,hi,rfl⟩
   have:=s2 _ q1 q2 hi2
   have:=(good_rng hg (k:=i) ((cnt_iff hg _ _).1 hi).1).2.1
   dsimp only [too] at this
   omega
  ·obtain ⟨i,h3,rfl⟩:=(mem_cnt hg).1 ⟨hz,a⟩
   exact ⟨i,⟨h3,c⟩,d⟩
 ·obtain ⟨q1,q2⟩:=(mem_cnt hg (v:=v)).2 ⟨i,hi.1,rfl⟩
  exact s2 _ q1 q2 hi.2
theorem lb_max {l:List Span} (hg:Good l) {v:Int} (h:has l v):MaxOf (cnt l v) (frm0 l) (lbV l v):=by
 unfold lbV
 obtain ⟨s1,s2⟩:=lb_spec (l:=l) (v:=v) (cl l l.length)
 refine ⟨?_,fun i hi=>?_⟩
 ·rcases s1 with s1 | ⟨z,hz,a,d⟩
  ·exfalso
   obtain ⟨i,hi⟩:=h
   obtain ⟨q1,q2⟩:=(mem_cnt hg (v:=v)).2 ⟨i,hi,rfl⟩
   have:=s2 _ q1 q2
   have:=(good_rng hg (k:=i) ((cnt_iff hg _ _).1 hi).1).1
   dsimp only [frm0] at this
   omega
  ·obtain ⟨i,h3,rfl⟩:=(mem_cnt hg).1 ⟨hz,a⟩
   exact ⟨i,h3,d⟩
 ·obtain ⟨q1,q2⟩:=(mem_cnt hg (v:=v)).2 ⟨i,hi,rfl⟩
  exact s2 _ q1 q2
theorem clash_prog {l:List Span} (hg:Good l):∃ r,ClS l (fun a b=>has l a∧has l b) r∧history_Clash l=some (r.1,r.2.1,r.2.2,⟨0,0⟩):=by
 have hl:=hg.len
 have hc:chk l=⟨0,0⟩:=by
  unfold chk
  rw [if_neg (by omega)]
  rcases firstFrom_cases (fS l) (⟨0,0⟩:Fault) l.length 0 with ⟨_,h2⟩ | ⟨j,x,_,h2,h3,_,h5⟩
  ·exact h2
  ·exfalso
   unfold fS at h3
   rw [if_neg (fun q=>q (hg.kind j (by omega))),if_neg (hg.rng j (by omega))] at h3
   split at h3
   ·rename_i ht
    obtain ⟨a,i,b,c,d⟩:=ht
    have:=hg.one i j (by omega) (by omega) c a d
    omega
   ·cases h3
 have e0:history_Clash l=ob (history_bunches l []) fun x1=>history_Clash_L1 l x1 0:=by
  unfold history_Clash
  rw [check_eq,hc,ob_some]
  exact if_neg (by simp)
 rw [e0]
 obtain ⟨zs,h1,h2,h3⟩:=bunches_eq hl
 have h3:zs.Pairwise (fun x y:Nat=>(lget (BB l) (x:Int)).value<(lget (BB l) (y:Int)).value):=h3
 have h2:zs.Perm (List.range (BB l).length):=h2
 rw [h1,ob_some]
 have e1:history_Clash_L1 l (zs,zero1 (sW l l.length)) 0=loopO (fun y=>history_Clash_B1 l (zs,BB l) y) 0:=rfl
 rw [e1]
 have hb4:(BB l).length≤400:=by
  have h5:=sW_len l l.length
  have:(BB l).length=(sW l l.length).2.length:=by
   unfold BB zero1
   split
   ·exact lset_len _ _ _
   ·rfl
  omega
 have hzl:zs.length≤400:=by
  have:=h2.length_eq
  rw [List.length_range] at this
  omega
 have hlt:∀ k:Nat,k<zs.length→lget zs (k:Int)<(BB l).length:=fun k hk=>List.mem_range.1 (h2.mem_iff.1 (lget_mem zs (k:Int) (by omega)))
 have hup:∀ i j:Nat,i<j→j<zs.length→(lget (BB l) ((lget zs (i:Int):Nat):Int)).value<(lget (BB l) ((lget zs (j:Int):Nat):Int)).value:=fun i j hij hj=>by
  have:=List.pairwise_iff_getElem.1 h3 i j (by omega) hj hij
  rw [lget_nat zs i (by omega),lget_nat zs j hj]; exact this
 have heq:∀ i j:Nat,i<zs.length→j<zs.length→(lget zs (i:Int)=lget zs (j:Int)↔(lget (BB l) ((lget zs (i:Int):Nat):Int)).value=(lget (BB l) ((lget zs (j:Int):Nat):Int)).value):=fun i j hi hj=>
  ⟨fun e=>by rw [e],fun e=>bb_inj (hlt i hi) (hlt j hj) e⟩
 generalize hP:(fun k:Nat=>(lget (BB l) ((lget zs (k:Int):Nat):Int)).value)=P at *
 have hPk:∀ k:Nat,(lget (BB l) ((lget zs (k:Int):Nat):Int)).value=P k:=fun k=>by rw [← hP]
 have hV:∀ v,has l v↔∃ k:Nat,k<zs.length∧P k=v:=fun v=>by
  show (∃ i,cnt l v i)↔_
  rw [bb_has hg]
  constructor
  ·rintro ⟨k,hk,e⟩
   obtain ⟨j,hj,e2⟩:=mem_lget.1 (h2.mem_iff.2 (List.mem_range.2 hk))
   exact ⟨j,hj,by rw [← hPk,e2]; exact e⟩
  ·rintro ⟨k,hk,e⟩
   exact ⟨_,hlt k hk,by rw [hPk]; exact e⟩
 have inner:∀ i:Nat,i<zs.length→∀ j:Nat,j<zs.length→history_Clash_B2 l (zs,BB l) (i:Int) (j:Int)=if CL l (P i) (P j) then some (.inr (.inr (P i,P j,true,⟨0,0⟩))) else some (.inl ((j+1:Nat):Int)):=fun i hi j hj=>by
  have hw2:w64 ((j:Int)+1)=((j+1:Nat):Int):=by rw [w64_id (by omega) (by omega)]; omega
  have g1:=hlt i hi
  have g2:=hlt j hj
  have hq:=heq i j hi hj
  have f1:=hPk i
  have f2:=hPk j
  unfold history_Clash_B2
  dsimp only
  generalize lget zs (i:Int)=a at *
  generalize lget zs (j:Int)=b at *
  rw [if_pos (d_t (by omega)),asrt_pos (by omega),asrt_pos (by omega),asrt_pos ⟨g1,g2⟩]
  by_cases c:a=b
  ·subst c
   have e:decide (a=a)=true:=decide_eq_true rfl
   rw [e,if_pos rfl,alone_eq hg g1]
   have e2:P i=P j:=by rw [← f1,← f2]
   rw [show (decide (SC l (lget (BB l) (a:Int)).value))=decide (CL l (P i) (P j)) from by
    refine Bool.eq_iff_iff.2 ?_
    rw [decide_eq_true_iff,decide_eq_true_iff,f1]
    unfold CL
    rw [if_pos e2]]
   simp only [ob_some]
   rw [asrt_pos (fun _=>⟨g1,g1⟩),if_neg (by simp)]
   simp only [ob_some]
   rw [asrt_pos (by omega),asrt_pos (by omega),hw2]
   by_cases q:CL l (P i) (P j)
   ·rw [decide_eq_true q,if_pos (by rfl),if_pos q,f1,← e2]
   ·rw [decide_eq_false q,if_neg (by simp),if_neg q]
  ·have e:decide (a=b)=false:=decide_eq_false c
   rw [e,if_neg (by simp)]
   simp only [ob_some]
   rw [asrt_pos (fun _=>⟨g1,g2⟩),if_pos (by rfl),if_pos (by rfl),clash_eq hg g1 g2]
   simp only [ob_some]
   rw [asrt_pos (by omega),asrt_pos (by omega),hw2,f1,f2]
   have hne:¬ P i=P j:=fun h=>c (hq.2 (by rw [f1,f2]; exact h))
   have e3:((false&&(default:Bool))||((!false)&&decide (feV l (P i)<lbV l (P j)∧feV l (P j)<lbV l (P i))))=decide (CL l (P i) (P j)):=by
    refine Bool.eq_iff_iff.2 ?_
    rw [decide_eq_true_iff]
    unfold CL
    rw [if_neg hne]
    simp
   rw [e3]
   by_cases q:CL l (P i) (P j)
   ·rw [if_pos (d_t q),if_pos q]
   ·rw [if_neg (d_f q),if_neg q]
 have outer:∀ i:Nat,i<zs.length→(∃ j,j<zs.length∧CL l (P i) (P j)∧(∀ j',j'<j→¬ CL l (P i) (P j'))∧history_Clash_B1 l (zs,BB l) (i:Int)=some (.inr (P i,P j,true,⟨0,0⟩)))∨((∀ j,j<zs.length→¬ CL l (P i) (P j))∧history_Clash_B1 l (zs,BB l) (i:Int)=some (.inl ((i+1:Nat):Int))):=fun i hi=>by
  have hw2:w64 ((i:Int)+1)=((i+1:Nat):Int):=by rw [w64_id (by omega) (by omega)]; omega
  have he:history_Clash_B2 l (zs,BB l) (i:Int) (zs.length:Int)=some (.inr (.inl ((i+1:Nat):Int))):=by
   unfold history_Clash_B2
   rw [if_neg (d_f (by show ¬ (zs.length:Int)<(zs.length:Int); omega))]
   show some (Sum.inr (Sum.inl (w64 ((i:Int)+1))))=_
   rw [hw2]
  have hB:history_Clash_B1 l (zs,BB l) (i:Int)=loopO (fun y=>history_Clash_B2 l (zs,BB l) (i:Int) y) 0:=by
   unfold history_Clash_B1
   dsimp only
   rw [if_pos (d_t (by omega)),asrt_pos (by omega),asrt_pos (by omega)]; rfl
  rw [hB]
  rcases loop_first (step:=fun y=>history_Clash_B2 l (zs,BB l) (i:Int) y) zs.length (fun k=>(k:Int)) (fun j=>CL l (P i) (P j)) (fun j=>.inr (P i,P j,true,⟨0,0⟩)) (fun j hj hn=>by rw [inner i hi j hj,if_neg hn]) (fun j hj hn=>by rw [inner i hi j hj,if_pos hn]) he with ⟨j,a,b,c,d⟩ | ⟨a,d⟩
  ·exact .inl ⟨j,a,b,c,d⟩
  ·exact .inr ⟨a,d⟩
 have hend:history_Clash_B1 l (zs,BB l) (zs.length:Int)=some (.inr (0,0,false,⟨0,0⟩)):=by
  unfold history_Clash_B1
  rw [if_neg (d_f (by show ¬ (zs.length:Int)<(zs.length:Int); omega))]; rfl
 have hmono:∀ i j:Nat,i<zs.length→j<zs.length→(i<j↔P i<P j):=fun i j hi hj=>by
  constructor
  ·intro h; have:=hup i j h hj; rw [hPk,hPk] at this; exact this
  ·intro h
   rcases Nat.lt_trichotomy i j with q | q | q
   ·exact q
   ·subst q; omega
   ·have:=hup j i q hi; rw [hPk,hPk] at this; omega
 have hbad:∀ i:Nat,i<zs.length→(∃ j,j<zs.length∧CL l (P i) (P j))→∃ j,j<zs.length∧CL l (P i) (P j)∧(∀ j',j'<j→¬ CL l (P i) (P j'))∧history_Clash_B1 l (zs,BB l) (i:Int)=some (.inr (P i,P j,true,⟨0,0⟩)):=fun i hi ⟨j,a,b⟩=>by
  rcases outer i hi with h | ⟨h,_⟩
  ·exact h
  ·exact absurd b (h j a)
 have hfun:∃ J:Nat→Nat,∀ i:Nat,i<zs.length→(∃ j,j<zs.length∧CL l (P i) (P j))→J i<zs.length∧CL l (P i) (P (J i))∧(∀ j',j'<J i→¬ CL l (P i) (P j'))∧history_Clash_B1 l (zs,BB l) (i:Int)=some (.inr (P i,P (J i),true,⟨0,0⟩)):=by
  refine Classical.axiomOfChoice (r:=fun i j=>i<zs.length→(∃ j,j<zs.length∧CL l (P i) (P j))→j<zs.length∧CL l (P i) (P j)∧(∀ j',j'<j→¬ CL l (P i) (P j'))∧history_Clash_B1 l (zs,BB l) (i:Int)=some (.inr (P i,P j,true,⟨0,0⟩))) fun i=>?_
  by_cases h:i<zs.length∧∃ j,j<zs.length∧CL l (P i) (P j)
  ·obtain ⟨j,hj⟩:=hbad i h.1 h.2
   exact ⟨j,fun _ _=>hj⟩
  ·exact ⟨0,fun a b=>absurd ⟨a,b⟩ h⟩
 obtain ⟨J,hJ⟩:=hfun
 rcases loop_first (step:=fun y=>history_Clash_B1 l (zs,BB l) y) zs.length (fun k=>(k:Int)) (fun i=>∃ j,j<zs.length∧CL l (P i) (P j)) (fun i=>(P i,P (J i),true,⟨0,0⟩))
  (fun i hi hn=>by
   rcases outer i hi with ⟨j,a,b,_⟩ | ⟨_,h⟩
   ·exact absurd ⟨j,a,b⟩ hn
   ·exact h) (fun i hi hn=>(hJ i hi hn).2.2.2) hend with ⟨i,a,b,c,d⟩ | ⟨a,d⟩
 ·obtain ⟨g1,g2,g3,_⟩:=hJ i a b
  refine ⟨(P i,P (J i),true),.inr ⟨rfl,⟨(hV _).2 ⟨i,a,rfl⟩,(hV _).2 ⟨J i,g1,rfl⟩⟩,g2,fun x y ⟨hx,hy⟩ hxy=>?_⟩,d⟩
  obtain ⟨m,m1,rfl⟩:=(hV _).1 hx
  obtain ⟨n,n1,rfl⟩:=(hV _).1 hy
  show P i<P m∨(P i=P m∧P (J i)≤P n)
  rcases Nat.lt_trichotomy m i with q | q | q
  ·exact absurd ⟨n,n1,hxy⟩ (c m q)
  ·subst q
   refine .inr ⟨rfl,?_⟩
   by_cases q2:n<J m
   ·exact absurd hxy (g3 n q2)
   ·by_cases q3:n=J m
    ·rw [q3]; exact Int.le_refl _
    ·have:=(hmono (J m) n g1 n1).1 (by omega)
     omega
  ·exact .inl ((hmono i m a m1).1 q)
 ·refine ⟨(0,0,false),.inl ⟨rfl,rfl,rfl,fun x y ⟨hx,hy⟩ hxy=>?_⟩,d⟩
  obtain ⟨m,m1,rfl⟩:=(hV _).1 hx
  obtain ⟨n,n1,rfl⟩:=(hV _).1 hy
  exact a m m1 ⟨n,n1,hxy⟩
def exL (t:Int):List Span:=[⟨1,1,0,t⟩,⟨2,0,3,5⟩]
theorem two {P:Nat→Prop} (h0:P 0) (h1:P 1):∀ k,k<2→P k:=fun k hk=>by
 match k,hk with
 | 0,_=>exact h0
 | 1,_=>exact h1
theorem ex_good {t:Int} (ht:0≤t∧t≤1000000000):Good (exL t):=by
 refine ⟨by show 2≤200; decide,two (.inl rfl) (.inr rfl),two ?_ (by show ¬ rngBad ⟨2,0,3,5⟩; decide),fun j k hj hk h1 h2 h3=>?_⟩
 ·unfold rngBad exL
  show ¬ ((1:Int)<0∨1000000000<(1:Int)∨((1:Int)=1∧(1:Int)=0)∨(0:Int)<0∨1000000000<(0:Int)∨(t≠-1∧(t<0∨1000000000<t)))
  omega
 ·have e:∀ k:Nat,k<2→(lget (exL t) (k:Int)).Kind=1→k=0:=two (fun _=>rfl) (fun h=>by exact absurd h (by show ¬ (2:Int)=1; decide))
  rw [e j hj h1,e k hk h2]
section
variable {t:Int} (ht:0≤t∧t≤1000000000)
theorem ex_cnt (ht:0≤t∧t≤1000000000) (v:Int) (i:Nat):cnt (exL t) v i↔(i=0∧v=1)∨(i=1∧v=0):=by
 rw [cnt_iff (ex_good ht)]
 constructor
 ·rintro ⟨h1,h2,_⟩
  have:∀ i,i<2→val (exL t) i=v→(i=0∧v=1)∨(i=1∧v=0):=two (fun h=>.inl ⟨rfl,h.symm⟩) (fun h=>.inr ⟨rfl,h.symm⟩)
  exact this i h1 h2
 ·rintro (⟨rfl,rfl⟩ | ⟨rfl,rfl⟩)
  ·exact ⟨by show 0<2; decide,rfl,.inl ht.1⟩
  ·exact ⟨by show 1<2; decide,rfl,.inl (by show (0:Int)≤5; decide)⟩
theorem ex_has (ht:0≤t∧t≤1000000000) (v:Int):has (exL t) v↔v=0∨v=1:=by
 unfold has
 simp only [ex_cnt ht]
 constructor
 ·rintro ⟨i,⟨_,h⟩ | ⟨_,h⟩⟩
  ·exact .inr h
  ·exact .inl h
 ·rintro (h | h)
  ·exact ⟨1,.inr ⟨rfl,h⟩⟩
  ·exact ⟨0,.inl ⟨rfl,h⟩⟩
theorem ex_fe0:feV (exL t) 0 = -1:=by unfold feV; rw [if_pos rfl]
theorem ex_fe1 (ht:0≤t∧t≤1000000000):feV (exL t) 1=t:=by
 obtain ⟨⟨i,⟨h1,_⟩,h2⟩,_⟩:=fe_min (ex_good ht) (v:=1) (by decide) ((ex_has ht 1).2 (.inr rfl))
 rcases (ex_cnt ht 1 i).1 h1 with ⟨rfl,_⟩ | ⟨_,h⟩
 ·exact h2
 ·cases h
theorem ex_lb0 (ht:0≤t∧t≤1000000000):lbV (exL t) 0=3:=by
 obtain ⟨⟨i,h1,h2⟩,_⟩:=lb_max (ex_good ht) (v:=0) ((ex_has ht 0).2 (.inl rfl))
 rcases (ex_cnt ht 0 i).1 h1 with ⟨_,h⟩ | ⟨rfl,_⟩
 ·cases h
 ·exact h2
theorem ex_lb1 (ht:0≤t∧t≤1000000000):lbV (exL t) 1=0:=by
 obtain ⟨⟨i,h1,h2⟩,_⟩:=lb_max (ex_good ht) (v:=1) ((ex_has ht 1).2 (.inr rfl))
 rcases (ex_cnt ht 1 i).1 h1 with ⟨rfl,_⟩ | ⟨_,h⟩
 ·exact h2
 ·cases h
theorem ex_cl00:¬ CL (exL t) 0 0:=by
 unfold CL
 rw [if_pos rfl]
 exact fun h=>h.1 rfl
theorem ex_cl11:¬ CL (exL t) 1 1:=by
 unfold CL
 rw [if_pos rfl]
 rintro ⟨_,h | ⟨w,i,_,_,h1,h2,_⟩⟩
 ·exact h 0 (by show 0<2; decide) ⟨rfl,rfl⟩
 ·have:∀ i,i<2→¬ rdK (exL t) 1 i:=two (fun h=>by exact absurd h.1 (by show ¬ (1:Int)=2; decide)) (fun h=>by exact absurd h.2.1 (by show ¬ (0:Int)=1; decide))
  exact this i h1 h2
theorem ex_cl01 (ht:0≤t∧t≤1000000000):CL (exL t) 0 1↔t<3:=by
 unfold CL
 rw [if_neg (by decide),ex_fe0,ex_fe1 ht,ex_lb0 ht,ex_lb1 ht]
 omega
theorem ex_cl10 (ht:0≤t∧t≤1000000000):CL (exL t) 1 0↔t<3:=by
 unfold CL
 rw [if_neg (by decide),ex_fe0,ex_fe1 ht,ex_lb0 ht,ex_lb1 ht]
 omega
end
theorem ex_clash:history_Clash (exL 2)=some (0,1,true,⟨0,0⟩):=by
 have ht:(0:Int)≤2∧(2:Int)≤1000000000:=by decide
 obtain ⟨r,h1,h2⟩:=clash_prog (ex_good ht)
 have h3:ClS (exL 2) (fun a b=>has (exL 2) a∧has (exL 2) b) (0,1,true):=by
  refine .inr ⟨rfl,⟨(ex_has ht 0).2 (.inl rfl),(ex_has ht 1).2 (.inr rfl)⟩,(ex_cl01 ht).2 (by decide),fun a b ⟨ha,hb⟩ hc=>?_⟩
  show (0:Int)<a∨((0:Int)=a∧(1:Int)≤b)
  rcases (ex_has ht a).1 ha with rfl | rfl
  ·rcases (ex_has ht b).1 hb with rfl | rfl
   ·exact absurd hc ex_cl00
   ·exact .inr ⟨rfl,by decide⟩
  ·exact .inl (by decide)
 rw [h2,h1.uniq h3]
theorem ex_line:history_Clash (exL 9)=some (0,0,false,⟨0,0⟩):=by
 have ht:(0:Int)≤9∧(9:Int)≤1000000000:=by decide
 obtain ⟨r,h1,h2⟩:=clash_prog (ex_good ht)
 have h3:ClS (exL 9) (fun a b=>has (exL 9) a∧has (exL 9) b) (0,0,false):=by
  refine .inl ⟨rfl,rfl,rfl,fun a b ⟨ha,hb⟩=>?_⟩
  rcases (ex_has ht a).1 ha with rfl | rfl <;> rcases (ex_has ht b).1 hb with rfl | rfl
  ·exact ex_cl00
  ·rw [ex_cl01 ht]; decide
  ·rw [ex_cl10 ht]; decide
  ·exact ex_cl11
 rw [h2,h1.uniq h3]
theorem begun_eq:law_historyBegun=some true:=by
 unfold law_historyBegun history_Linear
 have e1:history_Clash [(⟨1,1,0,2⟩:Span),(⟨2,0,3,5⟩:Span)]=some (0,1,true,⟨0,0⟩):=ex_clash
 have e2:history_Clash [(⟨1,1,0,9⟩:Span),(⟨2,0,3,5⟩:Span)]=some (0,0,false,⟨0,0⟩):=ex_line
 rw [e1,e2]; rfl
theorem clash_bad {l:List Span} (h:¬ (chk l).Code=0):history_Clash l=some (0,0,false,chk l):=by
 unfold history_Clash
 rw [check_eq,ob_some]
 exact if_pos (n_t h)
theorem same_self {l:List Span} (hl:l.length≤400):law_sameSpans l l=some true:=by
 unfold law_sameSpans
 rw [if_neg (n_f rfl)]
 unfold law_sameSpans_L1
 refine loop_run (step:=fun y=>law_sameSpans_B1 l l y) l.length (fun k=>(k:Int)) (fun k hk=>?_) ?_
 ·have hw:w64 ((k:Int)+1)=((k+1:Nat):Int):=by rw [w64_id (by omega) (by omega)]; omega
  show law_sameSpans_B1 l l (k:Int)=_
  unfold law_sameSpans_B1
  rw [if_pos (d_t (by omega)),asrt_pos (by omega),asrt_pos (by omega),if_neg (by simp),hw]
 ·show law_sameSpans_B1 l l (l.length:Int)=_
  unfold law_sameSpans_B1
  rw [if_neg (d_f (by omega))]; rfl
theorem exists_min (key:Int→Int):∀ S:List Int,S≠[]→∃ v∈S,∀ w∈S,key v≤key w
 | [],h=>absurd rfl h
 | [v],_=>⟨v,List.mem_cons_self ..,fun w hw=>by rw [List.mem_singleton.1 hw]; exact Int.le_refl _⟩
 | v::u::S,_=>by
  obtain ⟨x,hx,hm⟩:=exists_min key (u::S) (by simp)
  by_cases c:key v≤key x
  ·refine ⟨v,List.mem_cons_self ..,fun w hw=>?_⟩
   rcases List.mem_cons.1 hw with rfl | hw
   ·exact Int.le_refl _
   ·exact Int.le_trans c (hm w hw)
  ·refine ⟨x,List.mem_cons_of_mem _ hx,fun w hw=>?_⟩
   rcases List.mem_cons.1 hw with rfl | hw
   ·omega
   ·exact hm w hw
theorem exists_first (f b:Int→Int) (S:List Int) (hne:S≠[]) (hc:∀ v∈S,∀ w∈S,v≠w→¬ (f v<b w∧f w<b v)):∃ v∈S,∀ w∈S,w≠v→b v≤f w:=by
 obtain ⟨v,hv,hm⟩:=exists_min (fun v=>2*min (f v) (b v)+if f v<b v then 1 else 0) S hne
 refine ⟨v,hv,fun w hw hwv=>?_⟩
 have h1:=hc v hv w hw (fun e=>hwv e.symm)
 have h2:=hm w hw
 split at h2 <;> split at h2 <;> omega
def ahd (l:List Span) (k i:Int):Prop:=0≤(lget l k).To∧(lget l k).To<(lget l i).From
instance (l:List Span) (k i:Int):Decidable (ahd l k i):=by unfold ahd; infer_instance
def RV (l:List Span):Int→List Int→Prop
 | _,[]=>True
 | now,z::o=>((lget l z).Kind=1∧RV l (lget l z).Value o)∨((lget l z).Kind≠1∧(lget l z).Value=now∧RV l now o)
theorem RV_tail {l:List Span} {now z:Int} {o:List Int} (h:RV l now (z::o)):RV l (lget l z).Value o:=by
 rcases h with ⟨_,h⟩ | ⟨_,e,h⟩
 ·exact h
 ·rw [e]; exact h
structure IsOrd (l:List Span) (o:List Int):Prop where
 perm:o.Perm (cl l l.length)
 ah:o.Pairwise fun x y=>¬ ahd l y x
 rv:RV l 0 o
theorem cl_nodup (l:List Span):(cl l l.length).Nodup:=by
 unfold cl
 exact List.pairwise_map.2 ((List.nodup_range.filter _).imp fun h e=>h (by omega))
theorem val_ne0 {l:List Span} (hg:Good l) {z:Int} (hz:0≤z∧z<(l.length:Int)) (hk:(lget l z).Kind=1):(lget l z).Value≠0:=by
 have:=hg.rng z.toNat (by omega)
 unfold rngBad at this
 rw [show ((z.toNat:Nat):Int)=z by omega] at this
 intro e
 exact this (.inr (.inr (.inl ⟨hk,e⟩)))
theorem cl_in {l:List Span} {z:Int} (h:z∈cl l l.length):0≤z∧z<(l.length:Int):=by
 obtain ⟨i,h1,_,rfl⟩:=mem_cl.1 h
 omega
def nowAt (l:List Span) (now:Int) (o:List Int):Nat→Int
 | 0=>now
 | k+1=>(lget l (lget o (k:Int))).Value
theorem lget_cons {α:Type} [Inhabited α] (x:α) (o:List α) (k:Nat):lget (x::o) ((k+1:Nat):Int)=lget o (k:Int):=by
 unfold lget
 simp [List.getD]
theorem lget_zero {α:Type} [Inhabited α] (x:α) (o:List α):lget (x::o) ((0:Nat):Int)=x:=rfl
theorem rv_at {l:List Span}:∀ {o:List Int} {now:Int},RV l now o↔∀ k:Nat,k<o.length→(lget l (lget o (k:Int))).Kind=1∨(lget l (lget o (k:Int))).Value=nowAt l now o k
 | [],now=>⟨fun _ k hk=>by simp at hk,fun _=>trivial⟩
 | z::o,now=>by
  constructor
  ·intro h k hk
   match k with
   | 0=>
    rw [lget_zero]
    rcases h with ⟨h1,_⟩ | ⟨_,h2,_⟩
    ·exact .inl h1
    ·exact .inr h2
   | k+1=>
    have:=(rv_at.1 (RV_tail h)) k (by simpa using hk)
    rw [lget_cons]
    rcases this with h1 | h1
    ·exact .inl h1
    ·refine .inr (h1.trans ?_)
     cases k with
     | zero=>rfl
     | succ k=>show _=(lget l (lget (z::o) ((k+1:Nat):Int))).Value; rw [lget_cons]; rfl
  ·intro h
   have h0:=h 0 (by simp)
   rw [lget_zero] at h0
   have ht:RV l (lget l z).Value o:=rv_at.2 fun k hk=>by
    have:=h (k+1) (by simpa using hk)
    rw [lget_cons] at this
    rcases this with h1 | h1
    ·exact .inl h1
    ·refine .inr (h1.trans ?_)
     cases k with
     | zero=>rfl
     | succ k=>show (lget l (lget (z::o) ((k+1:Nat):Int))).Value=_; rw [lget_cons]; rfl
   by_cases c:(lget l z).Kind=1
   ·exact .inl ⟨c,ht⟩
   ·rcases h0 with h0 | h0
    ·exact absurd h0 c
    ·have h0:(lget l z).Value=now:=h0
     exact .inr ⟨c,h0,by rw [h0] at ht; exact ht⟩
section
variable {l:List Span} {o:List Int}
abbrev oz (o:List Int) (k:Nat):Int:=lget o (k:Int)
variable (hg:Good l) (ho:IsOrd l o)
theorem ord_in (ho:IsOrd l o) {k:Nat} (hk:k<o.length):0≤oz o k∧oz o k<(l.length:Int):=cl_in (ho.perm.mem_iff.1 (lget_mem o (k:Int) (by omega)))
theorem ord_inj (ho:IsOrd l o) {j k:Nat} (hj:j<o.length) (hk:k<o.length) (e:oz o j=oz o k):j=k:=by
 have hnd:o.Nodup:=ho.perm.nodup_iff.2 (cl_nodup l)
 have h1:=List.pairwise_iff_getElem.1 hnd
 dsimp only [oz] at e
 rw [lget_nat o j hj,lget_nat o k hk] at e
 rcases Nat.lt_trichotomy j k with q | q | q
 ·exact absurd e (h1 j k hj hk q)
 ·exact q
 ·exact absurd e.symm (h1 k j hk hj q)
theorem cnt_cl (hg:Good l) {v:Int} {i:Nat} (h:cnt l v i):(i:Int)∈cl l l.length∧(lget l (i:Int)).Value=v:=(mem_cnt hg).2 ⟨i,h,rfl⟩
end
structure BlkOk (l:List Span) (v:Int) (s:List Int):Prop where
 mem:∀ z,z∈s↔(z∈cl l l.length∧(lget l z).Value=v)
 nd:s.Nodup
 sh:(v=0∧∀ z∈s,(lget l z).Kind≠1)∨(v≠0∧∃ w r,s=w::r∧(lget l w).Kind=1∧∀ z∈r,(lget l z).Kind≠1)
 ah:s.Pairwise fun x y=>¬ ahd l y x
theorem RV_app {l:List Span}:∀ {s o:List Int} {now v:Int},(∀ z∈s,(lget l z).Value=v)→RV l now s→s≠[]→RV l v o→RV l now (s++o)
 | [],o,now,v,_,_,h,_=>absurd rfl h
 | [z],o,now,v,hs,h,_,ho=>by
  have hz:=hs z (by simp)
  rcases h with ⟨h1,_⟩ | ⟨h1,h2,_⟩
  ·exact .inl ⟨h1,by rw [hz]; exact ho⟩
  ·refine .inr ⟨h1,h2,?_⟩
   rw [← h2,hz]; exact ho
 | z::y::s,o,now,v,hs,h,_,ho=>by
  have hs':∀ x∈y::s,(lget l x).Value=v:=fun x hx=>hs x (List.mem_cons_of_mem _ hx)
  rcases h with ⟨h1,h2⟩ | ⟨h1,h2,h3⟩
  ·exact .inl ⟨h1,RV_app hs' h2 (by simp) ho⟩
  ·exact .inr ⟨h1,h2,RV_app hs' h3 (by simp) ho⟩
theorem RV_reads {l:List Span} {v:Int}:∀ {r:List Int},(∀ z∈r,(lget l z).Kind≠1∧(lget l z).Value=v)→RV l v r
 | [],_=>trivial
 | z::r,h=>.inr ⟨(h z (by simp)).1,(h z (by simp)).2,RV_reads fun x hx=>h x (List.mem_cons_of_mem _ hx)⟩
theorem BlkOk.rv {l:List Span} {v:Int} {s:List Int} (h:BlkOk l v s) {now:Int} (hn:v=0→now=0):RV l now s:=by
 rcases h.sh with ⟨h1,h2⟩ | ⟨h1,w,r,rfl,h3,h4⟩
 ·rw [hn h1]
  exact RV_reads fun z hz=>⟨h2 z hz,((h.mem z).1 hz).2.trans h1⟩
 ·refine .inl ⟨h3,?_⟩
  rw [((h.mem w).1 (by simp)).2]
  exact RV_reads fun z hz=>⟨h4 z hz,((h.mem z).1 (by simp [hz])).2⟩
theorem lb_pos {l:List Span} (hg:Good l) {v:Int} (hv:has l v):0≤lbV l v:=by
 obtain ⟨⟨i,h1,h2⟩,_⟩:=lb_max hg hv
 have:=(good_rng hg (k:=i) ((cnt_iff hg v i).1 h1).1).1
 omega
theorem has_ne {l:List Span} {v:Int} {s:List Int} (hg:Good l) (hv:has l v) (h:BlkOk l v s):s≠[]:=by
 obtain ⟨i,hi⟩:=hv
 have:=(h.mem (i:Int)).2 (cnt_cl hg hi)
 rintro rfl
 simp at this
theorem rv_blocks {l:List Span} (hg:Good l) (bl:Int→List Int):∀ (vs:List Int) (now:Int),(∀ v∈vs,has l v∧BlkOk l v (bl v))→(0∈vs→∃ r,vs=0::r∧0∉r∧now=0)→RV l now (vs.flatMap bl)
 | [],now,_,_=>trivial
 | v::vs,now,h,h0=>by
  rw [List.flatMap_cons]
  obtain ⟨h1,h2⟩:=h v (by simp)
  refine RV_app (v:=v) (fun z hz=>((h2.mem z).1 hz).2) (h2.rv fun e=>?_) (has_ne hg h1 h2) (rv_blocks hg bl vs v (fun w hw=>h w (List.mem_cons_of_mem _ hw)) fun hz=>?_)
  ·subst e
   obtain ⟨_,_,_,q⟩:=h0 (by simp)
   exact q
  ·exfalso
   obtain ⟨r,q1,q2,_⟩:=h0 (List.mem_cons_of_mem _ hz)
   simp only [List.cons.injEq] at q1
   rw [q1.2] at hz
   exact q2 hz
theorem blocks_ord {l:List Span} (hg:Good l) {vs:List Int} (bl:Int→List Int) (hb:∀ v∈vs,BlkOk l v (bl v)) (hvs:∀ v,v∈vs↔has l v) (nd:vs.Nodup) (hp:vs.Pairwise fun v w=>lbV l v≤feV l w):IsOrd l (vs.flatMap bl):=by
 have hcl:∀ z∈cl l l.length,has l (lget l z).Value:=fun z hz=>by
  obtain ⟨i,h1,h2,rfl⟩:=mem_cl.1 hz
  exact ⟨i,(cnt_iff hg _ i).2 ⟨h1,rfl,h2⟩⟩
 refine ⟨?_,?_,?_⟩
 ·refine (List.perm_ext_iff_of_nodup ?_ (cl_nodup l)).2 fun z=>?_
  ·refine List.pairwise_flatMap.2 ⟨fun v hv=>(hb v hv).nd,nd.imp_of_mem fun {v w} hv hw hne x hx y hy e=>?_⟩
   subst e
   exact hne ((((hb v hv).mem x).1 hx).2.symm.trans (((hb w hw).mem x).1 hy).2)
  ·rw [List.mem_flatMap]
   constructor
   ·rintro ⟨v,hv,hz⟩; exact (((hb v hv).mem z).1 hz).1
   ·intro hz
    have hv:=(hvs _).2 (hcl z hz)
    exact ⟨_,hv,((hb _ hv).mem z).2 ⟨hz,rfl⟩⟩
 ·refine List.pairwise_flatMap.2 ⟨fun v hv=>(hb v hv).ah,hp.imp_of_mem fun {v w} hv hw hle x hx y hy h=>?_⟩
  obtain ⟨x1,x2⟩:=((hb v hv).mem x).1 hx
  obtain ⟨y1,y2⟩:=((hb w hw).mem y).1 hy
  have hlb:=lb_max hg ((hvs v).1 hv)
  obtain ⟨i,i1,i2,rfl⟩:=mem_cl.1 x1
  obtain ⟨j,j1,j2,rfl⟩:=mem_cl.1 y1
  have a1:=hlb.2 i ((cnt_iff hg v i).2 ⟨i1,x2,i2⟩)
  by_cases c:w=0
  ·subst c
   have:=lb_pos hg ((hvs v).1 hv)
   have e:feV l 0 = -1:=by unfold feV; rw [if_pos rfl]
   omega
  ·have hfe:=fe_min hg c ((hvs w).1 hw)
   have a2:=hfe.2 j ⟨(cnt_iff hg w j).2 ⟨j1,y2,j2⟩,h.1⟩
   have h2:=h.2
   dsimp only [frm0,too] at a1 a2
   omega
 ·refine rv_blocks hg bl vs 0 (fun v hv=>⟨(hvs v).1 hv,hb v hv⟩) fun hz=>?_
  match vs,nd,hp,hz,hvs with
  | v::r,nd,hp,hz,hvs=>
   rcases List.mem_cons.1 hz with rfl | hz
   ·exact ⟨r,rfl,(List.nodup_cons.1 nd).1,rfl⟩
   ·exfalso
    have h1:=(List.pairwise_cons.1 hp).1 0 hz
    have h2:=lb_pos hg ((hvs v).1 (by simp))
    have e:feV l 0 = -1:=by unfold feV; rw [if_pos rfl]
    omega
theorem blk_of {l:List Span} (hg:Good l) {v:Int} (hv:has l v) (hs:¬ SC l v) {wl r:List Int} (hw:(wl=[]∧∀ i,i<l.length→¬ (knd l i=1∧val l i=v))∨∃ w:Nat,w<l.length∧knd l w=1∧val l w=v∧wl=[(w:Int)])
  (hr:r.Perm (rds l l.length v)) (hu:r.Pairwise fun x y=>(lget l x).From≤(lget l y).From):BlkOk l v (wl++r):=by
 have hmr:∀ z,z∈r↔∃ i:Nat,i<l.length∧rdv l v i∧z=i:=fun z=>by rw [hr.mem_iff,mem_rds]
 have hndr:r.Nodup:=hr.nodup_iff.2 (List.pairwise_map.2 ((List.nodup_range.filter _).imp fun h e=>h (by omega)))
 have hrk:∀ z∈r,(lget l z).Kind≠1:=fun z hz=>by
  obtain ⟨i,_,h2,rfl⟩:=(hmr z).1 hz
  exact h2.1.1
 have hrc:∀ z∈r,z∈cl l l.length∧(lget l z).Value=v:=fun z hz=>by
  obtain ⟨i,h1,h2,rfl⟩:=(hmr z).1 hz
  exact ⟨mem_cl.2 ⟨i,h1,.inl h2.1.2,rfl⟩,h2.2⟩
 have hrr:∀ i:Nat,cnt l v i→knd l i≠1→(i:Int)∈r:=fun i hi hk=>by
  obtain ⟨h1,h2,h3⟩:=(cnt_iff hg v i).1 hi
  refine (hmr _).2 ⟨i,h1,⟨⟨hk,?_⟩,h2⟩,rfl⟩
  rcases h3 with h3 | h3
  ·exact h3
  ·exact absurd h3.1 hk
 have hra:r.Pairwise fun x y=>¬ ahd l y x:=hu.imp_of_mem fun {x y} hx hy hle h=>by
  obtain ⟨j,j1,j2,rfl⟩:=(hmr y).1 hy
  have:=hg.rng j j1
  unfold rngBad at this
  unfold ahd at h
  omega
 have hcnt:∀ z,z∈cl l l.length∧(lget l z).Value=v↔∃ i:Nat,cnt l v i∧z=i:=fun z=>mem_cnt hg
 rcases hw with ⟨rfl,hno⟩ | ⟨w,w1,w2,w3,rfl⟩
 ·rw [List.nil_append]
  refine ⟨fun z=>⟨hrc z,fun hz=>?_⟩,hndr,?_,hra⟩
  ·obtain ⟨i,hi,rfl⟩:=(hcnt z).1 hz
   obtain ⟨h1,h2,h3⟩:=(cnt_iff hg v i).1 hi
   exact hrr i hi fun hk=>hno i h1 ⟨hk,h2⟩
  ·refine .inl ⟨?_,hrk⟩
   apply Classical.byContradiction
   intro h0
   exact hs ⟨h0,.inl fun i hi hk=>hno i hi hk⟩
 ·have hv0:v≠0:=by
   have:=val_ne0 hg (z:=(w:Int)) (by omega) w2
   rw [← w3]; exact this
  have hwc:cnt l v w:=by
   obtain ⟨i,hi⟩:=hv
   obtain ⟨h1,h2,h3⟩:=(cnt_iff hg v i).1 hi
   by_cases hk:knd l i=1
   ·have:=hg.one i w h1 w1 hk w2 (h2.trans w3.symm)
    rw [← this]; exact hi
   ·refine (cnt_iff hg v w).2 ⟨w1,w3,.inr ⟨w2,i,h1,?_⟩⟩
    rw [w3,rdK_iff hg h1]
    rcases h3 with h3 | h3
    ·exact ⟨⟨hk,h3⟩,h2⟩
    ·exact absurd h3.1 hk
  refine ⟨fun z=>?_,?_,.inr ⟨hv0,(w:Int),r,rfl,w2,hrk⟩,?_⟩
  ·rw [List.singleton_append,List.mem_cons]
   constructor
   ·rintro (rfl | hz)
    ·exact (hcnt _).2 ⟨w,hwc,rfl⟩
    ·exact hrc z hz
   ·intro hz
    obtain ⟨i,hi,rfl⟩:=(hcnt z).1 hz
    by_cases hk:knd l i=1
    ·obtain ⟨h1,h2,_⟩:=(cnt_iff hg v i).1 hi
     exact .inl (by rw [hg.one i w h1 w1 hk w2 (h2.trans w3.symm)])
    ·exact .inr (hrr i hi hk)
  ·rw [List.singleton_append,List.nodup_cons]
   exact ⟨fun h=>hrk _ h w2,hndr⟩
  ·rw [List.singleton_append,List.pairwise_cons]
   refine ⟨fun y hy h=>?_,hra⟩
   obtain ⟨j,j1,j2,rfl⟩:=(hmr y).1 hy
   exact hs ⟨hv0,.inr ⟨w,j,w1,⟨w2,w3⟩,j1,(rdK_iff hg j1 v).2 j2,h.2⟩⟩
theorem has_eq {xs:List Int} (hx:xs.length≤1000) (z:Int):R_Has xs z=some (decide (z∈xs)):=by
 unfold R_Has R_Has_L1
 have hst:∀ k:Nat,k<xs.length→R_Has_B1 xs z (k:Int)=if lget xs (k:Int)=z then some (.inr true) else some (.inl ((k+1:Nat):Int)):=fun k hk=>by
  have hw:w64 ((k:Int)+1)=((k+1:Nat):Int):=by rw [w64_id (by omega) (by omega)]; omega
  unfold R_Has_B1
  rw [if_pos (d_t (by omega)),asrt_pos (by omega),hw]
  by_cases q:lget xs (k:Int)=z
  ·rw [if_pos (d_t q),if_pos q]
  ·rw [if_neg (d_f q),if_neg q]
 have he:R_Has_B1 xs z (xs.length:Int)=some (.inr false):=by
  unfold R_Has_B1
  rw [if_neg (d_f (by omega))]; rfl
 rcases loop_any (step:=fun y=>R_Has_B1 xs z y) xs.length (fun k=>(k:Int)) (fun k=>lget xs (k:Int)=z) (rb:=true) (r:=false) (fun k hk hn=>by rw [hst k hk,if_neg hn]) (fun k hk hn=>by rw [hst k hk,if_pos hn]) he with ⟨⟨j,a,b⟩,h5⟩ | ⟨a,h5⟩
 ·have hm:z∈xs:=mem_lget.2 ⟨j,a,b⟩
  rw [decide_eq_true hm]; exact h5
 ·have hm:¬ z∈xs:=fun h=>by
   obtain ⟨k,hk,e⟩:=mem_lget.1 h
   exact a k hk e
  rw [decide_eq_false hm]; exact h5
def free (ar:List bunch) (row:List Nat) (b:Nat):Prop:=∀ a∈row,a≠b→(lget ar (b:Int)).last≤(lget ar (a:Int)).first
noncomputable instance (ar:List bunch) (row:List Nat) (b:Nat):Decidable (free ar row b):=Classical.propDecidable _
theorem order11 {a b:Nat} {ar:List bunch} (ha:a<ar.length) (hb:b<ar.length):history_Order_1_1 a b ar=some (decide (a≠b∧(lget ar (a:Int)).first<(lget ar (b:Int)).last)):=by
 unfold history_Order_1_1
 rw [asrt_pos ⟨ha,hb⟩,asrt_pos (fun _=>by omega),asrt_pos (fun _=>by omega)]
 show some (_&&_)=_
 congr 1
 exact b_iff (by simp)
theorem order1_eq {ar:List bunch} {row:List Nat} (hr:row.length≤400) (hin:∀ k∈row,k<ar.length) {b:Nat} (hb:b<ar.length):history_Order_1 b row ar=some (decide (free ar row b)):=by
 unfold history_Order_1 slices_ContainsFunc_history_bunch_history_bunch slices_IndexFunc_history_bunch_history_bunch_v1 slices_IndexFunc_history_bunch_history_bunch_v1_L1
 have hst:∀ k:Nat,k<row.length→slices_IndexFunc_history_bunch_history_bunch_v1_B1 b row ar (k:Int)=if lget row (k:Int)≠b∧(lget ar ((lget row (k:Int):Nat):Int)).first<(lget ar (b:Int)).last then some (.inr (k:Int)) else some (.inl ((k+1:Nat):Int)):=fun k hk=>by
  have hw2:w64 ((k:Int)+1)=((k+1:Nat):Int):=by rw [w64_id (by omega) (by omega)]; omega
  have hz:=hin _ (lget_mem row (k:Int) (by omega))
  unfold slices_IndexFunc_history_bunch_history_bunch_v1_B1
  rw [if_pos (d_t (by omega)),asrt_pos (by omega),asrt_pos (by omega),order11 hz hb,ob_some,hw2]
  by_cases q:lget row (k:Int)≠b∧(lget ar ((lget row (k:Int):Nat):Int)).first<(lget ar (b:Int)).last
  ·rw [if_pos (d_t q),if_pos q]
  ·rw [if_neg (d_f q),if_neg q]
 have he:slices_IndexFunc_history_bunch_history_bunch_v1_B1 b row ar (row.length:Int)=some (.inr (-1)):=by
  unfold slices_IndexFunc_history_bunch_history_bunch_v1_B1
  rw [if_neg (d_f (by omega))]; rfl
 rcases loop_first (step:=fun y=>slices_IndexFunc_history_bunch_history_bunch_v1_B1 b row ar y) row.length (fun k=>(k:Int)) (fun k=>lget row (k:Int)≠b∧(lget ar ((lget row (k:Int):Nat):Int)).first<(lget ar (b:Int)).last) (fun k=>(k:Int)) (r:=-1) (fun k hk hn=>by rw [hst k hk,if_neg hn]) (fun k hk hn=>by rw [hst k hk,if_pos hn]) he with ⟨j,a,c,_,h5⟩ | ⟨a,h5⟩
 ·have h5:loopO (fun y=>slices_IndexFunc_history_bunch_history_bunch_v1_B1 b row ar y) 0=some (j:Int):=h5
  rw [h5]
  show some (!(decide (0≤(j:Int))))=_
  rw [d_t (by omega)]
  have:¬ free ar row b:=fun h=>by
   have:=h _ (lget_mem row (j:Int) (by omega)) c.1
   have:=c.2
   omega
  rw [decide_eq_false this]; rfl
 ·have h5:loopO (fun y=>slices_IndexFunc_history_bunch_history_bunch_v1_B1 b row ar y) 0=some (-1):=h5
  rw [h5]
  show some (!false)=_
  have:free ar row b:=fun z hz hne=>by
   obtain ⟨k,hk,rfl⟩:=mem_lget.1 hz
   have:=a k hk
   apply Classical.byContradiction
   intro q
   exact this ⟨hne,by omega⟩
  rw [decide_eq_true this]; rfl
theorem index_eq {ar:List bunch} {row:List Nat} (hr:row.length≤400) (hin:∀ k∈row,k<ar.length) (hex:∃ b∈row,free ar row b):∃ j:Nat,j<row.length∧free ar row (lget row (j:Int))∧slices_IndexFunc_history_bunch_history_bunch row ar=some (j:Int):=by
 unfold slices_IndexFunc_history_bunch_history_bunch slices_IndexFunc_history_bunch_history_bunch_L1
 have hst:∀ k:Nat,k<row.length→slices_IndexFunc_history_bunch_history_bunch_B1 row ar (k:Int)=if free ar row (lget row (k:Int)) then some (.inr (k:Int)) else some (.inl ((k+1:Nat):Int)):=fun k hk=>by
  have hw2:w64 ((k:Int)+1)=((k+1:Nat):Int):=by rw [w64_id (by omega) (by omega)]; omega
  have hz:=hin _ (lget_mem row (k:Int) (by omega))
  unfold slices_IndexFunc_history_bunch_history_bunch_B1
  rw [if_pos (d_t (by omega)),asrt_pos (by omega),asrt_pos (by omega),order1_eq hr hin hz,ob_some,hw2]
  by_cases q:free ar row (lget row (k:Int))
  ·rw [if_pos (d_t q),if_pos q]
  ·rw [if_neg (d_f q),if_neg q]
 have he:slices_IndexFunc_history_bunch_history_bunch_B1 row ar (row.length:Int)=some (.inr (-1)):=by
  unfold slices_IndexFunc_history_bunch_history_bunch_B1
  rw [if_neg (d_f (by omega))]; rfl
 rcases loop_first (step:=fun y=>slices_IndexFunc_history_bunch_history_bunch_B1 row ar y) row.length (fun k=>(k:Int)) (fun k=>free ar row (lget row (k:Int))) (fun k=>(k:Int)) (r:=-1) (fun k hk hn=>by rw [hst k hk,if_neg hn]) (fun k hk hn=>by rw [hst k hk,if_pos hn]) he with ⟨j,a,c,_,h5⟩ | ⟨a,h5⟩
 ·exact ⟨j,a,c,h5⟩
 ·obtain ⟨b,hb,hf⟩:=hex
  obtain ⟨k,hk,rfl⟩:=mem_lget.1 hb
  exact absurd hf (a k hk)
theorem delete_eq {ar:List bunch} {row:List Nat} (hr:row.length≤400) {j:Nat} (hj:j<row.length):slices_Delete_history_bunch_history_bunch (j:Int) ((j+1:Nat):Int) row ar=some (row.take j++row.drop (j+1)):=by
 have e1:(row.drop (j+1)).take (row.length - (j+1))=row.drop (j+1):=List.take_of_length_le (by rw [List.length_drop]; omega)
 have e2:(row.take j++row.drop (j+1)).length=row.length - 1:=by rw [List.length_append,List.length_take,List.length_drop]; omega
 unfold slices_Delete_history_bunch_history_bunch
 rw [asrt_pos (by omega),if_neg (d_f (by omega)),asrt_pos (by omega),asrt_pos (by omega)]
 simp only [Int.toNat_natCast,e1]
 rw [asrt_pos (by rw [e2]; omega),asrt_pos (by omega),asrt_pos (by omega),asrt_pos (by rw [e2,List.length_map]; omega),asrt_pos trivial]
noncomputable def blk (l:List Span) (b:bunch):List Int:=(if 0≤b.write then [b.write] else [])++So.srtd l b.reads
structure Same (B ar:List bunch):Prop where
 len:ar.length=B.length
 fl:∀ k:Nat,k<B.length→(lget ar (k:Int)).first=(lget B (k:Int)).first∧(lget ar (k:Int)).last=(lget B (k:Int)).last∧(lget ar (k:Int)).write=(lget B (k:Int)).write
theorem order_step {l:List Span} (hl:l.length≤200) (x:Bool×Fault) {row:List Nat} {out:List Int} {ar:List bunch} (hr:row.length≤400) (hin:∀ k∈row,k<ar.length) (hex:∃ b∈row,free ar row b)
  (ho:∀ k∈row,(lget ar (k:Int)).reads.length≤200∧∀ z∈(lget ar (k:Int)).reads,0≤z∧z<(l.length:Int)) (hout:out.length≤1000000) :
  ∃ (j:Nat) (ar':List bunch),j<row.length∧free ar row (lget row (j:Int))∧Same ar ar'∧(∀ k:Nat,k≠lget row (j:Int)→lget ar' (k:Int)=lget ar (k:Int))∧
   history_Order_v1_B1 l x (row,out,ar)=some (.inl (row.take j++row.drop (j+1),out++blk l (lget ar ((lget row (j:Int):Nat):Int)),ar')):=by
 obtain ⟨j,hj,hf,hi⟩:=index_eq hr hin hex
 have hw:w64 ((j:Int)+1)=((j+1:Nat):Int):=by rw [w64_id (by omega) (by omega)]; omega
 have hm:max (j:Int) 0=(j:Int):=by omega
 have hmem:=lget_mem row (j:Int) (by omega)
 have hk:=hin _ hmem
 obtain ⟨ho1,ho2⟩:=ho _ hmem
 have hs:=So.stable_eq (bx:=l) (lget ar ((lget row (j:Int):Nat):Int)).reads (by omega) ho2
 have hsl:=So.srtd_len (bx:=l) (lget ar ((lget row (j:Int):Nat):Int)).reads
 generalize hkk:lget row (j:Int)=k at *
 obtain ⟨b',hb'⟩:∃ b':bunch,b'=⟨(lget ar (k:Int)).value,(lget ar (k:Int)).write,So.srtd l (lget ar (k:Int)).reads,(lget ar (k:Int)).first,(lget ar (k:Int)).last⟩:=⟨_,rfl⟩
 have g:=lget_set_self hk b'
 refine ⟨j,lset ar (k:Int) b',hj,hkk▸hf,⟨lset_len _ _ _,fun i hi=>?_⟩,fun i hi=>lget_set_ne (fun e=>hi (hkk▸e.symm)) b',?_⟩
 ·by_cases c:k=i
  ·subst c
   rw [g,hb']; exact ⟨rfl,rfl,rfl⟩
  ·rw [lget_set_ne c]; exact ⟨rfl,rfl,rfl⟩
 ·unfold history_Order_v1_B1
  dsimp only
  rw [if_pos (d_t (by omega)),hi,ob_some,hm,hw,asrt_pos (by omega),asrt_pos (by omega),delete_eq hr hj,ob_some,hkk]
  have hv:(ob (if (decide (0≤(lget ar (k:Int)).write))=true then asrt (0≤(k:Int)∧(k:Int)<(ar.length:Int)) <| asrt (((out++([(lget ar (k:Int)).write]:List Int)).length:Int)*8≤140737488351232) <| lt (out++([(lget ar (k:Int)).write]:List Int)) fun v3=>some v3 else some out):(List Int→Option ((List Nat×List Int×List bunch)⊕(List Int×Bool×Fault)))→_)=fun f=>f (out++(if 0≤(lget ar (k:Int)).write then [(lget ar (k:Int)).write] else [])):=by
   funext f
   by_cases c:0≤(lget ar (k:Int)).write
   ·rw [if_pos (d_t c),if_pos c,asrt_pos (by omega),asrt_pos (by rw [List.length_append,List.length_singleton]; omega)]; rfl
   ·rw [if_neg (d_f c),if_neg c,List.append_nil]; rfl
  rw [hv]
  dsimp only
  have hwl:(if 0≤(lget ar (k:Int)).write then [(lget ar (k:Int)).write] else []).length≤1:=by split <;> simp
  rw [asrt_pos (by omega),asrt_pos (by omega),hs,ob_some,← hb',g,asrt_pos (by rw [lset_len]; omega)]
  have hbr:b'.reads=So.srtd l (lget ar (k:Int)).reads:=by rw [hb']
  rw [asrt_pos (by rw [hbr,List.length_append,List.length_append,hsl]; omega)]
  have he:(⟨b'.value,b'.write,b'.reads,b'.first,b'.last⟩:bunch)=b':=rfl
  rw [he,lset_lset,hbr]
  unfold blk
  rw [List.append_assoc]
theorem blk_same {l:List Span} {b c:bunch} (h1:b.write=c.write) (h2:b.reads=c.reads):blk l b=blk l c:=by unfold blk; rw [h1,h2]
theorem order_loop {l:List Span} (hl:l.length≤200) (x:Bool×Fault) (B:List bunch) (hB:∀ k:Nat,k<B.length→(lget B (k:Int)).reads.length≤200∧∀ z∈(lget B (k:Int)).reads,0≤z∧z<(l.length:Int)) :
  ∀ (n:Nat) (row:List Nat) (out:List Int) (ar:List bunch),row.length=n→row.length≤400→row.Nodup→(∀ k∈row,k<B.length)→Same B ar→(∀ k∈row,(lget ar (k:Int)).reads=(lget B (k:Int)).reads)→
   (∀ a∈row,∀ b∈row,a≠b→¬ ((lget B (a:Int)).first<(lget B (b:Int)).last∧(lget B (b:Int)).first<(lget B (a:Int)).last))→out.length+201*row.length≤1000000→
   ∃ ks:List Nat,ks.Perm row∧ks.Pairwise (fun a b:Nat=>(lget B (a:Int)).last≤(lget B (b:Int)).first)∧history_Order_v1_L1 l x (row,out,ar)=some (out++ks.flatMap (fun k:Nat=>blk l (lget B (k:Int))),true,x.2):=by
 intro n
 induction n with
 | zero=>
  intro row out ar e _ _ _ _ _ _ _
  have:row=[]:=List.eq_nil_of_length_eq_zero e
  subst this
  refine ⟨[],List.Perm.refl _,.nil,loopO_inr ?_⟩
  unfold history_Order_v1_B1
  rw [if_neg (d_f (by simp))]
  simp only [List.flatMap_nil,List.append_nil]
  rfl
 | succ n ih=>
  intro row out ar e hr hnd hin hs hrd hnc hout
  have hin':∀ k∈row,k<ar.length:=fun k hk=>by rw [hs.len]; exact hin k hk
  have hex:∃ b∈row,free ar row b:=by
   obtain ⟨v,hv,hm⟩:=exists_first (fun z=>(lget B z).first) (fun z=>(lget B z).last) (row.map fun k:Nat=>(k:Int)) (fun h=>by
    rw [List.map_eq_nil_iff] at h
    rw [h] at e; cases e) (fun v hv w hw hne=>by
     obtain ⟨a,ha,rfl⟩:=List.mem_map.1 hv
     obtain ⟨b,hb,rfl⟩:=List.mem_map.1 hw
     exact hnc a ha b hb (fun q=>hne (by rw [q])))
   obtain ⟨b,hb,rfl⟩:=List.mem_map.1 hv
   refine ⟨b,hb,fun a ha hab=>?_⟩
   rw [(hs.fl a (hin a ha)).1,(hs.fl b (hin b hb)).2.1]
   exact hm _ (List.mem_map.2 ⟨a,ha,rfl⟩) (by omega)
  obtain ⟨j,ar',hj,hf,hs',hk',hB1⟩:=order_step hl x hr hin' hex (fun k hk=>by rw [hrd k hk]; exact hB k (hin k hk)) (out:=out) (by omega)
  have hmem:=lget_mem row (j:Int) (by omega)
  have hsp:row=row.take j++lget row (j:Int)::row.drop (j+1):=by
   rw [lget_nat row j hj,List.getElem_cons_drop,List.take_append_drop]
  have hlen:(row.take j++row.drop (j+1)).length=n:=by rw [List.length_append,List.length_take,List.length_drop]; omega
  generalize lget row (j:Int)=k at *
  generalize row.take j=t1 at *
  generalize row.drop (j+1)=t2 at *
  subst hsp
  have hp:(t1++k::t2).Perm (k::(t1++t2)):=List.perm_middle
  have hnd2:=List.nodup_cons.1 (hp.nodup_iff.1 hnd)
  have hsub:∀ i∈t1++t2,i∈t1++k::t2∧i≠k:=fun i hi=>⟨hp.mem_iff.2 (List.mem_cons_of_mem _ hi),fun q=>hnd2.1 (q▸hi)⟩
  have hbk:blk l (lget ar (k:Int))=blk l (lget B (k:Int)):=blk_same (hs.fl k (hin k hmem)).2.2 (hrd k hmem)
  have hbl:(blk l (lget B (k:Int))).length≤201:=by
   have h1:=hB k (hin k hmem)
   have h2:=So.srtd_len (bx:=l) (lget B (k:Int)).reads
   unfold blk
   rw [List.length_append]
   split
   ·rw [List.length_singleton]; omega
   ·rw [List.length_nil]; omega
  obtain ⟨ks,h1,h2,h3⟩:=ih (t1++t2) (out++blk l (lget B (k:Int))) ar' hlen (by omega) hnd2.2 (fun i hi=>hin i (hsub i hi).1)
   ⟨hs'.len.trans hs.len,fun i hi=>by
    have a:=hs'.fl i (by rw [hs.len]; exact hi)
    have b:=hs.fl i hi
    exact ⟨a.1.trans b.1,a.2.1.trans b.2.1,a.2.2.trans b.2.2⟩⟩
   (fun i hi=>by rw [hk' i (hsub i hi).2]; exact hrd i (hsub i hi).1)
   (fun a ha b hb=>hnc a (hsub a ha).1 b (hsub b hb).1)
   (by rw [List.length_append]; omega)
  refine ⟨k::ks,(List.Perm.cons k h1).trans hp.symm,List.pairwise_cons.2 ⟨fun w hw=>?_,h2⟩,(loopO_inl hB1).trans ?_⟩
  ·have hw':=hsub w (h1.mem_iff.1 hw)
   have:=hf w hw'.1 hw'.2
   rw [(hs.fl k (hin k hmem)).2.1,(hs.fl w (hin w hw'.1)).1] at this
   exact this
  ·rw [hbk]
   refine h3.trans ?_
   rw [List.flatMap_cons,List.append_assoc]
theorem flat_map {f:Nat→Int} {g:Nat→List Int} {bl:Int→List Int}:∀ {ks:List Nat},(∀ k∈ks,g k=bl (f k))→ks.flatMap g=(ks.map f).flatMap bl
 | [],_=>rfl
 | k::ks,h=>by
  rw [List.flatMap_cons,List.map_cons,List.flatMap_cons,h k (List.mem_cons_self ..),flat_map fun i hi=>h i (List.mem_cons_of_mem _ hi)]
noncomputable def blV (l:List Span) (v:Int):List Int:=@dite _ (∃ k:Nat,k<(BB l).length∧(lget (BB l) (k:Int)).value=v) (Classical.propDecidable _) (fun h=>blk l (lget (BB l) ((Classical.choose h:Nat):Int))) (fun _=>[])
theorem blV_eq {l:List Span} {k:Nat} (hk:k<(BB l).length):blk l (lget (BB l) (k:Int))=blV l (lget (BB l) (k:Int)).value:=by
 have h:∃ i:Nat,i<(BB l).length∧(lget (BB l) (i:Int)).value=(lget (BB l) (k:Int)).value:=⟨k,hk,rfl⟩
 unfold blV
 rw [dif_pos h]
 have:=Classical.choose_spec h
 rw [bb_inj this.1 hk this.2]
theorem order_prog {l:List Span} (hg:Good l) (hc:∀ a b,has l a→has l b→¬ CL l a b) (x:Bool×Fault):∃ zs,history_bunches l []=some (zs,BB l)∧∃ o,IsOrd l o∧history_Order_v1_L1 l x (zs,[],BB l)=some (o,true,x.2):=by
 have hl:=hg.len
 obtain ⟨zs,h1,h2,h3⟩:=bunches_eq hl
 have h2:zs.Perm (List.range (BB l).length):=h2
 refine ⟨zs,h1,?_⟩
 have hb4:(BB l).length≤400:=by
  have h5:=sW_len l l.length
  have:(BB l).length=(sW l l.length).2.length:=by
   unfold BB zero1
   split
   ·exact lset_len _ _ _
   ·rfl
  omega
 have hzl:zs.length≤400:=by
  have:=h2.length_eq
  rw [List.length_range] at this
  omega
 have hin:∀ k∈zs,k<(BB l).length:=fun k hk=>List.mem_range.1 (h2.mem_iff.1 hk)
 have hh:∀ k:Nat,k<(BB l).length→has l (lget (BB l) (k:Int)).value:=fun k hk=>(bb_has hg _).2 ⟨k,hk,rfl⟩
 obtain ⟨ks,k1,k2,k3⟩:=order_loop hl x (BB l) (fun k hk=>by
   rw [(bb_ok hg k hk).rd]
   refine ⟨by have:=rds_len l l.length (lget (BB l) (k:Int)).value; omega,fun z hz=>?_⟩
   obtain ⟨i,a,_,rfl⟩:=mem_rds.1 hz
   omega) _ zs [] (BB l) rfl hzl (h2.nodup_iff.2 List.nodup_range) hin ⟨rfl,fun _ _=>⟨rfl,rfl,rfl⟩⟩ (fun _ _=>rfl)
  (fun a ha b hb hab h=>by
   have ha:=hin a ha
   have hb:=hin b hb
   refine hc _ _ (hh a ha) (hh b hb) ?_
   unfold CL
   rw [if_neg (fun e=>hab (bb_inj ha hb e)),← fe_bunch hg (bb_ok hg a ha),← fe_bunch hg (bb_ok hg b hb),← lb_bunch hg (bb_ok hg a ha),← lb_bunch hg (bb_ok hg b hb)]
   exact h) (by rw [List.length_nil]; omega)
 have hk:∀ k∈ks,k<(BB l).length:=fun k h=>hin k (k1.mem_iff.1 h)
 rw [flat_map (f:=fun k:Nat=>(lget (BB l) (k:Int)).value) (bl:=blV l) fun k h=>blV_eq (hk k h)] at k3
 refine ⟨_,?_,k3⟩
 rw [List.nil_append]
 refine blocks_ord hg (blV l) (fun v hv=>?_) (fun v=>?_) ?_ ?_
 ·obtain ⟨k,h,rfl⟩:=List.mem_map.1 hv
  have hkl:=hk k h
  have hok:=bb_ok hg k hkl
  rw [← blV_eq hkl]
  unfold blk
  have hns:¬ SC l (lget (BB l) (k:Int)).value:=fun q=>hc _ _ (hh k hkl) (hh k hkl) (by unfold CL; rw [if_pos rfl]; exact q)
  refine blk_of hg (hh k hkl) hns ?_ ?_ ?_
  ·rcases hok.wr with ⟨a,b⟩ | ⟨w,a,b,c,d⟩
   ·exact .inl ⟨by rw [a]; rfl,b⟩
   ·exact .inr ⟨w,a,b,c,by rw [d,if_pos (by omega)]⟩
  ·rw [← hok.rd]; exact So.stab_perm (So.srtd_stab _)
  ·exact (So.srtd_srt (bx:=l) _).imp fun h=>by unfold So.le So.ah So.fr at h; omega
 ·rw [List.mem_map]
  show _↔∃ i,cnt l v i
  rw [bb_has hg]
  constructor
  ·rintro ⟨k,h,e⟩
   exact ⟨k,hk k h,e⟩
  ·rintro ⟨k,h,e⟩
   exact ⟨k,k1.mem_iff.2 (h2.mem_iff.2 (List.mem_range.2 h)),e⟩
 ·exact List.pairwise_map.2 (((k1.trans h2).nodup_iff.2 List.nodup_range).imp_of_mem fun {a b} ha hb hne e=>hne (bb_inj (hk a ha) (hk b hb) e))
 ·refine List.pairwise_map.2 (k2.imp_of_mem fun {a b} ha hb h=>?_)
  rw [← fe_bunch hg (bb_ok hg b (hk b hb)),← lb_bunch hg (bb_ok hg a (hk a ha))]
  exact h
theorem isorder_eq {l:List Span} (hg:Good l) {o:List Int} (ho:IsOrd l o):R_IsOrder l o=some true:=by
 have hl:=hg.len
 have hlen:=ho.perm.length_eq
 have hcl:=cl_len l l.length
 unfold R_IsOrder
 rw [counting_eq (by omega),ob_some,if_neg (by rw [hlen]; simp)]
 unfold R_IsOrder_L1
 refine loop_run (step:=fun y=>R_IsOrder_B1 l o (cl l l.length) y) o.length (fun k=>(nowAt l 0 o k,(k:Int))) (fun k hk=>?_) ?_
 ·have hw:w64 ((k:Int)+1)=((k+1:Nat):Int):=by rw [w64_id (by omega) (by omega)]; omega
  have hz:=ord_in ho hk
  have hm:=ho.perm.mem_iff.1 (lget_mem o (k:Int) (by omega))
  have hnt:¬ lget o (k:Int)∈ltake o (k:Int):=fun h=>by
   unfold ltake at h
   rw [Int.toNat_natCast] at h
   obtain ⟨i,hi,e⟩:=List.mem_iff_getElem.1 h
   rw [List.length_take] at hi
   rw [List.getElem_take,← lget_nat o i (by omega)] at e
   have:=ord_inj ho (j:=i) (k:=k) (by omega) hk e
   omega
  have hval:(lget l (lget o (k:Int))).Value=nowAt l 0 o (k+1):=rfl
  have hrv:=rv_at.1 ho.rv k hk
  have hah:∀ j:Nat,j<k→¬ ahd l (lget o (k:Int)) (lget o (j:Int)):=fun j hj=>by
   rw [lget_nat o j (by omega),lget_nat o k hk]
   exact List.pairwise_iff_getElem.1 ho.ah j k (by omega) hk hj
  have hoz:∀ j:Nat,j<k→0≤lget o (j:Int)∧lget o (j:Int)<(l.length:Int):=fun j hj=>ord_in ho (by omega)
  have hz:0≤lget o (k:Int)∧lget o (k:Int)<(l.length:Int):=hz
  show R_IsOrder_B1 l o (cl l l.length) (nowAt l 0 o k,(k:Int))=some (.inl (nowAt l 0 o (k+1),((k+1:Nat):Int)))
  unfold R_IsOrder_B1
  dsimp only
  rw [if_pos (d_t (by omega)),asrt_pos (by omega),has_eq (by omega),decide_eq_true hm,ob_some,asrt_pos (fun _=>by omega),asrt_pos (fun _=>by omega)]
  rw [if_pos (by rfl),has_eq (by unfold ltake; rw [List.length_take]; omega),decide_eq_false hnt,ob_some,if_neg (by simp),asrt_pos (by omega),asrt_pos hz]
  unfold R_IsOrder_L2
  refine loop_run (step:=fun y=>R_IsOrder_B2 l o (nowAt l 0 o k,(k:Int)) y) k (fun j=>(j:Int)) (fun j hj=>?_) ?_
  ·have hw2:w64 ((j:Int)+1)=((j+1:Nat):Int):=by rw [w64_id (by omega) (by omega)]; omega
   have hzj:=hoz j hj
   have hq:=hah j hj
   show R_IsOrder_B2 l o (nowAt l 0 o k,(k:Int)) (j:Int)=_
   unfold R_IsOrder_B2
   dsimp only
   have hsp:R_SpanAhead (⟨(lget l (lget o (k:Int))).Kind,(lget l (lget o (k:Int))).Value,(lget l (lget o (k:Int))).From,(lget l (lget o (k:Int))).To⟩:Span) (⟨(lget l (lget o (j:Int))).Kind,(lget l (lget o (j:Int))).Value,(lget l (lget o (j:Int))).From,(lget l (lget o (j:Int))).To⟩:Span)=false:=by
    unfold R_SpanAhead
    dsimp only
    unfold ahd at hq
    rw [Bool.eq_false_iff]
    intro h
    rw [Bool.and_eq_true] at h
    exact hq ⟨of_decide_eq_true h.1,of_decide_eq_true h.2⟩
   rw [if_pos (d_t (by omega)),asrt_pos (by omega),asrt_pos hzj,hsp,hw2]
   rfl
  ·show R_IsOrder_B2 l o (nowAt l 0 o k,(k:Int)) (k:Int)=_
   unfold R_IsOrder_B2 R_IsOrder_J2 R_IsOrder_J3
   dsimp only
   rw [if_neg (d_f (by omega)),hw,← hval]
   by_cases c:(lget l (lget o (k:Int))).Kind=1
   ·rw [if_pos (d_t c)]; rfl
   ·have e:(lget l (lget o (k:Int))).Value=nowAt l 0 o k:=hrv.resolve_left c
    rw [if_neg (d_f c),if_neg (by rw [e]; simp),← e]; rfl
 ·show R_IsOrder_B1 l o (cl l l.length) (nowAt l 0 o o.length,(o.length:Int))=_
  unfold R_IsOrder_B1
  rw [if_neg (d_f (by show ¬ (o.length:Int)<(o.length:Int); omega))]; rfl
theorem HistoryOrders_eq (l:List Span):law_HistoryOrders l=some true:=by
 unfold law_HistoryOrders
 rw [begun_eq,ob_some,if_neg (by simp)]
 by_cases c:(60<l.length∧l.length<201)∨400<l.length
 ·have e:(((decide (60<(l.length:Int)))&&(decide ((l.length:Int)<201)))||(decide (400<(l.length:Int))))=true:=by
   simp only [Bool.or_eq_true,Bool.and_eq_true,decide_eq_true_eq]; omega
  rw [if_pos e]
 have hl:l.length≤400:=by omega
 have e:¬ (((decide (60<(l.length:Int)))&&(decide ((l.length:Int)<201)))||(decide (400<(l.length:Int))))=true:=by
  simp only [Bool.or_eq_true,Bool.and_eq_true,decide_eq_true_eq]; omega
 rw [if_neg e]
 have e1:law_ownSpans_v1 l=some l:=by
  unfold law_ownSpans_v1
  exact asrt_pos (by omega) _
 rw [e1]
 simp only [ob_some]
 rw [spans_eq,same_self hl]
 by_cases h:(chk l).Code=0
 ·have hg:=good_of h
  obtain ⟨r,h1,h2⟩:=clash_prog hg
  have hlin:history_Linear l=some (!r.2.2,⟨0,0⟩):=by
   unfold history_Linear
   rw [h2,ob_some]; rfl
  have e3:=h1.uniq (clashing_spec hg)
  rw [hlin,ob_some]
  rcases h1 with ⟨a1,_,_,a4⟩ | ⟨a1,_⟩
  ·obtain ⟨zs,k1,o,k2,k3⟩:=order_prog hg (fun a b ha hb=>a4 a b ⟨ha,hb⟩) (true,⟨0,0⟩)
   have hord:history_Order_v1 l=some (o,true,⟨0,0⟩):=by
    unfold history_Order_v1
    rw [hlin,a1,ob_some,if_neg (by simp),k1,ob_some]; exact k3
   rw [hord,chk_zero h,clashing_eq hg,← e3,a1]
   simp only [ob_some]
   rw [if_neg (by simp),if_neg (by simp),if_neg (by simp [a1]),if_neg (by simp),isorder_eq hg k2]
   rfl
  ·have hord:history_Order_v1 l=some ([],false,⟨0,0⟩):=by
    unfold history_Order_v1
    rw [hlin,a1,ob_some,if_pos (by simp)]
   rw [hord,chk_zero h,clashing_eq hg,← e3,a1]
   simp only [ob_some]
   rw [if_neg (by simp),if_neg (by simp),if_neg (by simp [a1]),if_pos (by simp)]
   simp
 ·have hlin:history_Linear l=some (false,chk l):=by
   unfold history_Linear
   rw [clash_bad h,ob_some,decide_eq_false h]; rfl
  have hord:history_Order_v1 l=some ([],false,chk l):=by
   unfold history_Order_v1
   rw [hlin,ob_some,if_pos (by simp)]
  rw [hlin,ob_some,hord]
  simp only [ob_some]
  rw [if_neg (by simp),if_pos (n_t h)]; simp
end G
end Go.Proofs.Ytnibbgjoanbnmaa
