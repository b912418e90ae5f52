/- The machine over the model's code, part EmP. -/
import Derived.RangeFuncNested
import Derived.RangeFuncBound
import Derived.RangeFuncCalls
import Derived.RangeFuncLeaves
import Derived.Shelf.Abstract
import Derived.WalkKit
import Derived.OwnWalkIn
import Derived.TacticsInMore
import Derived.LoopNIn
import Derived.LoopIn
import Derived.Maps.AppendAt
import Derived.Test.YtcifgljlmieblaaGreatDoorEmA
set_option linter.unusedVariables false
set_option linter.unusedSimpArgs false
set_option linter.unusedSectionVars false
namespace Go.Dm
open Go Go.RowKit
def backTo {α:Type} (f:Nat→α) (n k:Nat):List (Nat×α):=(List.range k).map fun j=>(n - 1 - j,f (n - 1 - j))
theorem backTo_succ {α:Type} (f:Nat→α) (n k:Nat):backTo f n (k+1)=backTo f n k++[(n - 1 - k,f (n - 1 - k))]:=by simp [backTo,List.range_succ]
theorem backTo_length {α:Type} (f:Nat→α) (n k:Nat):(backTo f n k).length=k:=by simp [backTo]
def KpB (n₀ Bs:Nat) (W W':World):Prop:=Below n₀ W W'∧W'.heap[Bs]?=W.heap[Bs]?
theorem KpB.refl (n₀ Bs:Nat) (W:World):KpB n₀ Bs W W:=⟨Below.refl _ _,rfl⟩
theorem KpB.trans {n₀ Bs:Nat} {A B C:World} (h:KpB n₀ Bs A B) (k:KpB n₀ Bs B C):KpB n₀ Bs A C:=⟨h.1.trans k.1,k.2.trans h.2⟩
theorem KpB.cell {n₀ Bs:Nat} {A B:World} (h:KpB n₀ Bs A B) {j:Nat} {v:Value} (hc:A.cell? ⟨Bs,j,none⟩=some v):B.cell? ⟨Bs,j,none⟩=some v:=by
 unfold World.cell? at hc ⊢
 simp only [h.2]
 exact hc
def Notes2 (n₀:Nat) (W:World) (sv:Value) (len:Nat) (zs:Nat→Int×Option Addr×Nat×Nat):Prop:=
 (∃ a cap,sv = .slice a 0 cap∧len=0)∨∃ b off cap,sv = .slice (some ⟨b,off,none⟩) len cap∧b<n₀∧(∀ j,j<len→W.cell? ⟨b,off+j*2,none⟩=some (.int .i64 (zs j).1))∧∀ j,j<len→W.cell? ⟨b,off+j*2+1,none⟩=some (.slice (zs j).2.1 (zs j).2.2.1 (zs j).2.2.2)
theorem Notes2.below {n₀:Nat} {A B:World} (h:Below n₀ A B) {sv:Value} {len:Nat} {zs:Nat→Int×Option Addr×Nat×Nat}:Notes2 n₀ A sv len zs→Notes2 n₀ B sv len zs
 | .inl e=>.inl e
 | .inr ⟨b,off,cap,e,hb,hc,hd⟩=>.inr ⟨b,off,cap,e,hb,fun j hj=>(h.cell (p:=⟨b,off+j*2,none⟩) hb).trans (hc j hj),fun j hj=>(h.cell (p:=⟨b,off+j*2+1,none⟩) hb).trans (hd j hj)⟩
theorem boxed2 {W:World} {B:Nat} {t:TypeId} {x y:Value} (h:W.heap[B]?=some (.cells #[x,y] t (0,0))):W.cell? ⟨B,0,none⟩=some x∧W.cell? ⟨B,1,none⟩=some y∧W.frozen? ⟨B,0,none⟩=false∧W.frozen? ⟨B,1,none⟩=false:=by
 simp [World.cell?,World.frozen?,h]
def PutW (P:Program) (pu me tc:Nat):Prop:=∀ (a0:Option Addr) (n0 c0:Nat) (a:Option Addr) (len cap:Nat) (zs:Nat→Int×Option Addr×Nat×Nat) (w:World) (R:Ending→World→Prop),(len+1)*24≤140737488351232→
 Notes2 w.heap.size w (.slice a len cap) len zs→
 (∀ (W:World) (v:Value) (D:Nat),w.heap.size≤D→W.heap[D]?=some (.deferred (some []))→Below w.heap.size w W→W.ownsRow w.heap.size tc 1 v (len+1) ((backTo zs len len).map (fun x=>Value.slice x.2.2.1 x.2.2.2.1 x.2.2.2.2)++[.slice a0 n0 c0])→
  Calls P me #[v] W fun e W'=>∃ r,e = .returned r∧W'.heap[D]?=some (.deferred (some []))∧R (.returned r) (W'.putObj D (.deferred none)))→
 Calls P pu #[.slice a0 n0 c0,.slice a len cap] w R
theorem St.turn {W w W':World} {F' F:Nat→Prop} {M' M M1:Mem} {E1:Env} {s1:S} (hst:St ⟨W,F',M',Env.none⟩ 0 M1 E1 s1 #[] W') {D:Nat} {o:Obj} (hD:W'.heap[D]?=some (.deferred (some []))) (hown:E1.own D=none)
  (hF:∀ b,F b→b<w.heap.size) (hw:∀ b,b<w.heap.size→F' b∧W.heap[b]?=w.heap[b]?∧b≠D) (hM:∀ b j v,M b j=some v→M' b j=some v) (hM':∀ b j v,M' b j=some v→b<w.heap.size→M b j=some v)
  (hB:Below w.heap.size w W) (hL:Lay w F):St ⟨w,F,M,Env.none⟩ 0 M1 E1 s1 #[] (W'.putObj D o):=by
 have hne:∀ b,b≠D→(W'.putObj D o).heap[b]?=W'.heap[b]?:=fun b h=>by
  simp only [World.putObj]
  rw [Array.getElem?_setIfInBounds,if_neg (fun e=>h e.symm)]
 have hk:∀ b q,E1.own b=some q→E1.own b=some q∧(W'.putObj D o).heap[b]?=W'.heap[b]?:=fun b q h=>⟨h,hne b fun e=>by rw [e,hown] at h; cases h⟩
 have hsz:(W'.putObj D o).heap.size=W'.heap.size:=by simp [World.putObj]
 have hg:=hst.grow
 refine ⟨hst.size,hst.fr,fun b j v h=>?_,fun i cs h=>?_,hst.bxn,fun i r h=>?_,hst.rwn,fun i es h=>?_,hst.mpn,fun i r h=>?_,hst.arn,fun b q h=>?_,fun b h=>?_,fun b j v h=>hst.m0 b j v (hM b j v h),fun b j v h hb=>?_,?_,?_,?_,?_,hL⟩
 ·obtain ⟨h1,h2⟩:=hst.mem b j v h
  have hbD:b≠D:=by
   rintro rfl
   unfold World.cell? at h1
   simp only [hD] at h1
   cases h1
  exact ⟨by rw [World.cell?_of_block (hne b hbD)]; exact h1,h2⟩
 ·obtain ⟨b,h1,h2,t,vs,h3,h4⟩:=hst.bx i cs h
  exact ⟨b,h1,h2,t,vs,by rw [(hk b _ h2).2]; exact h3,h4⟩
 ·obtain ⟨q,h1,h2⟩:=hst.rw i r h
  exact ⟨q,h1,h2.mono (fun _ _ _ h=>h) (Env.le_refl _) (fun b hb=>hk b _ hb) (fun b j hb=>hk b _ hb)⟩
 ·obtain ⟨r,h1,h2,ents,clock,h3,h4⟩:=hst.mp i es h
  exact ⟨r,h1,h2,ents,clock,by rw [(hk r _ h2).2]; exact h3,h4⟩
 ·obtain ⟨bs,h1,h2⟩:=hst.ar i r h
  exact ⟨bs,h1,h2.mono (fun _ _ _ h=>h) (Env.le_refl _) (fun b j hb=>hk b _ hb) (fun b j hb=>hk b _ hb)⟩
 ·rw [hsz]; exact hst.live b q h
 ·obtain ⟨h1,h2,h3⟩:=hw b (hF b h)
  obtain ⟨g1,g2,g3⟩:=hst.foreign b h1
  exact ⟨by rw [hsz]; exact g1,by rw [hne b h3,g2,h2],g3⟩
 ·obtain ⟨h1,h2,h3⟩:=hw b (hF b hb)
  exact hM' b j v (hst.mf b j v h h1) (hF b hb)
 ·exact hst.os.trans hB.os
 ·exact hst.tape.trans hB.tape
 ·exact hst.output.trans hB.output
 ·rw [hsz]; exact Nat.le_trans hB.size hg
end Go.Dm
