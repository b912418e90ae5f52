/- The walk of wal.Put (a range over slices.Backward that builds a list of lists). -/
import Derived.Test.YtgcndnddgajekaaGreatDoorEmP
import Derived.Test.YtgcndnddgajekaaGreatDoorProg
namespace Go.Dm
open Go Go.RowKit Go.Proofs
set_option linter.unusedVariables false
set_option linter.unusedSimpArgs false
set_option linter.unusedSectionVars false
section
open Go.RowKit Go.Shelf Go.Proofs
attribute [local go_sem] Oper.semAt_some
set_option maxRecDepth 100000 in
set_option maxHeartbeats 4000000 in
theorem put_back1_in (F:Fence)(n:Nat)(h8:F.fn 191)(hro:F.round=none)(hn:1<=n)(l Bs n₀ b off len cap:Nat)(zs:Nat->Int×Option Addr×Nat×Nat)(hlen:len<=140737488351232)(hb:b<n₀)(J Jx:List (Nat×Int×Option Addr×Nat×Nat)->World->Prop)
    (hY:∀ pre x W,J pre W->pre.length<len->YieldAt F (n - 1) Tryz.prog l #[.int .i64 (x.1:Int),.agg #[.int .i64 x.2.1,.slice x.2.2.1 x.2.2.2.1 x.2.2.2.2]] W fun e W'=>
      (e = .returned (.bool true)/\J (pre++[x]) W'/\KpB n₀ Bs W W')\/(e = .returned (.bool false)/\Jx (pre++[x]) W'))
    (W:World)(hBs:W.cell? ⟨Bs,0,none⟩=some (.slice (some ⟨b,off,none⟩) len cap))
    (hc0:∀ j,j<len->W.cell? ⟨b,off+j*2,none⟩=some (.int .i64 (zs j).1))(hc1:∀ j,j<len->W.cell? ⟨b,off+j*2+1,none⟩=some (.slice (zs j).2.1 (zs j).2.2.1 (zs j).2.2.2))(h0:J [] W) :
    CallsIn F n Tryz.prog 191 #[.func (.yield l) #[] #[],.pointer (some ⟨Bs,0,none⟩)] W fun e W'=>(∃ v,e = .returned v)/\
      ((∃ ys,ys=backTo zs len len/\J ys W')\/(∃ pre,(∃ k,k<=len/\pre=backTo zs len k)/\Jx pre W')):=by
  refine callsIn_of_wp Tryz.func191 rfl h8 ?_ hro;simp only [Tryz.ntmps191,xaz,xal,xa3,Nat.reduceAdd,Nat.reduceSub,xee,xed,xes,xeg,xbt,xbn];have hw0:IntKind.i64.wrap ((len:Int) - 1)=(len:Int) - 1:=by rw [xc7]; omega
  gi_wp2
  gi_loopw [3] (fun i wr=>∃ m:Nat,m<=len/\i = .int .i64 ((m:Int) - 1)/\J (backTo zs len (len - m)) wr/\KpB n₀ Bs W wr)
    (fun i _=>(intOf i+1).toNat)
  case atStart=>exact ⟨len,xaf _,rfl,by rw [Nat.sub_self]; exact h0,KpB.refl _ _ _⟩
  case round=>
    obtain ⟨m,hm,rfl,hJs,hnx⟩:=hrel;cases m with
    | zero=>
      gi_wp2
      go_end0
      exact ⟨⟨_,rfl⟩,.inl ⟨_,rfl,hJs⟩⟩
    | succ j=>
      have hj1:((j+1:Nat):Int) - 1=(j:Int):=by omega
      have hj0:(0:Int)<=(j:Int):=by omega
      have hjl:j<len:=by omega
      have hjz:¬ ((j:Int)<0):=by omega
      have hw1:IntKind.i64.wrap ((j:Int) - 1)=(j:Int) - 1:=by rw [xc7]; omega
      have hk:len - 1 - (len - (j+1))=j:=by omega
      have hcx0:wr.cell? ⟨b,off+j*2,none⟩=some (.int .i64 (zs j).1):=(hnx.1.cell (p:=⟨b,off+j*2,none⟩) hb).trans (hc0 j hjl);have hcx1:wr.cell? ⟨b,off+j*2+1,none⟩=some (.slice (zs j).2.1 (zs j).2.2.1 (zs j).2.2.2):=(hnx.1.cell (p:=⟨b,off+j*2+1,none⟩) hb).trans (hc1 j hjl);have hBx:wr.cell? ⟨Bs,0,none⟩=some (.slice (some ⟨b,off,none⟩) len cap):=hnx.cell hBs;obtain ⟨fn,tmps,assign,body,hy,hR⟩:=hY _ (j,zs j) wr hJs (by rw [backTo_length]; omega);dsimp only at hy;rw [hj1]
      gi_wp2
      refine hR.mono ?_;rintro e W3 (⟨rfl,hJ3,hk3⟩ | ⟨rfl,hJx3⟩)
      · gi_wp2
        go_roundw
        case rel=>
          refine ⟨j,by omega,rfl,?_,hnx.trans hk3⟩;have:len - j=(len - (j+1))+1:=by omega
          rw [this,backTo_succ,hk]; exact hJ3
        case measure=>simp [intOf]
      · gi_wp2
        refine bodyPost_ret (results_none rfl _ _ _) rfl ?_;refine ⟨⟨_,rfl⟩,.inr ⟨_,⟨len - (j+1)+1,by omega,rfl⟩,?_⟩⟩;rw [backTo_succ,hk]; exact hJx3
set_option maxRecDepth 100000 in
set_option maxHeartbeats 1000000 in
/-- .. at the empty slice: no round -/
theorem put_back1_nil_in (F:Fence)(n:Nat)(h8:F.fn 191)(hro:F.round=none)(l Bs:Nat)(a:Option Addr)(cap:Nat)(J:List (Nat×Int×Option Addr×Nat×Nat)->World->Prop)(W:World)(hBs:W.cell? ⟨Bs,0,none⟩=some (.slice a 0 cap))(h0:J [] W) :
    CallsIn F n Tryz.prog 191 #[.func (.yield l) #[] #[],.pointer (some ⟨Bs,0,none⟩)] W fun e W'=>(∃ v,e = .returned v)/\J [] W':=by
  refine callsIn_of_wp Tryz.func191 rfl h8 ?_ hro;simp only [Tryz.ntmps191,xaz,xal,xa3,Nat.reduceAdd,Nat.reduceSub,xee,xed,xes,xeg,xbt,xbn]
  gi_wp2
  gi_loopw [3] (fun i wr=>i = .int .i64 (-1)/\J [] wr) (fun _ _=>0)
  case atStart=>exact ⟨rfl,h0⟩
  case round=>
    obtain ⟨rfl,hJs⟩:=hrel
    gi_wp2
    go_end0
    exact ⟨⟨_,rfl⟩,hJs⟩
set_option maxHeartbeats 1000000 in
theorem put_back_in (F:Fence)(n:Nat)(h5:F.fn 139)(hro:F.round=none)(a:Option Addr)(len cap:Nat)(w:World) :
    CallsIn F n Tryz.prog 139 #[.slice a len cap] w fun e w'=>e = .returned (.func (.func 191) #[] #[.pointer (some ⟨w.heap.size,0,none⟩)])/\w'=w.alloc (.cells #[.slice a len cap] 67):=by
  refine callsIn_of_wp Tryz.func139 rfl h5 ?_ hro;simp only [Tryz.ntmps139,xaz,xal,xa3,Nat.reduceAdd,Nat.reduceSub,xee,xed,xes,xeg,xbt,xbn]
  gi_wp2
  go_ret
  exact ⟨rfl,rfl⟩
theorem put_back_stops (F:Fence)(n:Nat)(h8:F.fn 191)(hro:F.round=none)(hn:1<=n)(Bs n₀:Nat)(sv:Value)(len:Nat)(zs:Nat->Int×Option Addr×Nat×Nat)(hlen:len<=140737488351232)(w:World)(hBs:Bs<w.heap.size)(hn₀:n₀<=w.heap.size)
    (hc:w.cell? ⟨Bs,0,none⟩=some sv)(hI:Notes2 n₀ w sv len zs) :
    SeqStopsK F n Tryz.prog 191 #[.pointer (some ⟨Bs,0,none⟩)] (fun x:Nat×Int×Option Addr×Nat×Nat=>#[Value.int .i64 (x.1:Int),.agg #[.int .i64 x.2.1,.slice x.2.2.1 x.2.2.2.1 x.2.2.2.2]]) (KpB n₀ Bs) (fun ys=>ys=backTo zs len len)
      (fun pre=>∃ k,k<=len/\pre=backTo zs len k) len w:=fun l J Jx W hW _ _ hY h0=>by
  have hc':=(hW.cell (p:=⟨Bs,0,none⟩) hBs).trans hc
  rcases hI.below (hW.mono hn₀) with ⟨a,cap,rfl,rfl⟩ | ⟨b,off,cap,rfl,hb,hcs,hds⟩
  · exact (put_back1_nil_in F n h8 hro l Bs a cap J W hc' h0).mono fun e W' ⟨he,hj⟩=>⟨he,.inl ⟨_,rfl,hj⟩⟩
  · exact put_back1_in F n h8 hro hn l Bs n₀ b off len cap zs hlen hb J Jx hY W hc' hcs hds h0
theorem put_infoTC:(Tryz.prog.info? 68).map (fun i=>(i.zero,i.size,i.bytes))=some (some (.slice none 0 0),1,24):=by kernel_rfl
set_option maxRecDepth 100000 in
set_option maxHeartbeats 4000000 in
theorem put_put_in (F:Fence)(n:Nat)(hp:F.fn 86)(hb:F.fn 139)(hcl:F.fn 191)(hme:F.fn 55)(hro:F.round=none)(hn:3<=n)(a0:Option Addr)(n0 c0:Nat)(a:Option Addr)(len cap:Nat)(zs:Nat->Int×Option Addr×Nat×Nat)(hlen:(len+1)*24<=140737488351232)(w:World)
    (hI:Notes2 w.heap.size w (.slice a len cap) len zs)(R:Ending->World->Prop)
    (hM:∀ (W:World) (v:Value) (D:Nat),w.heap.size<=D->W.heap[D]?=some (.deferred (some []))->Below w.heap.size w W->W.ownsRow w.heap.size 68 1 v (len+1) ((backTo zs len len).map (fun x=>Value.slice x.2.2.1 x.2.2.2.1 x.2.2.2.2)++[.slice a0 n0 c0])->
      CallsIn F (n - 1) Tryz.prog 55 #[v] W fun e W'=>∃ r,e = .returned r/\W'.heap[D]?=some (.deferred (some []))/\R (.returned r) (W'.putObj D (.deferred none))) :
    CallsIn F n Tryz.prog 86 #[.slice a0 n0 c0,.slice a len cap] w R:=by
  have h1:1<=n:=by omega
  obtain ⟨i0,hi,hz0,hzs,hzb⟩:=info_parts put_infoTC;have hw1:IntKind.i64.wrap ((len:Int)+1)=((len+1:Nat):Int):=by rw [xc7]; omega
  refine callsIn_of_wp_marks Tryz.func86 rfl hp ?_ hro;simp only [Tryz.ntmps86,xaz,xal,xa3,Nat.reduceAdd,Nat.reduceSub,xee,xed,xes,xeg,xbt,xbn]
  gi_wp2_with (first
    | (gi_at_make; refine wpListIn_make_own _ rfl _ _ 69 rfl w.heap.size 68 i0 (.slice none 0 0) 1 Tryz.underlying69 hi hz0 hzs .i64 .i64 _ (len+1) rfl rfl (by simp) (by rw [hzb]; omega) (by show len+1<=9223372036854775807; omega) (xaf _) ?_; intro w1 hown1 hgr1)
    | (gi_at_call 139; refine (put_back_in F (n - 1) hb hro _ _ _ _).mono ?_; rintro e w' ⟨rfl,rfl⟩))
  have hlt1:w.heap.size<w1.heap.size:=by
    rcases hown1.2 with ⟨h,_⟩ | ⟨g,cap',cur,e,_,hg,_⟩
    · cases h
    · simp only [Value.slice.injEq,Option.some.injEq,Addr.mk.injEq] at e;obtain ⟨⟨rfl,_⟩,_⟩:=e;exact (xcb.1 hg).1
  have bO:=(Boxed.new w1 69 (.slice (some ⟨w.heap.size,0,none⟩) 0 (len+1))).alloc (.cells #[.slice a len cap] 67);have bN:=Boxed.new (w1.alloc (.cells #[.slice (some ⟨w.heap.size,0,none⟩) 0 (len+1)] 69)) 67 (.slice a len cap);rw [World.size_alloc] at bN;have hB1:Below w.heap.size w w1:=(Below.refl _ w).grown hgr1 (xaf _) (fun k e=>by cases e);have hB0:Below w.heap.size w ((w1.alloc (.cells #[.slice (some ⟨w.heap.size,0,none⟩) 0 (len+1)] 69)).alloc (.cells #[.slice a len cap] 67)):=(hB1.alloc (by omega) _).alloc (by simp; omega) _;have hR0:=(hown1.alloc (.cells #[.slice (some ⟨w.heap.size,0,none⟩) 0 (len+1)] 69)).alloc (.cells #[.slice a len cap] 67);have hsz:((w1.alloc (.cells #[.slice (some ⟨w.heap.size,0,none⟩) 0 (len+1)] 69)).alloc (.cells #[.slice a len cap] 67)).heap.size=w1.heap.size+2:=by simp
  obtain ⟨W0,hW0⟩:∃ W0,((w1.alloc (.cells #[.slice (some ⟨w.heap.size,0,none⟩) 0 (len+1)] 69)).alloc (.cells #[.slice a len cap] 67))=W0:=⟨_,rfl⟩;rw [hW0] at bO bN hB0 hR0 hsz ⊢;obtain ⟨B5,hB5⟩:∃ B5,w1.heap.size=B5:=⟨_,rfl⟩;rw [hB5] at bO bN hsz hlt1 ⊢;clear hW0 hB5 hown1 hgr1 hB1;refine wpIn_rangeFunc_ownH hro h1 (gf:=191) (lb:=#[.pointer (some ⟨B5+1,0,none⟩)]) rfl hcl (enters_of Tryz.func191 (by kernel_rfl) rfl)
    (put_back_stops F (n - 1) hcl hro (by omega) (B5+1) w.heap.size _ len zs (by omega) W0 (by omega) (by omega) bN.cell (hI.below hB0))
    (fun h k=>h.trans k) (fun W l o o' hl h h2 h3=>⟨belowK_b (w:=W0) (by omega) W l o o' hl h h2 h3,by
      simp only [World.putObj];rw [Array.getElem?_setIfInBounds,xab (by omega)]⟩) (Below.refl _ _) (fun _=>rfl)
    (fun pre W=>((∃ v,Boxed W B5 69 v/\W.ownsRow w.heap.size 68 1 v pre.length (pre.map fun x=>Value.slice x.2.2.1 x.2.2.2.1 x.2.2.2.2)/\True)/\Boxed W (B5+1) 67 (.slice a len cap))/\Below w.heap.size w W)
    (fun _ _ _=>False)
    (OwnFrom.and (OwnFrom.and (Own.from (holdsRow_own w.heap.size B5 69 68 1 (fun pre:List (Nat×Int×Option Addr×Nat×Nat)=>pre.length) (fun pre=>pre.map fun x=>Value.slice x.2.2.1 x.2.2.2.1 x.2.2.2.2) (fun pre v=>True)) _) (Own.from (boxed_own _ _ _) _)) (ownFrom_below (xaf _) (by omega)))
    (fun _ _ _ _ _ hs _ _=>hs)
    ⟨⟨⟨_,bO,hR0,trivial⟩,bN⟩,hB0⟩
    (fun x a' W=>∃ Bx,B5+1<Bx/\W.heap[Bx]?=some (.cells #[.int .i64 x.2.1,.slice x.2.2.1 x.2.2.2.1 x.2.2.2.2] 106 (0,0))/\a'={ tmps:=#[Value.slice a0 n0 c0,Value.slice a len cap,undef,undef,Value.slice none 0 0,Value.pointer (some { block:=B5,off:=0 }),undef,.pointer (some ⟨Bx,0,none⟩),Value.slice a len cap,Value.int IntKind.i64 ↑len,Value.int IntKind.i64 (↑len+1),Value.slice (some { block:=w.heap.size,off:=0 }) 0 (len+1),Value.slice a len cap,Value.func (Fn.func 191) #[] #[Value.pointer (some { block:=B5+1,off:=0 })],.int .i64 (x.1:Int),.agg #[.int .i64 x.2.1,.slice x.2.2.1 x.2.2.2.1 x.2.2.2.2],undef,undef,undef,undef,undef,undef,undef,undef,undef,undef],defers:=[] })
    (fun x a' _ X Y row hs hg hr=>by
      obtain ⟨Bx,h1,h2,h3⟩:=hs;refine ⟨Bx,h1,(hg.block Bx (xcb.1 h2).1 fun e=>?_).trans h2,h3⟩;obtain ⟨_,o,ho,hc⟩:=hr Bx e.symm;rw [h2] at ho; cases ho; cases hc)
    ?assign ?body ?done ?stop
  case assign=>
    rintro l pre x W K ⟨⟨⟨v,bv,hv,_⟩,bn⟩,hB⟩ hK
    gi_wp2
    exact hK _ _ ((KeepsOthers.alloc _ _).from _) ⟨(Below.refl _ W).alloc hB.size _,(bn.alloc _).trans bn.symm⟩ ⟨⟨⟨v,bv.alloc _,hv.alloc _,trivial⟩,bn.alloc _⟩,hB.alloc hB.size _⟩ ⟨W.heap.size,bn.lt,World.alloc_heap_new W _,rfl⟩
  case body=>
    rintro l pre x a' W hl ⟨r,hr⟩ ⟨⟨⟨v,bv,hv,_⟩,bn⟩,hB⟩ ⟨Bx,hBx,bX,rfl⟩ hlt;obtain ⟨cx0,cx1,_,_⟩:=boxed2 bX;have hc:=bv.cell;have hmx:maxLen=9223372036854775807:=rfl
    gi_wp2_with (gi_at_builtin; refine wpListIn_append_own _ rfl _ _ 69 rfl w.heap.size 68 i0 (.slice none 0 0) 1 24 Tryz.underlying69 hi hz0 hzs hzb rfl (by decide) _ _ _ rfl (hv.alloc _) ⟨W.heap.size,0,none⟩ 1 1 [.slice x.2.2.1 x.2.2.2.1 x.2.2.2.2] rfl rfl (cell_one_new _ _ _) (by simp [Value.oneCell']) (by omega) (by omega) (by have:=hB.size; simp; omega) ?_; intro v' w2 hown' hgrow _; have hne:=(bn.alloc (.cells #[.slice x.2.2.1 x.2.2.2.1 x.2.2.2.2] 68)).kept hgrow ((bn.alloc _).not_row (by decide) (hv.alloc (.cells #[.slice x.2.2.1 x.2.2.2.1 x.2.2.2.2] 68))); obtain ⟨g',cap',rfl⟩:=ownsRow_succ hown'; obtain ⟨hv1,hv2,hr2,hk2,hb2⟩:=bv.appended (by decide) hv hB.size (by omega) hown' hgrow; have hc1:=hv1.cell; have hf1:=hv1.frozen)
    have hn2:=hne.other (B':=B5) (by omega) (.slice (some ⟨g',0,none⟩) (pre.length+1) cap');exact ⟨hk2.from _,⟨hb2,hn2.trans bn.symm⟩,⟨⟨_,hv2,by simpa using hr2,trivial⟩,hn2⟩,hB.trans hb2⟩
  case done=>
    rintro D ys W hD rfl ⟨⟨⟨v,bv,hv,_⟩,bn⟩,hB⟩ hK;rw [backTo_length] at hv;have hc:=bv.cell;have hmx:maxLen=9223372036854775807:=rfl
    gi_wp2_with ((gi_at_builtin; refine wpListIn_append_own _ rfl _ _ 69 rfl w.heap.size 68 i0 (.slice none 0 0) 1 24 Tryz.underlying69 hi hz0 hzs hzb rfl (by decide) _ _ _ rfl (hv.alloc _) ⟨W.heap.size,0,none⟩ 1 1 [.slice a0 n0 c0] rfl rfl (cell_one_new _ _ _) (by simp [Value.oneCell']) (by omega) (by omega) (by have:=hB.size; simp; omega) ?_; intro v' w2 hown' hgrow _))
    have hg2:=hB.size;have hDl:D<W.heap.size:=(xcb.1 hK).1;have hrowD:some D≠v.ownBlock:=by
      rcases hv.2 with ⟨rfl,_⟩ | ⟨g,cap,cur,rfl,_,hgb,_⟩
      · simp [Value.ownBlock]
      · intro e';obtain rfl:D=g:=by simpa [Value.ownBlock] using e'
        rw [hgb] at hK; cases hK
    have hvb:∀ j,v.ownBlock=some j->w.heap.size<=j:=by
      intro j ej
      rcases hv.2 with ⟨rfl,_⟩ | ⟨g,cap,cur,rfl,hgl,hgb,_⟩
      · simp [Value.ownBlock] at ej
      · obtain rfl:g=j:=by simpa [Value.ownBlock] using ej
        exact hgl
    refine (hM w2 v' D (by omega) ?_ ?_ hown').mono ?_
    · refine (hgrow.block D (by simp; omega) hrowD).trans ?_;exact (Below.heap_alloc W _ D hDl).trans hK
    · exact (hB.alloc hg2 _).grown hgrow (by simp; omega) hvb
    · rintro e W' ⟨r,rfl,hK',hR⟩
      gi_wp2
      refine ⟨by simp,.inl ⟨_,_,rfl,run_takeDeferred hK',?_⟩⟩;have hres:∀ tm:Array Value,tm.getD 4 undef=r->R (.returned (tm.getD 4 undef)) (W'.putObj D (.deferred none)):=fun tm e=>by rw [e]; exact hR
      refine ⟨_,results_tmp rfl _ _ _,?_⟩;exact hres _ rfl
  case stop=>
    rintro D c pre W _ _ h _;exact h.elim
theorem put_w:PutW Tryz.prog 86 55 68:=fun a0 n0 c0 a len cap zs w R hlen hI hM=>callsIn_wide.1 (put_put_in Fence.wide 3 trivial trivial trivial trivial rfl (by omega) a0 n0 c0 a len cap zs hlen w hI R fun W v D h1 h2 h3 h4=>callsIn_wide.2 (hM W v D h1 h2 h3 h4))
end

end Go.Dm
