/- Library functions, by the shelf's contracts: as contracts of the machine. -/
import Derived.Test.YtgcndnddgajekaaGreatDoorLays
import Derived.Test.YtgcndnddgajekaaGreatDoorEmD
import Derived.Test.YtgcndnddgajekaaGreatDoorFn
import Derived.Shelf.Strconv.Itoa3
import Derived.Shelf.Strconv.AtoiAll
namespace Go.Dm
open Go Go.RowKit
theorem lw_refl (E:Env):E.lw E:=
  ⟨fun i b b' h h'=>(by rw [h] at h'; exact (Option.some.inj h').symm),fun i q q' h h'=>(by rw [h] at h'; cases h'; exact ⟨xaf _,fun _=>⟨rfl,rfl,rfl,rfl⟩⟩),fun i r r' h h'=>(by rw [h] at h'; exact (Option.some.inj h').symm),fun i bs bs' h h'=>⟨[],by rw [h] at h'; cases h'; simp⟩⟩
/-- a call that left all as it was, but for new blocks -/
theorem St.ahead {F:Nat->Prop}{M:Mem}{E:Env}{w w':World}(hs:St ⟨w,F,M,Env.none⟩ 0 M E S.none #[] w)(hB:Below w.heap.size w w'):St ⟨w,F,M,Env.none⟩ 0 M E S.none #[] w':=by
  have hm:∀ b j v,M b j=some v->w'.cell? ⟨b,j,none⟩=some v:=fun b j v h=>by
    have h0:=(hs.mem b j v h).1;rw [xeb (hB.block b (xcg _ _ h0))];exact h0
  have hc:St ⟨w,fun b=>b<w.heap.size,M,Env.none⟩ 0 M Env.none S.none #[] w':={ size:=rfl,fr:=fun i av h=>(by cases h),mem:=fun b j v h=>⟨hm b j v h,fun o h=>(by cases h)⟩,bx:=fun i cs h=>(by cases h),bxn:=fun _ _=>rfl,rw:=fun i r h=>(by cases h),rwn:=fun _ _=>rfl,mp:=fun i es h=>(by cases h),mpn:=fun _ _=>rfl,ar:=fun i r h=>(by cases h),arn:=fun _ _=>rfl,live:=fun b o h=>(by cases h),foreign:=fun b hb=>⟨xbi hb hB.size,hB.block b hb,rfl⟩,m0:=fun _ _ _ h=>h,mf:=fun _ _ _ h _=>h,os:=hB.os,tape:=hB.tape,output:=hB.output,grow:=hB.size,lay:=lay_re hs.lay (fun _ _=>rfl) (fun b h=>(hs.foreign b h).1) };exact hs.borrowed hc
end Go.Dm
namespace Go.Proofs.YtgcndnddgajekaaGreatDoor
open Go Go.RowKit Go.Dm Go.Shelf Go.Proofs
theorem tab_of {w:World}{F:Nat->Prop}(h:Lay w F):Lib.TabIs Tryz.prog w "internal/strconv.uint64pow10" .u64 Lib.pow10Tab:=by
  obtain ⟨t,k,ht⟩:=h.tab;have e:Tryz.prog.globalNamed "internal/strconv.uint64pow10" = some 2:=by kernel_rfl
  unfold Lib.TabIs World.var?;rw [e];simp only [xdf,ht,Lib.pow10Tab,xdd];rfl
theorem itoa_pe (n:Int)(h : -9223372036854775808<=n/\n<=9223372036854775807):Pe Tryz.prog 16 S.none [.int .i64 n] (.str (Lib.itoa n)) S.none:=by
  refine ⟨Fn.b16,fun w M E F vs hs hr=>?_⟩;obtain ⟨v,rfl⟩:∃ v,vs=[v]:=by
    match vs,hr.1 with
    | [v],_=>exact ⟨v,rfl⟩
  have hv:=(hr.2 0 v _ rfl rfl).int_inv;subst hv;refine (Any.strconv_Itoa l171 n h.1 h.2 w (tab_of hs.lay)).mono ?_;rintro e w' ⟨rfl,k,os,rfl⟩;have hB:Below w.heap.size w (Go.Sort.grow (w.drewN k) os):=by
    refine ⟨rfl,rfl,rfl,by simp [Go.Sort.grow,World.drewN],fun b hb=>?_⟩;show (w.heap++os)[b]?=_;rw [xc5 hb]
  exact ⟨M,E,_,rfl,lw_refl E,hs.ahead hB,.cell (.pure (.str _))⟩
/-- what Atoi hands back: the number, and whether the error is nil -/
def zkb (s:List UInt8):Int×Bool:=match Lib.atoiAll s with
  | .ok v=>(v,true)
  | .range=>(Lib.atoiSat s,false)
  | _=>(0,false)
theorem tupIf {M:Mem}{E:Env}{n:Int}{v:Value}{b:Bool}(h:RelP M v (.ifc b)):Rel M E (.tuple #[.int .i64 n,v]) (.tup [.int .i64 n,.ifc b]):=by
  refine .tup [.int .i64 n,v] [.int .i64 n,.ifc b] rfl fun j x c hx hc=>?_
  match j,hx,hc with
  | 0,hx,hc=>cases hx; cases hc; exact .cell (.pure (.int _ _))
  | 1,hx,hc=>cases hx; cases hc; exact .cell (.pure h)
theorem atoi_pe (s:List UInt8)(hl:s.length<=281474976710656):Pe Tryz.prog 15 S.none [.str s] (.tup [.int .i64 (zkb s).1,.ifc (zkb s).2]) S.none:=by
  refine ⟨Fn.b15,fun w M E F vs hs hr=>?_⟩;obtain ⟨v,rfl⟩:∃ v,vs=[v]:=by
    match vs,hr.1 with
    | [v],_=>exact ⟨v,rfl⟩
  have hv:=(hr.2 0 v _ rfl rfl).str_inv;subst hv;have hl':(⟨s.toArray⟩:ByteArray).size<=281474976710656:=by show s.toArray.size<=_; simpa using hl
  have e0:(⟨s.toArray⟩:ByteArray).data.toList=s:=by simp
  cases ha:Lib.atoiAll s
  · rename_i n;have er:zkb s=(n,true):=by unfold zkb; rw [ha]
    rw [er];refine (Any.strconv_Atoi_ok l172 ⟨s.toArray⟩ (by omega) n (by rw [e0]; exact ha) w).mono ?_;rintro e w' ⟨rfl,hW⟩;have hB:Below w.heap.size w w':=by
      rcases hW with rfl | ⟨t,rfl⟩
      · exact Below.refl _ _
      · exact Lib.bytesWorld_below _ _ _
    exact ⟨M,E,_,rfl,lw_refl E,hs.ahead hB,tupIf .ifcN⟩
  · have er:zkb s=(0,false):=by unfold zkb; rw [ha]
    rw [er];obtain ⟨a,v,t,k,he⟩:=hs.lay.es;refine (Any.strconv_Atoi_syntax l172 ⟨s.toArray⟩ hl' (by rw [e0]; exact ha) (.iface a v) w (by simp [World.cell?,l172_ren,he]) (.inr ⟨_,_,rfl⟩)).mono ?_;rintro e w' ⟨n,rfl,_,_,hB⟩;exact ⟨M,E,_,rfl,lw_refl E,hs.ahead hB,tupIf (.ifcS _ _)⟩
  · have er:zkb s=(Lib.atoiSat s,false):=by unfold zkb; rw [ha]
    rw [er];obtain ⟨a,v,t,k,he⟩:=hs.lay.er;refine (Any.strconv_Atoi_range l172 ⟨s.toArray⟩ hl' (by rw [e0]; exact ha) (.iface a v) w (by simp [World.cell?,l172_ren,he]) (.inr ⟨_,_,rfl⟩)).mono ?_;rintro e w' ⟨n,rfl,_,_,hB⟩;rw [e0];exact ⟨M,E,_,rfl,lw_refl E,hs.ahead hB,tupIf (.ifcS _ _)⟩
end Go.Proofs.YtgcndnddgajekaaGreatDoor
