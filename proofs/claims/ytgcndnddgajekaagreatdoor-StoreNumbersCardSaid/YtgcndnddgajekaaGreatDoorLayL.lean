/- What the rows' lists of package variables give the machine; a world that lays them. -/
import Derived.Test.YtgcndnddgajekaaGreatDoorEmF
import Derived.Test.YtgcndnddgajekaaGreatDoorCards
import Derived.Test.YtgcndnddgajekaaGreatDoorTie
import Derived.Deep.DeepHandedRow
import Derived.Lay
import Derived.Lib.LaidTab
import Derived.Lib.LaidU8
namespace Go.Proofs.YtgcndnddgajekaaGreatDoor
open Go Go.Dm Go.RowKit
set_option linter.unusedVariables false
set_option linter.unusedSimpArgs false
set_option maxRecDepth 100000
theorem iface_of_trod {w:World}{fuel:Nat}{t:TypeId}{ms:Array (String×TypeId)}{cs:List Value}{nm:String}{d:DataW Unit}{p:List MemPlace}(ht:Tryz.prog.underlying t=some (.interface ms))
    (h:DataW.trod (fun _=>()) Tryz.prog w 0 (fun _=>true) false fuel t cs=some (.iface nm d,p)):∃ u v,cs=[.iface u v]:=by
  cases fuel with
  | zero=>simp [DataW.trod] at h
  | succ fuel=>
    rcases cs with _ | ⟨x,_ | ⟨y,r⟩⟩
    · simp [DataW.trod,ht] at h
    · cases x with
      | iface u v=>exact ⟨u,v,rfl⟩
      | _=>simp [DataW.trod,ht] at h
    · cases x <;> simp [DataW.trod,ht] at h
theorem var_at {w:World}{n:String}{g:Nat}{cs:Array Value}(hg:Tryz.prog.globalNamed n=some g)(h:w.var? Tryz.prog n=some cs):∃ t k,w.heap[g]?=some (.cells cs t k):=by
  unfold World.var? at h;rw [hg] at h;simp only [xdf] at h;cases hh:w.heap[g]? with
  | none=>rw [hh] at h; cases h
  | some o=>
    rw [hh] at h;cases o with
    | cells c t k=>cases h; exact ⟨t,k,rfl⟩
    | _=>cases h
theorem sent {w:World}{n:String}{g t:Nat}{ms:Array (String×TypeId)}{nm:String}{d:DataW Unit}(hg:Tryz.prog.globalNamed n=some g)(hty:(Tryz.prog.globals[g]?).map (·.type)=some t)(ht:Tryz.prog.underlying t=some (.interface ms))
    (h:Lib.VarReads Tryz.prog w n (.iface nm d)):∃ a v t k,w.heap[g]?=some (.cells #[.iface a v] t k):=by
  obtain ⟨g',t',cs,fuel,p,h1,h2,h3,h4⟩:=h;obtain rfl:=Option.some.inj (hg.symm.trans h1);obtain rfl:=Option.some.inj (hty.symm.trans h2);obtain ⟨u,v,e⟩:=iface_of_trod ht h4;obtain ⟨t2,k2,h5⟩:=var_at hg h3;obtain ⟨l⟩:=cs;simp only at e;subst e;exact ⟨u,v,t2,k2,h5⟩
theorem pow_data:Rows.laid_internal_strconv_uint64pow10 (H:=Unit)=Lib.tabData .u64 ((List.range 20).map fun i=>((10 ^ i:Nat):Int)):=by kernel_rfl
theorem lay_of {l:List (String×DataW Unit)}{W:World}(hs:W.ShapedOpen Tryz.prog)(h:laidMet Tryz.prog l W)(h1:("internal/strconv.uint64pow10",Rows.laid_internal_strconv_uint64pow10)∈l)(h2:("strconv.ErrRange",Rows.laid_strconv_ErrRange)∈l)
    (h3:("strconv.ErrSyntax",Rows.laid_strconv_ErrSyntax)∈l):Lay W (fun b=>b<W.heap.size):=by
  have s0:∀ g zero t,g<Tryz.prog.globals.size->((begin Tryz.prog (fun _ _=>0) default).world.heap[g]?).bind Obj.row?=some (zero,t)->∃ cs,W.heap[g]?=some (.cells cs t)/\cs.size=zero.size/\(Tryz.prog.buildable t=true->Row.ok Tryz.prog W .any 0 t cs):=hs.1;refine ⟨fun b hb=>?_,?_,?_,?_⟩
  · have g7:(((begin Tryz.prog (fun _ _=>0) default).world.heap[4]?).bind Obj.row?).isSome=true:=by kernel_rfl
    obtain ⟨⟨z,t⟩,e⟩:=xeu.1 g7;obtain ⟨cs,hc,_⟩:=s0 4 z t (by decide +kernel) e;have:=(xcb.1 hc).1;show b<W.heap.size;omega
  · exact sent (t:=62) (ms:=#[("Error",216)]) (by kernel_rfl) (by kernel_rfl) (by kernel_rfl) (Lib.laidMet.reads h h3)
  · exact sent (t:=62) (ms:=#[("Error",216)]) (by kernel_rfl) (by kernel_rfl) (by kernel_rfl) (Lib.laidMet.reads h h2)
  · have hr:=Lib.laidMet.reads h h1;rw [pow_data] at hr;obtain ⟨g',t',cs,fuel,p,q1,q2,q3,q4⟩:=hr;have g3:Tryz.prog.globalNamed "internal/strconv.uint64pow10" = some 2:=by kernel_rfl
    obtain rfl:=Option.some.inj (g3.symm.trans q1);obtain ⟨t2,k2,q5⟩:=var_at g3 q3;have q6:=Lib.cells_of_tab (t:=t') (e:=170) (n:=20) (k:=.u64) (by rw [<- Option.some.inj ((show (Tryz.prog.globals[2]?).map (·.type)=some 231 by kernel_rfl).symm.trans q2)]; kernel_rfl) (by kernel_rfl) (by kernel_rfl)
      (by rw [<- Option.some.inj ((show (Tryz.prog.globals[2]?).map (·.type)=some 231 by kernel_rfl).symm.trans q2)]; kernel_rfl) q4
    obtain ⟨l'⟩:=cs;simp only at q6;subst q6;rw [xdd] at q5;exact ⟨t2,k2,q5⟩
/-- a law's call, out of its contract -/
theorem law_step {K:Bk}{f:FuncId}{ts:List TypeId}{α:Type}{ea:α->List AV}{ok:α->Prop}{sz:α->Nat}(hargs:ArgsZ K Tryz.prog ts ea ok sz)(hlaw:∀ x,ok x->Pc Tryz.prog f (ea x) (.bool true))
    {H:Type}{enc:TypeId×Value->H}{W:World}{base:Nat}{args:Array Value}{ds:List (DataW H)}{p:List MemPlace}(hval:∀ (j:Nat) (t:TypeId) (v:Value),ts[j]?=some t->args[j]?=some v->Value.okWide Tryz.prog W .any base t v)
    (hA:DataW.TrodAll enc Tryz.prog W 0 (fun _=>true) true ts args.toList ds p)(hz:(DataW.weightsEach Tryz.prog (ts++[]) (ds++[])).all (·<=reachBytes)=true)(hL:Lay W (fun b=>b<W.heap.size)) :
    Calls Tryz.prog f args W fun e w'=>e = .returned (.bool true)/\Below W.heap.size W w':=by
  obtain ⟨x,hx,_,hrel⟩:=hargs H enc W base args.toList ds p (fun j t v h1 h2=>hval j t v h1 (by simpa using h2)) hA;have hx':=hx fun n hn=>by simpa using xcl.1 hz n (each_app (trod_len hA) n hn)
  have hc:=law_calls (hlaw x hx') hrel hL;have e:args.toList.toArray=args:=by simp
  rwa [e] at hc
end Go.Proofs.YtgcndnddgajekaaGreatDoor
