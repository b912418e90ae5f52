/- 'StoreNumbers' holds: of every input the law returns true, and the input reads behind the call as it did; the package variables are as the program's text lays them (the tied card). No condition besides. -/
import Derived.Test.YtgcndnddgajekaaGreatDoorPAll1
import Derived.Test.YtgcndnddgajekaaGreatDoorLayL
namespace Go.Proofs.YtgcndnddgajekaaGreatDoor
open Go Go.Dm Go.ChangeShapes Go.WideShapes Go.ChangeAt Go.RowKit
set_option linter.unusedVariables false
set_option maxRecDepth 100000
namespace FStoreNumbers
open G
theorem one_le {H:Type}(d:DataW H):1<=Rows.uptoBulk d:=by
  cases d with
  | lit l=>cases l <;> simp [Rows.uptoBulk]
  | nil=>simp [Rows.uptoBulk]
  | ptr d=>simp [Rows.uptoBulk]
  | slice elems spare=>simp [Rows.uptoBulk]
  | agg parts=>simp [Rows.uptoBulk]
  | iface t d=>simp [Rows.uptoBulk]
  | map entries=>simp [Rows.uptoBulk]
  | held h=>simp [Rows.uptoBulk]
noncomputable def K:Bk where
  b:=fun H d=>Rows.uptoBulk d
  all:=fun H l=>Rows.uptoBulkAll l
  str:=fun H s=>by simp [Rows.uptoBulk]
  one:=fun H d=>one_le d
  slice:=fun H e s=>by simp only [Rows.uptoBulk]; omega
  agg:=fun H e=>by simp only [Rows.uptoBulk]; omega
  cons:=fun H d r=>by simp only [Rows.uptoBulkAll]; omega
def ok_Disk (x:G.Disk):Prop:=(fun l:List UInt8=>(∀ x∈l,(fun _:UInt8=>True) x)/\l.length*1<=140737488351232) x.Bytes/\(fun n:Int=>-9223372036854775808<=n/\n<=9223372036854775807) x.Kept/\True
def sz_Disk (x:G.Disk):Nat:=((fun l:List UInt8=>(l.map (fun _:UInt8=>1)).sum+1) x.Bytes+((fun _:Int=>1) x.Kept+(0)))+1
theorem rd_Disk:Rz K Tryz.prog 24 (fun x:G.Disk=>.agg [.sl 1 (x.Bytes.map za8),.int .i64 x.Kept]) ok_Disk sz_Disk:=
  rz_struct (β:=(List UInt8)×Int×Unit) (t:=24) (fl:=[(22,0),(3,1)]) (fun b=>(⟨b.1,b.2.1⟩:G.Disk)) _ _ _ (by kernel_rfl) (rzf_cons (sz:=1) (by kernel_rfl) (rz_slice (t:=22) (e:=5) (sz:=1) (by':=1) (by kernel_rfl) (by kernel_rfl) (by decide) (by kernel_rfl) (Rz.of (rd_u8 (t:=5) (by kernel_rfl))) (fun _=>rfl)) (rzf_cons (sz:=1) (by kernel_rfl) (Rz.of (rd_i64 (t:=3) (by kernel_rfl))) rzf_nil (fun _=>rfl)) (fun _=>rfl)) (sz:=2) (by kernel_rfl) (fun _=>rfl) (fun _=>rfl) (fun _ h=>by exact h) (fun _=>xaf _)
def ok_Tablet (x:G.Tablet):Prop:=ok_Disk x.Log/\(fun l:List (List UInt8)=>(∀ x∈l,(fun l:List UInt8=>(∀ x∈l,(fun _:UInt8=>True) x)/\l.length*1<=140737488351232) x)/\l.length*24<=140737488351232) x.Files/\(fun n:Int=>-9223372036854775808<=n/\n<=9223372036854775807) x.Done/\(fun n:Int=>-9223372036854775808<=n/\n<=9223372036854775807) x.Since/\True
def sz_Tablet (x:G.Tablet):Nat:=(sz_Disk x.Log+((fun l:List (List UInt8)=>(l.map (fun l:List UInt8=>(l.map (fun _:UInt8=>1)).sum+1)).sum+1) x.Files+((fun _:Int=>1) x.Done+((fun _:Int=>1) x.Since+(0)))))+1
theorem rd_Tablet:Rz K Tryz.prog 27 (fun x:G.Tablet=>.agg (zdo x)) ok_Tablet sz_Tablet:=
  rz_struct (β:=G.Disk×(List (List UInt8))×Int×Int×Unit) (t:=27) (fl:=[(24,0),(25,2),(3,3),(3,4)]) (fun b=>(⟨b.1,b.2.1,b.2.2.1,b.2.2.2.1⟩:G.Tablet)) _ _ _ (by kernel_rfl) (rzf_cons (sz:=2) (by kernel_rfl) (rd_Disk) (rzf_cons (sz:=1) (by kernel_rfl) (rz_slice (t:=25) (e:=22) (sz:=1) (by':=24) (by kernel_rfl) (by kernel_rfl) (by decide) (by kernel_rfl) (rz_slice (t:=22) (e:=5) (sz:=1) (by':=1) (by kernel_rfl) (by kernel_rfl) (by decide) (by kernel_rfl) (Rz.of (rd_u8 (t:=5) (by kernel_rfl))) (fun _=>rfl)) (fun _=>rfl)) (rzf_cons (sz:=1) (by kernel_rfl) (Rz.of (rd_i64 (t:=3) (by kernel_rfl))) (rzf_cons (sz:=1) (by kernel_rfl) (Rz.of (rd_i64 (t:=3) (by kernel_rfl))) rzf_nil (fun _=>rfl)) (fun _=>rfl)) (fun _=>rfl)) (fun _=>rfl)) (sz:=5) (by kernel_rfl) (fun _=>rfl) (fun _=>rfl) (fun _ h=>by exact h) (fun _=>xaf _)
theorem own:ownKnob Tryz.prog.godebug=none:=by kernel_rfl
theorem plainL {w:World}(h:laidMetH Tryz.prog Rows.storeNumbersRow.laid w):laidMet Tryz.prog Rows.storeNumbersRow.laid w:=by
  rwa [MakeChecks.laidMetH_plain _ _ _ (by kernel_rfl)] at h
theorem wit (os:Os)(H:Type)(enc:TypeId×Value->H):∃ (w:World) (tape:Tape) (i:Input),w.os=os/\(w.forCall tape i).Shaped Tryz.prog/\i.vars=[]/\Input.okWide Tryz.prog (w.forCall tape i) .any w.heap.size 3 i/\
    (OpenSpec.ofChange Rows.storeNumbersSpec).preRow enc Tryz.prog Tryz.f3 Rows.storeNumbersRow.domain false Rows.storeNumbersRow.laid (w.forCall tape i).memory i.args/\({}:Assume).holds Tryz.prog (lone (Frame.enter Tryz.prog 3 i.args .normal) [] (w.forCall tape i)):=by
  have hok:Input.okWideB Tryz.prog ((World.laidAll Tryz.prog os Rows.storeNumbersRow.laid).forCall (fun _ _=>0) ⟨#[],#[.agg #[.slice none 0 0,.int .i64 0,.slice none 0 0,.int .i64 0,.int .i64 0],.string ⟨#[]⟩],[]⟩) 3 ⟨#[],#[.agg #[.slice none 0 0,.int .i64 0,.slice none 0 0,.int .i64 0,.int .i64 0],.string ⟨#[]⟩],[]⟩=true:=by kernel_rfl
  refine ⟨World.laidAll Tryz.prog os Rows.storeNumbersRow.laid,fun _ _=>0,⟨#[],#[.agg #[.slice none 0 0,.int .i64 0,.slice none 0 0,.int .i64 0,.int .i64 0],.string ⟨#[]⟩],[]⟩,World.laidAll_os _ _ _,World.shaped_of_ZipB (by kernel_rfl) (by kernel_rfl),(Input.okWide_of_okWideB (base:=0) hok).1,(Input.okWide_of_okWideB hok).2,?_,?_⟩
  · exact OpenSpec.preRow_of_cond (x:=([.agg [.agg [.nil,.lit (.int .i64 0)],.nil,.lit (.int .i64 0),.lit (.int .i64 0)],.lit (.string [])],[],[])) 8 (by kernel_rfl) (by kernel_rfl) (fun k hk=>by cases hk) (by kernel_rfl)
      (by rw [MakeChecks.laidMetH_plain _ _ _ (by kernel_rfl)]; exact laidMet_laidAll _ (by kernel_rfl) (by kernel_rfl))
  · simp only [Assume.holds];exact ⟨by simp,by simp,fun _=>Modest.zero,by simp,by simp⟩
theorem lifted (os:Os)(started:os.Started)(H:Type)(enc:TypeId×Value->H)(F:Stop.Interp) :
    ReturnsInHanded {} Tryz.checked os 3 .any ((OpenSpec.ofChange Rows.storeNumbersSpec).preRow enc Tryz.prog Tryz.f3 Rows.storeNumbersRow.domain false Rows.storeNumbersRow.laid) (((OpenSpec.ofChange Rows.storeNumbersSpec).at F).post enc Tryz.prog Tryz.f3 false true false false):=by
  refine returnsInHanded_of_row (C:=Tryz.checked) (s:=OpenSpec.ofChange Rows.storeNumbersSpec) own started (by kernel_rfl) Tryz.func3 (wit os H enc) ?_;intro W base args ds gs before hval hW _ _ hz hL hsh _;have hW':=hW;obtain ⟨p,q,hA,hV,rfl,_,hn⟩:=hW;have hV':DataW.TrodVars enc Tryz.prog W (fun _=>true) [] gs q:=hV;obtain ⟨rfl,rfl⟩:=trodVars_none hV';have hp:Tryz.f3.params.toList=[27,9]:=by rw [Tryz.params3]
  have hA':DataW.TrodAll enc Tryz.prog W 0 (fun _=>true) true [27,9] args.toList ds p:=by rw [<- hp]; exact hA
  have hargs:ArgsZ K Tryz.prog [27,9] _ _ _:=(argsZ_cons (t:=27) (Rz.argS (rd_Tablet) (by kernel_rfl) (fun _=>⟨_,rfl⟩)) (argsZ_cons (t:=9) (Rz.argC (rz_str (t:=9) (by kernel_rfl)) (by kernel_rfl) (fun _=>rfl)) argsZ_nil));have hz':(DataW.weightsEach Tryz.prog ([27,9]++[]) (ds++[])).all (·<=reachBytes)=true:=by rw [<- hp]; exact hz
  have hc:=law_step hargs (fun x hx=>law_StoreNumbers_ok (StoreNumbers_eq x.1 x.2.1 (by have:=hx.1.1.1.2; omega) (by have:=hx.1.2.1.2; omega) (fun b hb=>by have:=(hx.1.2.1.1 b hb).2; omega))) (base:=base) (fun j t v h1 h2=>hval j t v (by rw [Tryz.params3]; simpa using h1) h2) hA' hz'
    (lay_of hsh (plainL hL) (by unfold Rows.storeNumbersRow; simp) (by unfold Rows.storeNumbersRow; simp) (by unfold Rows.storeNumbersRow; simp))
  refine hc.mono fun e w' ⟨he,hbl⟩=>⟨_,he,?_⟩;exact law_post (s:=Rows.storeNumbersSpec) (by kernel_rfl) (by kernel_rfl) (tb:=4) (by kernel_rfl) (by kernel_rfl) rfl (by
    match ds,trod_len hA' with
    | [_,_],_=>rfl) hW' hbl
theorem c1:laidOutB Tryz.prog=true:=by kernel_rfl
theorem c2:mapsRowed Tryz.prog=true:=by kernel_rfl
theorem c3:(Rows.storeNumbersRow.unfollowed == Tryz.prog.unfollowed 3)=true:=by kernel_rfl
theorem c4:(Rows.storeNumbersRow.recurses == Tryz.prog.recurses 3)=true:=by kernel_rfl
theorem c5:(Rows.storeNumbersRow.inPlace == Tryz.prog.inPlace 3)=true:=by kernel_rfl
theorem c6:(Rows.storeNumbersRow.named == Tryz.prog.varsNamed 3)=true:=by kernel_rfl
theorem closed:joinedFacts Tryz.prog 3 Tryz.f3 (OpenSpec.ofChange Rows.storeNumbersSpec).bare Rows.storeNumbersRow=true:=by
  unfold joinedFacts;rw [c1,c2,c3,c4,c5,c6]
  kernel_rfl
theorem said:Rows.StoreNumbersSaid:=
  OpenClaim.holds_of_cond 3 Tryz.f3 rfl rfl rfl rfl rfl rfl rfl ⟨rfl,rfl,rfl,rfl,rfl⟩ rfl rfl rfl rfl rfl (by kernel_rfl) Tryz.func3 closed
    (xa7 (by kernel_rfl)) (by unfold Func.isWrapper; first | (rw [xad (by decide +kernel)]; kernel_rfl) | (rw [xab (by decide +kernel)]; exact ⟨rfl,rfl⟩))
    (fun os started H enc _ F=>by rw [OpenClaim.pre_eq_preRow]; exact lifted os started H enc F)
theorem plain (f:FuncId)(fn:Func)(hf:Tryz.pinned.checked.prog.funcNamed "tabulary/tabularylaw.StoreNumbers" = some f)(hfn:Tryz.pinned.checked.prog.funcs[f]?=some fn) :
    true=Tryz.pinned.checked.prog.looks []/\∀ (j:Nat) t,fn.params[j]?=some t->Tryz.pinned.checked.prog.wantsStandIn t=false:=by
  obtain rfl:f=3:=Option.some.inj ((show Tryz.prog.funcNamed "tabulary/tabularylaw.StoreNumbers" = some 3 by kernel_rfl).symm.trans hf) |>.symm
  obtain rfl:fn=Tryz.f3:=(Option.some.inj (Tryz.func3.symm.trans hfn)).symm;refine ⟨by kernel_rfl,fun j t ht=>?_⟩;rw [Tryz.params3] at ht;have hm:t∈[27,9]:=by simpa using Array.mem_of_getElem? ht
  simp only [xaq,List.not_mem_nil,or_false] at hm
  rcases hm with rfl | rfl <;> first | exact (show Tryz.prog.wantsStandIn 27=false by kernel_rfl)  | exact (show Tryz.prog.wantsStandIn 9=false by kernel_rfl)
theorem StoreNumbers_holds:Rows.StoreNumbersCardSaid:=
  Claim7.holds_tied_plain_at .later [] _ _ _ _ said (fun _ h=>by cases h) (by kernel_rfl) (fun _ h=>by cases h) storeNumbers_row_tie rfl ⟨rfl,rfl⟩ (by kernel_rfl) rfl plain (by kernel_rfl)
end FStoreNumbers
end Go.Proofs.YtgcndnddgajekaaGreatDoor
