/- The program's functions as plain functions, and that they are these. Written by a program (dec2.py). -/
import Derived.Test.YtnibbgjoanbnmaaGf0
namespace Go.Proofs.Ytnibbgjoanbnmaa
open Go Go.Dm
set_option linter.unusedVariables false
set_option linter.unusedSimpArgs false
set_option maxRecDepth 100000
namespace G
noncomputable section
/- (*history.bunch).alone$1 -/
def history_bunch_alone_1 (i:Int) (box:List Span) (box1:Nat) (ar:List bunch):Option Bool:=
 asrt (0≤i∧i<(box.length:Int)) <|
 asrt (0≤((box1:Nat):Int)∧((box1:Nat):Int)<(ar.length:Int)) <|
 asrt (0≤(lget ar ((box1:Nat):Int)).write∧(lget ar ((box1:Nat):Int)).write<(box.length:Int)) <|
 lt (decide (((lget box i).To)<((lget box ((lget ar ((box1:Nat):Int)).write)).From))) fun v=>
 some v
theorem history_bunch_alone_1_ok {i box box1 ar r} (hF:history_bunch_alone_1 i box box1 ar=some r):Pe Try.prog 44 ⟨[],[(100000,[.sl 4 (box.map e_Span)]),(100001,[.aptr 100000 box1 0])],[],[],[(100000,⟨51,5,[],ar.map e_bunch⟩)]⟩ [.i i,.ptr 100000 0,.ptr 100001 0] (.bool r) ⟨[],[(100000,[.sl 4 (box.map e_Span)]),(100001,[.aptr 100000 box1 0])],[],[],[(100000,⟨51,5,[],ar.map e_bunch⟩)]⟩:=by
 refine PT 19 [.tmp 4] [4] Try.func44 ?_
 intro Q g hfin
 unfold history_bunch_alone_1 at hF
 refine NAR [] [0,1,2] [100000,100001] [] [] [100000] ⟨[(0,.i i),(1,.ptr 100000 0),(2,.ptr 100001 0)],[(100000,[.sl 4 (box.map e_Span)]),(100001,[.aptr 100000 box1 0])],[],[],[(100000,⟨51,5,[],ar.map e_bunch⟩)]⟩ .nil ?_
 obtain ⟨h0,h1,hF⟩:=asrt2 hF
 obtain ⟨h2,hF⟩:=aE hF
 refine NADL (decide (((lget box i).To)<((lget box ((lget ar ((box1:Nat):Int)).write)).From))) (fun v:Bool=>(⟨[(4,.bool v)],[(100000,[.sl 4 (box.map e_Span)]),(100001,[.aptr 100000 box1 0])],[],[],[(100000,⟨51,5,[],ar.map e_bunch⟩)]⟩:S)) [.av (e_Span (lget box i)),.av (e_bunch (lget ar ((box1:Nat):Int))),.av (e_Span (lget box ((lget ar ((box1:Nat):Int)).write)))] [4] [100000,100001] [] [] [100000] (hc (idx_ok e_Span h0) (hc (ldr_ok e_bunch h1) (hc (idx_ok e_Span h2) .nil))) (fun v hv=>?_)
 have hF:=lt_elim hF hv
 cases hF
 exact Wk_ret (hfin _ ⟨[],[100000,100001],[],[],[100000],[],by kernel_rfl⟩)

/- slices.IndexFunc[[]int,int] -/
def slices_IndexFunc_int_int_J1 (v:Unit):Option Int:=
 some (-1)
def slices_IndexFunc_int_int_B1 (s0:List Int) (box:List Span) (box1:Nat) (ar:List bunch) (v1:Int):Option (Int⊕Int):=
 if (decide (v1<(s0.length:Int)))=true then
  asrt (0≤v1∧v1<(s0.length:Int)) <|
  ob (history_bunch_alone_1 (lget s0 v1) box box1 ar) fun x=>
  if x=true then
   some (Sum.inr v1)
  else
   some (Sum.inl (w64 (v1+1)))
 else
  inrO (slices_IndexFunc_int_int_J1 ())
def slices_IndexFunc_int_int_L1 (s0:List Int) (box:List Span) (box1:Nat) (ar:List bunch) (v0:Int):Option Int:=
 loopO (fun y=>slices_IndexFunc_int_int_B1 s0 box box1 ar y) v0
def slices_IndexFunc_int_int (s0:List Int) (box:List Span) (box1:Nat) (ar:List bunch):Option Int:=
 slices_IndexFunc_int_int_L1 s0 box box1 ar 0
theorem slices_IndexFunc_int_int_ok {s0 box box1 ar r} (hF:slices_IndexFunc_int_int s0 box box1 ar=some r):Pe Try.prog 51 ⟨[],[(100000,[.sl 4 (box.map e_Span)]),(100001,[.aptr 100000 box1 0])],[],[],[(100000,⟨51,5,[],ar.map e_bunch⟩)]⟩ [.sl 1 (s0.map e_i64),.fn 44 [.ptr 100000 0,.ptr 100001 0]] (.i r) ⟨[],[(100000,[.sl 4 (box.map e_Span)]),(100001,[.aptr 100000 box1 0])],[],[],[(100000,⟨51,5,[],ar.map e_bunch⟩)]⟩:=by
 refine PT 19 [.tmp 4] [3] Try.func51 ?_
 intro Q g hfin
 unfold slices_IndexFunc_int_int at hF
 refine NAR [] [0,1] [100000,100001] [] [] [100000] ⟨[(0,.sl 1 (s0.map e_i64)),(1,.fn 44 [.ptr 100000 0,.ptr 100001 0])],[(100000,[.sl 4 (box.map e_Span)]),(100001,[.aptr 100000 box1 0])],[],[],[(100000,⟨51,5,[],ar.map e_bunch⟩)]⟩ .nil ?_
 refine NAR [.nat (s0.length:Int)] [0,1,7,8] [100000,100001] [] [] [100000] ⟨[(0,.sl 1 (s0.map e_i64)),(1,.fn 44 [.ptr 100000 0,.ptr 100001 0]),(7,.i (s0.length:Int)),(8,.i 0)],[(100000,[.sl 4 (box.map e_Span)]),(100001,[.aptr 100000 box1 0])],[],[],[(100000,⟨51,5,[],ar.map e_bunch⟩)]⟩ (hc (len_ok e_i64 s0) .nil) ?_
 refine NmQ (fun v=>slices_IndexFunc_int_int_J1 v=some r) (fun v=>⟨[],[(100000,[.sl 4 (box.map e_Span)]),(100001,[.aptr 100000 box1 0])],[],[],[(100000,⟨51,5,[],ar.map e_bunch⟩)]⟩) ?_ ?_
 ·refine Nblk ?_
  unfold slices_IndexFunc_int_int_L1 at hF
  refine Nitr hF [] (fun v1=>⟨[(0,.sl 1 (s0.map e_i64)),(1,.fn 44 [.ptr 100000 0,.ptr 100001 0]),(7,.i (s0.length:Int)),(8,.i v1)],[(100000,[.sl 4 (box.map e_Span)]),(100001,[.aptr 100000 box1 0])],[],[],[(100000,⟨51,5,[],ar.map e_bunch⟩)]⟩) ?_
  intro n1 v1 y1 hF ih1 dn1
  unfold slices_IndexFunc_int_int_B1 at hF
  refine NAR [] [0,1,7,8,9] [100000,100001] [] [] [100000] ⟨[(0,.sl 1 (s0.map e_i64)),(1,.fn 44 [.ptr 100000 0,.ptr 100001 0]),(7,.i (s0.length:Int)),(8,.i v1),(9,.bool (decide (v1<(s0.length:Int))))],[(100000,[.sl 4 (box.map e_Span)]),(100001,[.aptr 100000 box1 0])],[],[],[(100000,⟨51,5,[],ar.map e_bunch⟩)]⟩ .nil ?_
  refine Nif hF ?_ ?_ <;> intro hb hF
  ·refine Nblk ?_
   refine NAR [] [0,1,5,7,8] [100000,100001] [] [] [100000] ⟨[(0,.sl 1 (s0.map e_i64)),(1,.fn 44 [.ptr 100000 0,.ptr 100001 0]),(5,.i v1),(7,.i (s0.length:Int)),(8,.i v1)],[(100000,[.sl 4 (box.map e_Span)]),(100001,[.aptr 100000 box1 0])],[],[],[(100000,⟨51,5,[],ar.map e_bunch⟩)]⟩ .nil ?_
   obtain ⟨h0,hF⟩:=aE hF
   obtain ⟨x,h1,hF⟩:=oE hF
   refine NAR [.av (e_i64 (lget s0 v1)),.callR [100000,100001] [] [] [100000] (.bool x)] [0,1,5,7,8,16] [100000,100001] [] [] [100000] ⟨[(0,.sl 1 (s0.map e_i64)),(1,.fn 44 [.ptr 100000 0,.ptr 100001 0]),(5,.i v1),(7,.i (s0.length:Int)),(8,.i v1),(16,.bool x)],[(100000,[.sl 4 (box.map e_Span)]),(100001,[.aptr 100000 box1 0])],[],[],[(100000,⟨51,5,[],ar.map e_bunch⟩)]⟩ (hc (idx_ok e_i64 h0) (hc (Pe.ren (history_bunch_alone_1_ok h1) ⟨[],[],[],[]⟩) .nil)) ?_
   refine Nif hF ?_ ?_ <;> intro hb hF
   ·refine NAR [] [4] [100000,100001] [] [] [100000] ⟨[(4,.i v1)],[(100000,[.sl 4 (box.map e_Span)]),(100001,[.aptr 100000 box1 0])],[],[],[(100000,⟨51,5,[],ar.map e_bunch⟩)]⟩ .nil ?_
    have hF:=ret_done hF dn1
    cases hF
    exact Wk_ret (hfin _ ⟨[],[100000,100001],[],[],[100000],[],by kernel_rfl⟩)
   ·refine NAR [] [0,1,7,8] [100000,100001] [] [] [100000] ⟨[(0,.sl 1 (s0.map e_i64)),(1,.fn 44 [.ptr 100000 0,.ptr 100001 0]),(7,.i (s0.length:Int)),(8,.i (w64 (v1+1)))],[(100000,[.sl 4 (box.map e_Span)]),(100001,[.aptr 100000 box1 0])],[],[],[(100000,⟨51,5,[],ar.map e_bunch⟩)]⟩ .nil ?_
    exact Nrnq [] hF ih1
  ·refine Nexit rfl ?_
   have hF:=inrO_done hF dn1
   exact metQ () [] hF
 ·intro v hF
  unfold slices_IndexFunc_int_int_J1 at hF
  refine NAR [] [4] [100000,100001] [] [] [100000] ⟨[(4,.i (-1))],[(100000,[.sl 4 (box.map e_Span)]),(100001,[.aptr 100000 box1 0])],[],[],[(100000,⟨51,5,[],ar.map e_bunch⟩)]⟩ .nil ?_
  cases hF
  exact Wk_ret (hfin _ ⟨[],[100000,100001],[],[],[100000],[],by kernel_rfl⟩)

/- slices.ContainsFunc[[]int,int] -/
def slices_ContainsFunc_int_int (s0:List Int) (box:List Span) (box1:Nat) (ar:List bunch):Option Bool:=
 ob (slices_IndexFunc_int_int s0 box box1 ar) fun x=>
 some (decide (0≤x))
theorem slices_ContainsFunc_int_int_ok {s0 box box1 ar r} (hF:slices_ContainsFunc_int_int s0 box box1 ar=some r):Pe Try.prog 43 ⟨[],[(100000,[.sl 4 (box.map e_Span)]),(100001,[.aptr 100000 box1 0])],[],[],[(100000,⟨51,5,[],ar.map e_bunch⟩)]⟩ [.sl 1 (s0.map e_i64),.fn 44 [.ptr 100000 0,.ptr 100001 0]] (.bool r) ⟨[],[(100000,[.sl 4 (box.map e_Span)]),(100001,[.aptr 100000 box1 0])],[],[],[(100000,⟨51,5,[],ar.map e_bunch⟩)]⟩:=by
 refine PT 9 [.tmp 4] [4] Try.func43 ?_
 intro Q g hfin
 unfold slices_ContainsFunc_int_int at hF
 refine NAR [] [0,1] [100000,100001] [] [] [100000] ⟨[(0,.sl 1 (s0.map e_i64)),(1,.fn 44 [.ptr 100000 0,.ptr 100001 0])],[(100000,[.sl 4 (box.map e_Span)]),(100001,[.aptr 100000 box1 0])],[],[],[(100000,⟨51,5,[],ar.map e_bunch⟩)]⟩ .nil ?_
 obtain ⟨x,h0,hF⟩:=oE hF
 refine NAR [.callR [100000,100001] [] [] [100000] (.i x)] [4] [100000,100001] [] [] [100000] ⟨[(4,.bool (decide (0≤x)))],[(100000,[.sl 4 (box.map e_Span)]),(100001,[.aptr 100000 box1 0])],[],[],[(100000,⟨51,5,[],ar.map e_bunch⟩)]⟩ (hc (Pe.ren (slices_IndexFunc_int_int_ok h0) ⟨[],[],[],[]⟩) .nil) ?_
 cases hF
 exact Wk_ret (hfin _ ⟨[],[100000,100001],[],[],[100000],[],by kernel_rfl⟩)

/- (*history.bunch).alone -/
def history_bunch_alone (b:Nat) (l:List Span) (ar:List bunch):Option Bool:=
 asrt (0≤((b:Nat):Int)∧((b:Nat):Int)<(ar.length:Int)) <|
 if (decide (((lget ar ((b:Nat):Int)).value)=0))=true then
  some false
 else
  asrt (0≤((b:Nat):Int)∧((b:Nat):Int)<(ar.length:Int)) <|
  asrt ((!(decide (((lget ar ((b:Nat):Int)).write)<0)))=true→0≤((b:Nat):Int)∧((b:Nat):Int)<(ar.length:Int)) <|
  ob (if (!(decide (((lget ar ((b:Nat):Int)).write)<0)))=true then (slices_ContainsFunc_int_int ((lget ar ((b:Nat):Int)).reads) l b ar) else some default) fun x=>
  some ((decide (((lget ar ((b:Nat):Int)).write)<0))||x)
theorem history_bunch_alone_ok {b l ar r} (hF:history_bunch_alone b l ar=some r):Pe Try.prog 20 ⟨[],[],[],[],[(100000,⟨51,5,[],ar.map e_bunch⟩)]⟩ [.aptr 100000 b 0,.sl 4 (l.map e_Span)] (.bool r) ⟨[],[],[],[],[(100000,⟨51,5,[],ar.map e_bunch⟩)]⟩:=by
 refine PT 23 [.tmp 4] [4] Try.func20 ?_
 intro Q g hfin
 unfold history_bunch_alone at hF
 refine NAR [] [2,3] [2,3] [] [] [100000] ⟨[(2,.ptr 2 0),(3,.ptr 3 0)],[(2,[.aptr 100000 b 0]),(3,[.sl 4 (l.map e_Span)])],[],[],[(100000,⟨51,5,[],ar.map e_bunch⟩)]⟩ .nil ?_
 obtain ⟨h0,hF⟩:=aE hF
 refine NAR [.av (e_bunch (lget ar ((b:Nat):Int)))] [2,3,9] [2,3] [] [] [100000] ⟨[(2,.ptr 2 0),(3,.ptr 3 0),(9,.bool (decide (((lget ar ((b:Nat):Int)).value)=0)))],[(2,[.aptr 100000 b 0]),(3,[.sl 4 (l.map e_Span)])],[],[],[(100000,⟨51,5,[],ar.map e_bunch⟩)]⟩ (hc (ldr_ok e_bunch h0) .nil) ?_
 refine Nif hF ?_ ?_ <;> intro hb hF
 ·refine NAR [] [4] [] [] [] [100000] ⟨[(4,.bool false)],[],[],[],[(100000,⟨51,5,[],ar.map e_bunch⟩)]⟩ .nil ?_
  cases hF
  exact Wk_ret (hfin _ ⟨[],[],[],[],[100000],[],by kernel_rfl⟩)
 ·obtain ⟨h1,hF⟩:=aE hF
  obtain ⟨h2,hF⟩:=aE hF
  obtain ⟨x,h3,hF⟩:=oE hF
  refine NAR [.av (e_bunch (lget ar ((b:Nat):Int))),.av (e_bunch (lget ar ((b:Nat):Int))),.callR [3,2] [] [] [100000] (.bool x)] [4] [] [] [] [100000] ⟨[(4,.bool ((decide (((lget ar ((b:Nat):Int)).write)<0))||x))],[],[],[],[(100000,⟨51,5,[],ar.map e_bunch⟩)]⟩ (hc (ldr_ok e_bunch h1) (hc (fun (ga0:(!(decide (((lget ar ((b:Nat):Int)).write)<0)))=true)=>(ldr_ok e_bunch (h2 ga0))) (hc (fun (ga0:(!(decide (((lget ar ((b:Nat):Int)).write)<0)))=true)=>(Pe.ren (slices_ContainsFunc_int_int_ok (ite_t h3 ga0)) ⟨[(100000,3),(100001,2)],[],[],[]⟩)) .nil))) ?_
  cases hF
  exact Wk_ret (hfin _ ⟨[],[],[],[],[100000],[],by kernel_rfl⟩)

/- history.clash -/
def history_clash (a0 b:Nat) (ar:List bunch):Option Bool:=
 asrt (0≤((a0:Nat):Int)∧((a0:Nat):Int)<(ar.length:Int)) <|
 asrt (0≤((b:Nat):Int)∧((b:Nat):Int)<(ar.length:Int)) <|
 asrt ((decide (((lget ar ((a0:Nat):Int)).first)<((lget ar ((b:Nat):Int)).last)))=true→0≤((b:Nat):Int)∧((b:Nat):Int)<(ar.length:Int)) <|
 asrt ((decide (((lget ar ((a0:Nat):Int)).first)<((lget ar ((b:Nat):Int)).last)))=true→0≤((a0:Nat):Int)∧((a0:Nat):Int)<(ar.length:Int)) <|
 lt ((decide (((lget ar ((a0:Nat):Int)).first)<((lget ar ((b:Nat):Int)).last)))&&(decide (((lget ar ((b:Nat):Int)).first)<((lget ar ((a0:Nat):Int)).last)))) fun v=>
 some v
theorem history_clash_ok {a0 b ar r} (hF:history_clash a0 b ar=some r):Pe Try.prog 21 ⟨[],[],[],[],[(100000,⟨51,5,[],ar.map e_bunch⟩)]⟩ [.aptr 100000 a0 0,.aptr 100000 b 0] (.bool r) ⟨[],[],[],[],[(100000,⟨51,5,[],ar.map e_bunch⟩)]⟩:=by
 refine PT 25 [.tmp 4] [4] Try.func21 ?_
 intro Q g hfin
 unfold history_clash at hF
 refine NAR [] [0,1] [] [] [] [100000] ⟨[(0,.aptr 100000 a0 0),(1,.aptr 100000 b 0)],[],[],[],[(100000,⟨51,5,[],ar.map e_bunch⟩)]⟩ .nil ?_
 obtain ⟨h0,h1,h2,h3,hF⟩:=asrt4 hF
 refine NADL ((decide (((lget ar ((a0:Nat):Int)).first)<((lget ar ((b:Nat):Int)).last)))&&(decide (((lget ar ((b:Nat):Int)).first)<((lget ar ((a0:Nat):Int)).last)))) (fun v:Bool=>(⟨[(4,.bool v)],[],[],[],[(100000,⟨51,5,[],ar.map e_bunch⟩)]⟩:S)) [.av (e_bunch (lget ar ((a0:Nat):Int))),.av (e_bunch (lget ar ((b:Nat):Int))),.av (e_bunch (lget ar ((b:Nat):Int))),.av (e_bunch (lget ar ((a0:Nat):Int)))] [4] [] [] [] [100000] (hc (ldr_ok e_bunch h0) (hc (ldr_ok e_bunch h1) (hc (fun (ga0:(decide (((lget ar ((a0:Nat):Int)).first)<((lget ar ((b:Nat):Int)).last)))=true)=>(ldr_ok e_bunch (h2 ga0))) (hc (fun (ga0:(decide (((lget ar ((a0:Nat):Int)).first)<((lget ar ((b:Nat):Int)).last)))=true)=>(ldr_ok e_bunch (h3 ga0))) .nil)))) (fun v hv=>?_)
 have hF:=lt_elim hF hv
 cases hF
 exact Wk_ret (hfin _ ⟨[],[],[],[],[100000],[],by kernel_rfl⟩)

/- history.Clash -/
def history_Clash_J1 (v:Unit):Option (Int×Int×Bool×Fault):=
 some (0,0,false,(⟨0,0⟩:Fault))
def history_Clash_J2 (v1:Int) (v2:Unit):Option (Int⊕(Int×Int×Bool×Fault)):=
 some (Sum.inl (w64 (v1+1)))
def history_Clash_B2 (l:List Span) (x1:List Nat×List bunch) (v1 v3:Int):Option (Int⊕(Int⊕(Int×Int×Bool×Fault))):=
 if (decide (v3<(x1.1.length:Int)))=true then
  asrt (0≤v3∧v3<(x1.1.length:Int)) <|
  asrt (0≤v3∧v3<(x1.1.length:Int)) <|
  asrt ((lget x1.1 v1)<x1.2.length∧(lget x1.1 v3)<x1.2.length) <|
  ob (if (decide ((lget x1.1 v1)=(lget x1.1 v3)))=true then (history_bunch_alone (lget x1.1 v1) l x1.2) else some default) fun x2=>
  asrt ((!((decide ((lget x1.1 v1)=(lget x1.1 v3)))&&x2))=true→(lget x1.1 v1)<x1.2.length∧(lget x1.1 v3)<x1.2.length) <|
  ob (if (!(decide ((lget x1.1 v1)=(lget x1.1 v3))))=true then (if (!((decide ((lget x1.1 v1)=(lget x1.1 v3)))&&x2))=true then (history_clash (lget x1.1 v1) (lget x1.1 v3) x1.2) else some default) else some default) fun x3=>
  if (((decide ((lget x1.1 v1)=(lget x1.1 v3)))&&x2)||((!(decide ((lget x1.1 v1)=(lget x1.1 v3))))&&x3))=true then
   asrt (0≤(((lget x1.1 v1):Nat):Int)∧(((lget x1.1 v1):Nat):Int)<(x1.2.length:Int)) <|
   asrt (0≤(((lget x1.1 v3):Nat):Int)∧(((lget x1.1 v3):Nat):Int)<(x1.2.length:Int)) <|
   some (Sum.inr (Sum.inr ((lget x1.2 (((lget x1.1 v1):Nat):Int)).value,(lget x1.2 (((lget x1.1 v3):Nat):Int)).value,true,(⟨0,0⟩:Fault))))
  else
   some (Sum.inl (w64 (v3+1)))
 else
  inrO (history_Clash_J2 v1 ())
def history_Clash_L2 (l:List Span) (x1:List Nat×List bunch) (v1 v0:Int):Option (Int⊕(Int×Int×Bool×Fault)):=
 loopO (fun y=>history_Clash_B2 l x1 v1 y) v0
def history_Clash_B1 (l:List Span) (x1:List Nat×List bunch) (v1:Int):Option (Int⊕(Int×Int×Bool×Fault)):=
 if (decide (v1<(x1.1.length:Int)))=true then
  asrt (0≤v1∧v1<(x1.1.length:Int)) <|
  asrt (0≤v1∧v1<(x1.1.length:Int)) <|
  history_Clash_L2 l x1 v1 0
 else
  inrO (history_Clash_J1 ())
def history_Clash_L1 (l:List Span) (x1:List Nat×List bunch) (v0:Int):Option (Int×Int×Bool×Fault):=
 loopO (fun y=>history_Clash_B1 l x1 y) v0
def history_Clash (l:List Span):Option (Int×Int×Bool×Fault):=
 ob (history_Check l) fun x=>
 if (!decide (x.Code=0))=true then
  some (0,0,false,x)
 else
  ob (history_bunches l ([]:List bunch)) fun x1=>
  history_Clash_L1 l x1 0
theorem history_Clash_ok {l r} (hF:history_Clash l=some r):Pe Try.prog 9 S.none [.sl 4 (l.map e_Span)] (.tup [.i r.1,.i r.2.1,.bool r.2.2.1,.agg (c_Fault r.2.2.2)]) S.none:=by
 refine Pe_ghost 100000 51 5 rfl ?_
 refine PT 62 [.tmp 2,.tmp 3,.tmp 4,.cell 5 26] [3,3,4,26] Try.func9 ?_
 intro Q g hfin
 unfold history_Clash at hF
 refine NAR [] [0,5] [5] [] [] [100000] ⟨[(0,.sl 4 (l.map e_Span)),(5,.ptr 5 0)],[(5,[.i 0,.i 0])],[],[],[(100000,⟨51,5,[],([]:List bunch).map o_bunch⟩)]⟩ .nil ?_
 obtain ⟨x,h0,hF⟩:=oE hF
 refine NAR [.callB (.agg (c_Fault x))] [0,5,6] [5,6] [] [] [100000] ⟨[(0,.sl 4 (l.map e_Span)),(5,.ptr 5 0),(6,.ptr 6 0)],[(5,[.i 0,.i 0]),(6,(c_Fault x))],[],[],[(100000,⟨51,5,[],([]:List bunch).map o_bunch⟩)]⟩ (hc (history_Check_ok h0) .nil) ?_
 refine NAR [] [0,5,6,16] [5,6] [] [] [100000] ⟨[(0,.sl 4 (l.map e_Span)),(5,.ptr 5 0),(6,.ptr 6 0),(16,.bool (!decide (x.Code=0)))],[(5,[.i 0,.i 0]),(6,(c_Fault x))],[],[],[(100000,⟨51,5,[],([]:List bunch).map o_bunch⟩)]⟩ .nil ?_
 refine Nif hF ?_ ?_ <;> intro hb hF
 ·refine NAD [] [2,3,4,5] [5] [] [] [100000] ⟨[(2,.i 0),(3,.i 0),(4,.bool false),(5,.ptr 5 0)],[(5,(c_Fault x))],[],[],[(100000,⟨51,5,[],([]:List bunch).map o_bunch⟩)]⟩ .nil ?_
  cases hF
  exact Wz [] hfin
 ·obtain ⟨x1,h1,hF⟩:=oE hF
  refine NAR [.callE [] [] [] [100000] (.row 19 0) ⟨[],[],[(19,⟨48,1,0,0,0,false,1,[100000],(x1.1.map ea)⟩)],[],[(100000,⟨51,5,[],x1.2.map o_bunch⟩)]⟩] [0,5,7] [5] [19] [] [100000] ⟨[(0,.sl 4 (l.map e_Span)),(5,.ptr 5 0),(7,.row 19 0)],[(5,[.i 0,.i 0])],[(19,⟨48,1,0,0,0,false,1,[100000],(x1.1.map ea)⟩)],[],[(100000,⟨51,5,[],x1.2.map o_bunch⟩)]⟩ (hc (Pe.ren (history_bunches_ok h1) ⟨[],[(12,19)],[],[]⟩) .nil) ?_
  refine L_freezeA 100000 (zs:=(x1.2.map e_bunch)) (.cons (okcL (f:=o_bunch) (fun _=>rfl) x1.2) (.cons (frzL (f:=o_bunch) (g:=e_bunch) (fun _=>rfl) x1.2) .nil)) (hk:=?_)
  refine NAR [.nat (x1.1.length:Int)] [0,5,7,20,21,22] [5] [19] [] [100000] ⟨[(0,.sl 4 (l.map e_Span)),(5,.ptr 5 0),(7,.row 19 0),(20,.row 19 0),(21,.i (x1.1.length:Int)),(22,.i 0)],[(5,[.i 0,.i 0])],[(19,⟨48,1,0,0,0,false,1,[100000],(x1.1.map ea)⟩)],[],[(100000,⟨51,5,[],x1.2.map e_bunch⟩)]⟩ (hc (len_ok ea x1.1) .nil) ?_
  refine NmQ (fun v=>history_Clash_J1 v=some r) (fun v=>⟨[(5,.ptr 5 0)],[(5,[.i 0,.i 0])],[],[],[(100000,⟨51,5,[],x1.2.map e_bunch⟩)]⟩) ?_ ?_
  ·refine Nblk ?_
   unfold history_Clash_L1 at hF
   refine Nitr hF [] (fun v1=>⟨[(0,.sl 4 (l.map e_Span)),(5,.ptr 5 0),(7,.row 19 0),(20,.row 19 0),(21,.i (x1.1.length:Int)),(22,.i v1)],[(5,[.i 0,.i 0])],[(19,⟨48,1,0,0,0,false,1,[100000],(x1.1.map ea)⟩)],[],[(100000,⟨51,5,[],x1.2.map e_bunch⟩)]⟩) ?_
   intro n1 v1 y1 hF ih1 dn1
   unfold history_Clash_B1 at hF
   refine NAR [] [0,5,7,20,21,22,23] [5] [19] [] [100000] ⟨[(0,.sl 4 (l.map e_Span)),(5,.ptr 5 0),(7,.row 19 0),(20,.row 19 0),(21,.i (x1.1.length:Int)),(22,.i v1),(23,.bool (decide (v1<(x1.1.length:Int))))],[(5,[.i 0,.i 0])],[(19,⟨48,1,0,0,0,false,1,[100000],(x1.1.map ea)⟩)],[],[(100000,⟨51,5,[],x1.2.map e_bunch⟩)]⟩ .nil ?_
   refine Nif hF ?_ ?_ <;> intro hb hF
   ·refine Nblk ?_
    obtain ⟨h2,h3,hF⟩:=asrt2 hF
    refine NAR [.av (ea (lget x1.1 v1))] [0,5,7,9,20,21,22] [5] [19] [] [100000] ⟨[(0,.sl 4 (l.map e_Span)),(5,.ptr 5 0),(7,.row 19 0),(9,.aptr 100000 (lget x1.1 v1) 0),(20,.row 19 0),(21,.i (x1.1.length:Int)),(22,.i v1)],[(5,[.i 0,.i 0])],[(19,⟨48,1,0,0,0,false,1,[100000],(x1.1.map ea)⟩)],[],[(100000,⟨51,5,[],x1.2.map e_bunch⟩)]⟩ (hc (ixr_ok ea h2) (hc (ldr_ok ea h3) .nil)) ?_
    refine NAR [.nat (x1.1.length:Int)] [0,5,7,9,20,21,22,26,27,28] [5] [19] [] [100000] ⟨[(0,.sl 4 (l.map e_Span)),(5,.ptr 5 0),(7,.row 19 0),(9,.aptr 100000 (lget x1.1 v1) 0),(20,.row 19 0),(21,.i (x1.1.length:Int)),(22,.i v1),(26,.row 19 0),(27,.i (x1.1.length:Int)),(28,.i 0)],[(5,[.i 0,.i 0])],[(19,⟨48,1,0,0,0,false,1,[100000],(x1.1.map ea)⟩)],[],[(100000,⟨51,5,[],x1.2.map e_bunch⟩)]⟩ (hc (len_ok ea x1.1) .nil) ?_
    refine NmQ (fun v2=>history_Clash_J2 v1 v2=some y1) (fun v2=>⟨[(0,.sl 4 (l.map e_Span)),(5,.ptr 5 0),(7,.row 19 0),(20,.row 19 0),(21,.i (x1.1.length:Int)),(22,.i v1)],[(5,[.i 0,.i 0])],[(19,⟨48,1,0,0,0,false,1,[100000],(x1.1.map ea)⟩)],[],[(100000,⟨51,5,[],x1.2.map e_bunch⟩)]⟩) ?_ ?_
    ·refine Nblk ?_
     unfold history_Clash_L2 at hF
     refine Nitr hF [] (fun v3=>⟨[(0,.sl 4 (l.map e_Span)),(5,.ptr 5 0),(7,.row 19 0),(9,.aptr 100000 (lget x1.1 v1) 0),(20,.row 19 0),(21,.i (x1.1.length:Int)),(22,.i v1),(26,.row 19 0),(27,.i (x1.1.length:Int)),(28,.i v3)],[(5,[.i 0,.i 0])],[(19,⟨48,1,0,0,0,false,1,[100000],(x1.1.map ea)⟩)],[],[(100000,⟨51,5,[],x1.2.map e_bunch⟩)]⟩) ?_
     intro n2 v3 y2 hF ih2 dn2
     unfold history_Clash_B2 at hF
     refine NAR [] [0,5,7,9,20,21,22,26,27,28,29] [5] [19] [] [100000] ⟨[(0,.sl 4 (l.map e_Span)),(5,.ptr 5 0),(7,.row 19 0),(9,.aptr 100000 (lget x1.1 v1) 0),(20,.row 19 0),(21,.i (x1.1.length:Int)),(22,.i v1),(26,.row 19 0),(27,.i (x1.1.length:Int)),(28,.i v3),(29,.bool (decide (v3<(x1.1.length:Int))))],[(5,[.i 0,.i 0])],[(19,⟨48,1,0,0,0,false,1,[100000],(x1.1.map ea)⟩)],[],[(100000,⟨51,5,[],x1.2.map e_bunch⟩)]⟩ .nil ?_
     refine Nif hF ?_ ?_ <;> intro hb hF
     ·refine Nblk ?_
      obtain ⟨h4,h5,hF⟩:=asrt2 hF
      refine NAR [.av (ea (lget x1.1 v3))] [0,5,7,9,11,20,21,22,26,27,28] [5] [19] [] [100000] ⟨[(0,.sl 4 (l.map e_Span)),(5,.ptr 5 0),(7,.row 19 0),(9,.aptr 100000 (lget x1.1 v1) 0),(11,.aptr 100000 (lget x1.1 v3) 0),(20,.row 19 0),(21,.i (x1.1.length:Int)),(22,.i v1),(26,.row 19 0),(27,.i (x1.1.length:Int)),(28,.i v3)],[(5,[.i 0,.i 0])],[(19,⟨48,1,0,0,0,false,1,[100000],(x1.1.map ea)⟩)],[],[(100000,⟨51,5,[],x1.2.map e_bunch⟩)]⟩ (hc (ixr_ok ea h4) (hc (ldr_ok ea h5) .nil)) ?_
      obtain ⟨h6,hF⟩:=aE hF
      obtain ⟨x2,h7,hF⟩:=oE hF
      obtain ⟨h8,hF⟩:=aE hF
      obtain ⟨x3,h9,hF⟩:=oE hF
      refine NAR [.bo (decide ((lget x1.1 v1)=(lget x1.1 v3))),.callR [] [] [] [100000] (.bool x2),.bo (decide ((lget x1.1 v1)=(lget x1.1 v3))),.callR [] [] [] [100000] (.bool x3)] [0,5,7,9,11,20,21,22,26,27,28,49] [5] [19] [] [100000] ⟨[(0,.sl 4 (l.map e_Span)),(5,.ptr 5 0),(7,.row 19 0),(9,.aptr 100000 (lget x1.1 v1) 0),(11,.aptr 100000 (lget x1.1 v3) 0),(20,.row 19 0),(21,.i (x1.1.length:Int)),(22,.i v1),(26,.row 19 0),(27,.i (x1.1.length:Int)),(28,.i v3),(49,.bool (((decide ((lget x1.1 v1)=(lget x1.1 v3)))&&x2)||((!(decide ((lget x1.1 v1)=(lget x1.1 v3))))&&x3)))],[(5,[.i 0,.i 0])],[(19,⟨48,1,0,0,0,false,1,[100000],(x1.1.map ea)⟩)],[],[(100000,⟨51,5,[],x1.2.map e_bunch⟩)]⟩ (hc (nhL (f:=e_bunch) (fun _=>rfl) x1.2) (hc (alen_ok e_bunch h6.1) (hc (alen_ok e_bunch h6.2) (hc (decide_eq_true_iff (p:=(lget x1.1 v1)=(lget x1.1 v3))) (hc (fun (ga0:(decide ((lget x1.1 v1)=(lget x1.1 v3)))=true)=>(Pe.ren (history_bunch_alone_ok (ite_t h7 ga0)) ⟨[],[],[],[]⟩)) (hc (fun (_:(!((decide ((lget x1.1 v1)=(lget x1.1 v3)))&&x2))=true)=>(nhL (f:=e_bunch) (fun _=>rfl) x1.2)) (hc (fun (ga0:(!((decide ((lget x1.1 v1)=(lget x1.1 v3)))&&x2))=true)=>(alen_ok e_bunch (h8 ga0).1)) (hc (fun (ga0:(!((decide ((lget x1.1 v1)=(lget x1.1 v3)))&&x2))=true)=>(alen_ok e_bunch (h8 ga0).2)) (hc (fun (_:(!((decide ((lget x1.1 v1)=(lget x1.1 v3)))&&x2))=true)=>(decide_eq_true_iff (p:=(lget x1.1 v1)=(lget x1.1 v3)))) (hc (fun (ga0:(!(decide ((lget x1.1 v1)=(lget x1.1 v3))))=true) (ga1:(!((decide ((lget x1.1 v1)=(lget x1.1 v3)))&&x2))=true)=>(Pe.ren (history_clash_ok (ite_t (ite_t h9 ga0) ga1)) ⟨[],[],[],[]⟩)) .nil)))))))))) ?_
      refine Nif hF ?_ ?_ <;> intro hb hF
      ·obtain ⟨h10,hF⟩:=aE hF
       obtain ⟨h11,hF⟩:=aE hF
       refine NAD [.av (e_bunch (lget x1.2 (((lget x1.1 v1):Nat):Int))),.av (e_bunch (lget x1.2 (((lget x1.1 v3):Nat):Int)))] [2,3,4,5] [5] [] [] [100000] ⟨[(2,.i ((lget x1.2 (((lget x1.1 v1):Nat):Int)).value)),(3,.i ((lget x1.2 (((lget x1.1 v3):Nat):Int)).value)),(4,.bool true),(5,.ptr 5 0)],[(5,[.i 0,.i 0])],[],[],[(100000,⟨51,5,[],x1.2.map e_bunch⟩)]⟩ (hc (ldr_ok e_bunch h10) (hc (ldr_ok e_bunch h11) .nil)) ?_
       have hF:=ret_done hF dn2
       have hF:=ret_done hF dn1
       cases hF
       exact Wz [] hfin
      ·refine NAR [] [0,5,7,9,20,21,22,26,27,28] [5] [19] [] [100000] ⟨[(0,.sl 4 (l.map e_Span)),(5,.ptr 5 0),(7,.row 19 0),(9,.aptr 100000 (lget x1.1 v1) 0),(20,.row 19 0),(21,.i (x1.1.length:Int)),(22,.i v1),(26,.row 19 0),(27,.i (x1.1.length:Int)),(28,.i (w64 (v3+1)))],[(5,[.i 0,.i 0])],[(19,⟨48,1,0,0,0,false,1,[100000],(x1.1.map ea)⟩)],[],[(100000,⟨51,5,[],x1.2.map e_bunch⟩)]⟩ .nil ?_
       exact Nrnq [] hF ih2
     ·refine Nexit rfl ?_
      have hF:=inrO_done hF dn2
      exact metQ () [] hF
    ·intro v2 hF
     unfold history_Clash_J2 at hF
     refine NAR [] [0,5,7,20,21,22] [5] [19] [] [100000] ⟨[(0,.sl 4 (l.map e_Span)),(5,.ptr 5 0),(7,.row 19 0),(20,.row 19 0),(21,.i (x1.1.length:Int)),(22,.i (w64 (v1+1)))],[(5,[.i 0,.i 0])],[(19,⟨48,1,0,0,0,false,1,[100000],(x1.1.map ea)⟩)],[],[(100000,⟨51,5,[],x1.2.map e_bunch⟩)]⟩ .nil ?_
     exact Nrnq [] hF ih1
   ·refine Nexit rfl ?_
    have hF:=inrO_done hF dn1
    exact metQ () [] hF
  ·intro v hF
   unfold history_Clash_J1 at hF
   refine NAR [] [2,3,4,5] [5] [] [] [100000] ⟨[(2,.i 0),(3,.i 0),(4,.bool false),(5,.ptr 5 0)],[(5,[.i 0,.i 0])],[],[],[(100000,⟨51,5,[],x1.2.map e_bunch⟩)]⟩ .nil ?_
   cases hF
   exact Wz [] hfin

/- history.Linear -/
def history_Linear (l:List Span):Option (Bool×Fault):=
 ob (history_Clash l) fun x=>
 some ((decide (x.2.2.2.Code=0))&&(!x.2.2.1),x.2.2.2)
theorem history_Linear_ok {l r} (hF:history_Linear l=some r):Pe Try.prog 14 S.none [.sl 4 (l.map e_Span)] (.tup [.bool r.1,.agg (c_Fault r.2)]) S.none:=by
 refine PT 23 [.tmp 2,.cell 3 26] [4,26] Try.func14 ?_
 intro Q g hfin
 unfold history_Linear at hF
 refine LR0 ?_
 obtain ⟨x,h0,hF⟩:=oE hF
 refine RJ (.b (history_Clash_ok h0) .z) ?_
 refine LD0 ?_
 cases hF
 exact Wz [] hfin

/- tabularylaw.historyBegun -/
def law_historyBegun  : Option Bool:=
 ob (history_Clash [(⟨1,1,0,2⟩:Span),(⟨2,0,3,5⟩:Span)]) fun x=>
 ob (history_Linear [(⟨1,1,0,9⟩:Span),(⟨2,0,3,5⟩:Span)]) fun x1=>
 lt ((((((decide (x.2.2.2.Code=0))&&(decide (x1.2.Code=0)))&&(decide (x.1=0)))&&(decide (x.2.1=1)))&&x.2.2.1)&&x1.1) fun v=>
 some v
theorem law_historyBegun_ok { r} (hF:law_historyBegun  = some r):Pe Try.prog 6 S.none [] (.bool r) S.none:=by
 refine PT 45 [.tmp 0] [4] Try.func6 ?_
 intro Q g hfin
 unfold law_historyBegun at hF
 refine LR0 ?_
 obtain ⟨x,h0,hF⟩:=oE hF
 refine RJ (.a (.sealed) (.b (history_Clash_ok h0) .z)) ?_
 obtain ⟨x1,h1,hF⟩:=oE hF
 refine RJ (.a (.sealed) (.b (history_Linear_ok h1) .z)) ?_
 refine NRL ((((((decide (x.2.2.2.Code=0))&&(decide (x1.2.Code=0)))&&(decide (x.1=0)))&&(decide (x.2.1=1)))&&x.2.2.1)&&x1.1) (fun v:Bool=>([(0,.bool v)],[],[],[])) [] [0] [] [] [] .nil (fun v hv=>?_)
 have hF:=lt_elim hF hv
 cases hF
 exact Wz [] hfin

/- tabularylaw.ownSpans -/
def law_ownSpans_v1 (l:List Span):Option (List Span):=
 asrt ((l.length:Int)*32≤140737488351232) <|
 some l
theorem law_ownSpans_v1_ok {l r} (hF:law_ownSpans_v1 l=some r):Pe Try.prog 7 S.none [.sl 4 (l.map e_Span)] (.sl 4 (r.map e_Span)) S.none:=by
 refine PT 5 [.tmp 2] [22] Try.func7 ?_
 intro Q g hfin
 unfold law_ownSpans_v1 at hF
 refine LR0 ?_
 obtain ⟨h0,hF⟩:=aE hF
 refine RJ (.p0 e_Span h0 .z) ?_
 cases hF
 exact Wz [] hfin

/- tabularyref.F -/
def R_F (code at0:Int):Fault:=
 (⟨code,at0⟩:Fault)
theorem R_F_ok {code at0 r} (hF:R_F code at0=r):Pe Try.prog 22 S.none [.i code,.i at0] (.agg (c_Fault r)) S.none:=by
 refine PT 8 [.cell 4 26] [26] Try.func22 ?_
 intro Q g hfin
 unfold R_F at hF
 refine LR0 ?_
 refine LR0 ?_
 cases hF
 exact Wz [] hfin

/- tabularyref.Num -/
def R_Num (num:Int):Bool:=
 (decide (0≤num))&&(decide (num≤1000000000))
theorem R_Num_ok {num r} (hF:R_Num num=r):Pe Try.prog 23 S.none [.i num] (.bool r) S.none:=by
 refine PT 9 [.tmp 2] [4] Try.func23 ?_
 intro Q g hfin
 unfold R_Num at hF
 refine LR0 ?_
 refine LR0 ?_
 cases hF
 exact Wz [] hfin

/- tabularyref.SpansFault -/
def R_SpansFault_J1 (v:Unit):Option Fault:=
 some (⟨0,0⟩:Fault)
def R_SpansFault_J2 (v1:Int) (v2:Unit):Option (Int⊕Fault):=
 some (Sum.inl (w64 (v1+1)))
def R_SpansFault_B2 (l:List Span) (v1 v3:Int):Option (Int⊕(Int⊕Fault)):=
 if (decide (v3<v1))=true then
  asrt ((decide (((lget l v1).Kind)=1))=true→0≤v3∧v3<(l.length:Int)) <|
  asrt (((decide (((lget l v1).Kind)=1))&&(decide (((lget l v3).Kind)=1)))=true→0≤v3∧v3<(l.length:Int)) <|
  if (((decide (((lget l v1).Kind)=1))&&(decide (((lget l v3).Kind)=1)))&&(decide (((lget l v3).Value)=((lget l v1).Value))))=true then
   lt (R_F 10 v1) fun x6=>
   some (Sum.inr (Sum.inr x6))
  else
   some (Sum.inl (w64 (v3+1)))
 else
  inrO (R_SpansFault_J2 v1 ())
def R_SpansFault_L2 (l:List Span) (v1 v0:Int):Option (Int⊕Fault):=
 loopO (fun y=>R_SpansFault_B2 l v1 y) v0
def R_SpansFault_B1 (l:List Span) (v1:Int):Option (Int⊕Fault):=
 if (decide (v1<(l.length:Int)))=true then
  asrt (0≤v1∧v1<(l.length:Int)) <|
  if ((decide (((lget l v1).Kind)<1))||(decide (2<((lget l v1).Kind))))=true then
   lt (R_F 4 v1) fun x1=>
   some (Sum.inr x1)
  else
   lt (R_Num ((lget l v1).Value)) fun x2=>
   lt (R_Num ((lget l v1).From)) fun x3=>
   lt (R_Num ((lget l v1).To)) fun x4=>
   if ((((!x2)||((decide (((lget l v1).Kind)=1))&&(decide (((lget l v1).Value)=0))))||(!x3))||((!decide (((lget l v1).To)=(-1)))&&((decide (((lget l v1).To)<((lget l v1).From)))||(!x4))))=true then
    lt (R_F 3 v1) fun x5=>
    some (Sum.inr x5)
   else
    R_SpansFault_L2 l v1 0
 else
  inrO (R_SpansFault_J1 ())
def R_SpansFault_L1 (l:List Span) (v0:Int):Option Fault:=
 loopO (fun y=>R_SpansFault_B1 l y) v0
def R_SpansFault (l:List Span):Option Fault:=
 if (decide (200<(l.length:Int)))=true then
  lt (R_F 2 (-1)) fun x=>
  some x
 else
  R_SpansFault_L1 l 0
theorem R_SpansFault_ok {l r} (hF:R_SpansFault l=some r):Pe Try.prog 10 S.none [.sl 4 (l.map e_Span)] (.agg (c_Fault r)) S.none:=by
 refine PT 99 [.cell 2 26] [26] Try.func10 ?_
 intro Q g hfin
 unfold R_SpansFault at hF
 refine LR0 ?_
 refine RJ (.l e_Span l .z) ?_
 refine Nif hF ?_ ?_ <;> intro hb hF
 ·obtain ⟨x,h0,hF⟩:=lS hF
  refine RJ (.b (R_F_ok h0) .z) ?_
  cases hF
  exact Wz [] hfin
 ·refine LR0 ?_
  refine NmS (fun v=>R_SpansFault_J1 v=some r) (fun Z v=>Z.up [2] [2] [] [] [] [] [] []) ?_ ?_
  ·refine Nblk ?_
   unfold R_SpansFault_L1 at hF
   refine Nits hF [] (fun Z v1=>Z.up [0,2,3] [2] [] [] [(3,.i v1)] [] [] []) ?_
   intro n1 v1 y1 hF ih1 dn1
   unfold R_SpansFault_B1 at hF
   refine RJ (.l e_Span l .z) ?_
   refine Nif hF ?_ ?_ <;> intro hb hF
   ·refine Nblk ?_
    obtain ⟨h1,hF⟩:=aE hF
    refine RJ (.i e_Span h1 .z) ?_
    refine LR0 ?_
    refine Nif hF ?_ ?_ <;> intro hb hF
    ·obtain ⟨x1,h2,hF⟩:=lS hF
     refine RJ (.b (R_F_ok h2) .z) ?_
     have hF:=ret_done hF dn1
     cases hF
     exact Wz [] hfin
    ·obtain ⟨x2,h3,hF⟩:=lS hF
     obtain ⟨x3,h4,hF⟩:=lS hF
     obtain ⟨x4,h5,hF⟩:=lS hF
     refine RJ (.b (R_Num_ok h3) (.a (.callB (.bool x3)) (.g (fun (ga0:(!((!x2)||((decide (((lget l v1).Kind)=1))&&(decide (((lget l v1).Value)=0)))))=true)=>(R_Num_ok h4)) (.a (.callB (.bool x4)) (.g (fun (ga0:(!(decide (((lget l v1).To)<((lget l v1).From))))=true) (ga1:(!decide (((lget l v1).To)=(-1)))=true) (ga2:(!(((!x2)||((decide (((lget l v1).Kind)=1))&&(decide (((lget l v1).Value)=0))))||(!x3)))=true)=>(R_Num_ok h5)) .z))))) ?_
     refine Nif hF ?_ ?_ <;> intro hb hF
     ·obtain ⟨x5,h6,hF⟩:=lS hF
      refine RJ (.b (R_F_ok h6) .z) ?_
      have hF:=ret_done hF dn1
      cases hF
      exact Wz [] hfin
     ·refine LR0 ?_
      refine NmS (fun v2=>R_SpansFault_J2 v1 v2=some y1) (fun Z v2=>Z.up [0,2,3] [2] [] [] [] [] [] []) ?_ ?_
      ·refine Nblk ?_
       unfold R_SpansFault_L2 at hF
       refine Nits hF [] (fun Z v3=>Z.up [0,2,3,4,5] [2,4] [] [] [(5,.i v3)] [] [] []) ?_
       intro n2 v3 y2 hF ih2 dn2
       unfold R_SpansFault_B2 at hF
       refine LR0 ?_
       refine Nif hF ?_ ?_ <;> intro hb hF
       ·refine Nblk ?_
        obtain ⟨h7,h8,hF⟩:=asrt2 hF
        refine DJ (.a (.av (e_Span (lget l v3))) (.g (fun (ga0:(decide (((lget l v1).Kind)=1))=true)=>(idx_ok e_Span (h7 ga0))) (.a (.av (e_Span (lget l v3))) (.g (fun (ga0:((decide (((lget l v1).Kind)=1))&&(decide (((lget l v3).Kind)=1)))=true)=>(idx_ok e_Span (h8 ga0))) .z)))) ?_
        refine Nif hF ?_ ?_ <;> intro hb hF
        ·obtain ⟨x6,h9,hF⟩:=lS hF
         refine RJ (.b (R_F_ok h9) .z) ?_
         have hF:=ret_done hF dn2
         have hF:=ret_done hF dn1
         cases hF
         exact Wz [] hfin
        ·refine LR0 ?_
         exact Nrnq [] hF ih2
       ·refine Nexit rfl ?_
        have hF:=inrO_done hF dn2
        exact metQ () [] hF
      ·intro v2 hF
       unfold R_SpansFault_J2 at hF
       refine LR0 ?_
       exact Nrnq [] hF ih1
   ·refine Nexit rfl ?_
    have hF:=inrO_done hF dn1
    exact metQ () [] hF
  ·intro v hF
   unfold R_SpansFault_J1 at hF
   refine LR0 ?_
   cases hF
   exact Wz [] hfin

/- tabularylaw.sameSpans -/
def law_sameSpans_J1 (v:Unit):Option Bool:=
 some true
def law_sameSpans_B1 (a0 b:List Span) (v1:Int):Option (Int⊕Bool):=
 if (decide (v1<(a0.length:Int)))=true then
  asrt (0≤v1∧v1<(a0.length:Int)) <|
  asrt (0≤v1∧v1<(b.length:Int)) <|
  if (!(decide ((lget a0 v1).Kind=(lget b v1).Kind)&&(decide ((lget a0 v1).Value=(lget b v1).Value)&&(decide ((lget a0 v1).From=(lget b v1).From)&&(decide ((lget a0 v1).To=(lget b v1).To)&&true)))))=true then
   some (Sum.inr false)
  else
   some (Sum.inl (w64 (v1+1)))
 else
  inrO (law_sameSpans_J1 ())
def law_sameSpans_L1 (a0 b:List Span) (v0:Int):Option Bool:=
 loopO (fun y=>law_sameSpans_B1 a0 b y) v0
def law_sameSpans (a0 b:List Span):Option Bool:=
 if (!decide ((a0.length:Int)=(b.length:Int)))=true then
  some false
 else
  law_sameSpans_L1 a0 b 0
theorem law_sameSpans_ok {a0 b r} (hF:law_sameSpans a0 b=some r):Pe Try.prog 11 S.none [.sl 4 (a0.map e_Span),.sl 4 (b.map e_Span)] (.bool r) S.none:=by
 refine PT 26 [.tmp 4] [4] Try.func11 ?_
 intro Q g hfin
 unfold law_sameSpans at hF
 refine LR0 ?_
 refine RJ (.l e_Span a0 (.l e_Span b .z)) ?_
 refine Nif hF ?_ ?_ <;> intro hb hF
 ·refine LR0 ?_
  cases hF
  exact Wz [] hfin
 ·refine LR0 ?_
  refine NmQ (fun v=>law_sameSpans_J1 v=some r) (fun v=>(.w [])) ?_ ?_
  ·refine Nblk ?_
   unfold law_sameSpans_L1 at hF
   refine Nits hF [] (fun Z v1=>Z.up [0,1,5] [] [] [] [(5,.i v1)] [] [] []) ?_
   intro n1 v1 y1 hF ih1 dn1
   unfold law_sameSpans_B1 at hF
   refine RJ (.l e_Span a0 .z) ?_
   refine Nif hF ?_ ?_ <;> intro hb hF
   ·refine Nblk ?_
    obtain ⟨h0,h1,hF⟩:=asrt2 hF
    refine DJ (.i e_Span h0 (.i e_Span h1 .z)) ?_
    refine Nif hF ?_ ?_ <;> intro hb hF
    ·refine LR0 ?_
     have hF:=ret_done hF dn1
     cases hF
     exact Wz [] hfin
    ·refine LR0 ?_
     exact Nrnq [] hF ih1
   ·refine Nexit rfl ?_
    have hF:=inrO_done hF dn1
    exact metQ () [] hF
  ·intro v hF
   unfold law_sameSpans_J1 at hF
   refine LR0 ?_
   cases hF
   exact Wz [] hfin

/- tabularyref.Counting -/
def R_Counting_J1 (v:List Int):Option (List Int):=
 some v
def R_Counting_J2 (l:List Span) (v1:List Int×Int) (v2:Bool):Option ((List Int×Int)⊕(List Int)):=
 asrt (0≤v1.2∧v1.2<(l.length:Int)) <|
 asrt ((!(decide (0≤((lget l v1.2).To))))=true→0≤v1.2∧v1.2<(l.length:Int)) <|
 ob (
  if ((decide (0≤((lget l v1.2).To)))||((decide (((lget l v1.2).Kind)=1))&&v2))=true then
   asrt (((v1.1++([v1.2]:List Int)).length:Int)*8≤140737488351232) <|
   some (v1.1++([v1.2]:List Int))
  else
   some v1.1) fun v3=>
 some (Sum.inl (v3,w64 (v1.2+1)))
def R_Counting_B2 (l:List Span) (v1:List Int×Int) (v4:Bool×Int):Option ((Bool×Int)⊕((List Int×Int)⊕(List Int))):=
 if (decide (v4.2<(l.length:Int)))=true then
  asrt ((!v4.1)=true→0≤v4.2∧v4.2<(l.length:Int)) <|
  asrt ((decide (((lget l v4.2).Kind)=2))=true→(!v4.1)=true→0≤v4.2∧v4.2<(l.length:Int)) <|
  asrt ((decide (((lget l v4.2).Kind)=2))=true→(!v4.1)=true→0≤v1.2∧v1.2<(l.length:Int)) <|
  asrt (((decide (((lget l v4.2).Kind)=2))&&(decide (((lget l v4.2).Value)=((lget l v1.2).Value))))=true→(!v4.1)=true→0≤v4.2∧v4.2<(l.length:Int)) <|
  lt (v4.1||(((decide (((lget l v4.2).Kind)=2))&&(decide (((lget l v4.2).Value)=((lget l v1.2).Value))))&&(decide (0≤((lget l v4.2).To))))) fun v5=>
  some (Sum.inl (v5,w64 (v4.2+1)))
 else
  inrO (R_Counting_J2 l v1 v4.1)
def R_Counting_L2 (l:List Span) (v1:List Int×Int) (v0:Bool×Int):Option ((List Int×Int)⊕(List Int)):=
 loopO (fun y=>R_Counting_B2 l v1 y) v0
def R_Counting_B1 (l:List Span) (v1:List Int×Int):Option ((List Int×Int)⊕(List Int)):=
 if (decide (v1.2<(l.length:Int)))=true then
  R_Counting_L2 l v1 (false,0)
 else
  inrO (R_Counting_J1 v1.1)
def R_Counting_L1 (l:List Span) (v0:List Int×Int):Option (List Int):=
 loopO (fun y=>R_Counting_B1 l y) v0
def R_Counting (l:List Span):Option (List Int):=
 R_Counting_L1 l (([]:List Int),0)
theorem R_Counting_ok {l r} (hF:R_Counting l=some r):Pe Try.prog 13 (.w []) [.sl 4 (l.map e_Span)] (.row 69 0) ⟨[],[],[(69,.z 3 1 0 (r.map e_i64))],[],[]⟩:=by
 refine PT 71 [.tmp 2] [34] Try.func13 ?_
 intro Q g hfin
 unfold R_Counting at hF
 refine LR0 ?_
 refine LR0 ?_
 refine NR [] [0,3,4] [] [] [(0,.sl 4 (l.map e_Span)),(3,.nils),(4,.i 0)] .nil ?_
 refine NmQ (fun v=>R_Counting_J1 v=some r) (fun v=>⟨[(3,.row 69 0)],[],[(69,.z 3 1 0 (v.map e_i64))],[],[]⟩) ?_ ?_
 ·refine Nblk ?_
  unfold R_Counting_L1 at hF
  refine Wk_nilrow 3 60000 3 1 rfl rfl rfl ?_
  refine Wk_trim (fs:=[0,3,4]) (bs:=[]) (rs:=[60000]) (ms:=[]) (aa:=[]) (nv:=[]) rfl ?_
  refine Wk_ren' ⟨[],[(60000,69)],[],[]⟩ rfl ?_
  refine Nitr hF [] (fun v1=>⟨[(0,.sl 4 (l.map e_Span)),(3,.row 69 0),(4,.i v1.2)],[],[(69,.z 3 1 0 (v1.1.map e_i64))],[],[]⟩) ?_
  intro n1 v1 y1 hF ih1 dn1
  unfold R_Counting_B1 at hF
  refine RJ (.l e_Span l .z) ?_
  refine Nif hF ?_ ?_ <;> intro hb hF
  ·refine Nblk ?_
   refine LR0 ?_
   refine LR0 ?_
   refine NmS (fun v2=>R_Counting_J2 l v1 v2=some y1) (fun Z v2=>Z.up [0,3,4,5] [] [69] [] [(5,.bool v2)] [] [] []) ?_ ?_
   ·refine Nblk ?_
    unfold R_Counting_L2 at hF
    refine Nits hF [] (fun Z v4=>Z.up [0,3,4,5,6] [] [69] [] [(5,.bool v4.1),(6,.i v4.2)] [] [] []) ?_
    intro n2 v4 y2 hF ih2 dn2
    unfold R_Counting_B2 at hF
    refine RJ (.l e_Span l .z) ?_
    refine Nif hF ?_ ?_ <;> intro hb hF
    ·refine Nblk ?_
     obtain ⟨h3,h4,h5,h6,hF⟩:=asrt4 hF
     refine NDL (v4.1||(((decide (((lget l v4.2).Kind)=2))&&(decide (((lget l v4.2).Value)=((lget l v1.2).Value))))&&(decide (0≤((lget l v4.2).To))))) (fun v5:Bool=>([(5,.bool v5)],[],[],[])) [.av (e_Span (lget l v4.2)),.av (e_Span (lget l v4.2)),.av (e_Span (lget l v1.2)),.av (e_Span (lget l v4.2))] [0,3,4,5,6] [] [69] [] (hc (fun (ga0:(!v4.1)=true)=>(idx_ok e_Span (h3 ga0))) (hc (fun (ga0:(decide (((lget l v4.2).Kind)=2))=true) (ga1:(!v4.1)=true)=>(idx_ok e_Span (h4 ga0 ga1))) (hc (fun (ga0:(decide (((lget l v4.2).Kind)=2))=true) (ga1:(!v4.1)=true)=>(idx_ok e_Span (h5 ga0 ga1))) (hc (fun (ga0:((decide (((lget l v4.2).Kind)=2))&&(decide (((lget l v4.2).Value)=((lget l v1.2).Value))))=true) (ga1:(!v4.1)=true)=>(idx_ok e_Span (h6 ga0 ga1))) .nil)))) (fun v5 hv=>?_)
     have hF:=lt_elim hF hv
     refine LR0 ?_
     exact Nrnq [] hF ih2
    ·refine Nexit rfl ?_
     have hF:=inrO_done hF dn2
     exact metQ v4.1 [] hF
   ·intro v2 hF
    unfold R_Counting_J2 at hF
    obtain ⟨h0,h1,hF⟩:=asrt2 hF
    refine RJ (.i e_Span h0 (.a (.av (e_Span (lget l v1.2))) (.g (fun (ga0:(!(decide (0≤((lget l v1.2).To))))=true)=>(idx_ok e_Span (h1 ga0))) .z))) ?_
    obtain ⟨v3,hv,hF⟩:=oE hF
    refine NmT (fun Z=>Z.up [0,3,4] [] [69] [] [] [] [(69,.z 3 1 0 (v3.map e_i64))] []) ?_ ?_
    ·have hF:=hv
     refine Nif hF ?_ ?_ <;> intro hb hF
     ·obtain ⟨h2,hF⟩:=aE hF
      refine RJ (.a (.sealed) (.p e_i64 h2 .z)) ?_
      cases hF
      exact met' [(69,⟨0,true,true,false⟩)]
     ·cases hF
      exact met' []
    ·refine LR0 ?_
     exact Nrnq [] hF ih1
  ·refine Nexit rfl ?_
   have hF:=inrO_done hF dn1
   exact metQ v1.1 [] hF
 ·intro v hF
  unfold R_Counting_J1 at hF
  refine LR0 ?_
  cases hF
  exact Wz [] hfin

/- tabularyref.FirstEnd -/
def R_FirstEnd_J1 (v1:Int):Option Int:=
 some v1
def R_FirstEnd_B1 (l:List Span) (v:Int) (x:List Int) (v2:Int×Int):Option ((Int×Int)⊕Int):=
 if (decide (v2.2<(x.length:Int)))=true then
  asrt (0≤v2.2∧v2.2<(x.length:Int)) <|
  asrt (0≤v2.2∧v2.2<(x.length:Int)) <|
  asrt (0≤(lget x v2.2)∧(lget x v2.2)<(l.length:Int)) <|
  ob (
   if (((decide (((lget l (lget x v2.2)).Value)=v))&&(decide (0≤((lget l (lget x v2.2)).To))))&&(decide (((lget l (lget x v2.2)).To)<v2.1)))=true then
    some ((lget l (lget x v2.2)).To)
   else
    some v2.1) fun v3=>
  some (Sum.inl (v3,w64 (v2.2+1)))
 else
  inrO (R_FirstEnd_J1 v2.1)
def R_FirstEnd_L1 (l:List Span) (v:Int) (x:List Int) (v0:Int×Int):Option Int:=
 loopO (fun y=>R_FirstEnd_B1 l v x y) v0
def R_FirstEnd (l:List Span) (v:Int):Option Int:=
 if (decide (v=0))=true then
  some (-1)
 else
  ob (R_Counting l) fun x=>
  R_FirstEnd_L1 l v x (2000000000,0)
theorem R_FirstEnd_ok {l v r} (hF:R_FirstEnd l v=some r):Pe Try.prog 24 S.none [.sl 4 (l.map e_Span),.i v] (.i r) S.none:=by
 refine PT 44 [.tmp 4] [3] Try.func24 ?_
 intro Q g hfin
 unfold R_FirstEnd at hF
 refine LR0 ?_
 refine LR0 ?_
 refine Nif hF ?_ ?_ <;> intro hb hF
 ·refine LR0 ?_
  cases hF
  exact Wz [] hfin
 ·refine LR0 ?_
  obtain ⟨x,h0,hF⟩:=oE hF
  have p1:=(Pe.ren (R_Counting_ok h0) ⟨[],[(69,12)],[],[]⟩)
  refine RJ (.e [] [] p1 .z) ?_
  refine LR0 ?_
  refine NmQ (fun v1=>R_FirstEnd_J1 v1=some r) (fun v1=>⟨[(5,.i v1)],[],[],[],[]⟩) ?_ ?_
  ·refine Nblk ?_
   unfold R_FirstEnd_L1 at hF
   refine Nits hF [] (fun Z v2=>Z.up [0,1,5,6,7] [] [12] [] [(5,.i v2.1),(7,.i v2.2)] [] [] []) ?_
   intro n1 v2 y1 hF ih1 dn1
   unfold R_FirstEnd_B1 at hF
   refine RJ (.l e_i64 x .z) ?_
   refine Nif hF ?_ ?_ <;> intro hb hF
   ·refine Nblk ?_
    obtain ⟨h2,h3,hF⟩:=asrt2 hF
    obtain ⟨h4,hF⟩:=aE hF
    refine RJ (.x e_i64 h2 (.r e_i64 h3 (.i e_Span h4 .z))) ?_
    refine LR0 ?_
    obtain ⟨v3,hv,hF⟩:=oE hF
    refine NmT (fun Z=>Z.up [0,1,5,6,7] [] [12] [] [(5,.i v3)] [] [] []) ?_ ?_
    ·have hF:=hv
     refine Nif hF ?_ ?_ <;> intro hb hF
     ·refine LR0 ?_
      cases hF
      exact met' []
     ·cases hF
      exact met' []
    ·refine LR0 ?_
     exact Nrnq [] hF ih1
   ·refine Nexit rfl ?_
    have hF:=inrO_done hF dn1
    exact metQ v2.1 [] hF
  ·intro v1 hF
   unfold R_FirstEnd_J1 at hF
   refine LR0 ?_
   cases hF
   exact Wz [] hfin

/- tabularyref.LastBegin -/
def R_LastBegin_J1 (v1:Int):Option Int:=
 some v1
def R_LastBegin_B1 (l:List Span) (v:Int) (x:List Int) (v2:Int×Int):Option ((Int×Int)⊕Int):=
 if (decide (v2.2<(x.length:Int)))=true then
  asrt (0≤v2.2∧v2.2<(x.length:Int)) <|
  asrt (0≤v2.2∧v2.2<(x.length:Int)) <|
  asrt (0≤(lget x v2.2)∧(lget x v2.2)<(l.length:Int)) <|
  ob (
   if ((decide (((lget l (lget x v2.2)).Value)=v))&&(decide (v2.1<((lget l (lget x v2.2)).From))))=true then
    some ((lget l (lget x v2.2)).From)
   else
    some v2.1) fun v3=>
  some (Sum.inl (v3,w64 (v2.2+1)))
 else
  inrO (R_LastBegin_J1 v2.1)
def R_LastBegin_L1 (l:List Span) (v:Int) (x:List Int) (v0:Int×Int):Option Int:=
 loopO (fun y=>R_LastBegin_B1 l v x y) v0
def R_LastBegin (l:List Span) (v:Int):Option Int:=
 ob (R_Counting l) fun x=>
 R_LastBegin_L1 l v x ((-1),0)
theorem R_LastBegin_ok {l v r} (hF:R_LastBegin l v=some r):Pe Try.prog 25 S.none [.sl 4 (l.map e_Span),.i v] (.i r) S.none:=by
 refine PT 37 [.tmp 4] [3] Try.func25 ?_
 intro Q g hfin
 unfold R_LastBegin at hF
 refine LR0 ?_
 refine LR0 ?_
 obtain ⟨x,h0,hF⟩:=oE hF
 have p1:=(Pe.ren (R_Counting_ok h0) ⟨[],[(69,10)],[],[]⟩)
 refine RJ (.e [] [] p1 .z) ?_
 refine LR0 ?_
 refine NmQ (fun v1=>R_LastBegin_J1 v1=some r) (fun v1=>⟨[(5,.i v1)],[],[],[],[]⟩) ?_ ?_
 ·refine Nblk ?_
  unfold R_LastBegin_L1 at hF
  refine Nits hF [] (fun Z v2=>Z.up [0,1,5,6,7] [] [10] [] [(5,.i v2.1),(7,.i v2.2)] [] [] []) ?_
  intro n1 v2 y1 hF ih1 dn1
  unfold R_LastBegin_B1 at hF
  refine RJ (.l e_i64 x .z) ?_
  refine Nif hF ?_ ?_ <;> intro hb hF
  ·refine Nblk ?_
   obtain ⟨h2,h3,hF⟩:=asrt2 hF
   obtain ⟨h4,hF⟩:=aE hF
   refine RJ (.x e_i64 h2 (.r e_i64 h3 (.i e_Span h4 .z))) ?_
   refine LR0 ?_
   obtain ⟨v3,hv,hF⟩:=oE hF
   refine NmT (fun Z=>Z.up [0,1,5,6,7] [] [10] [] [(5,.i v3)] [] [] []) ?_ ?_
   ·have hF:=hv
    refine Nif hF ?_ ?_ <;> intro hb hF
    ·refine LR0 ?_
     cases hF
     exact met' []
    ·cases hF
     exact met' []
   ·refine LR0 ?_
    exact Nrnq [] hF ih1
  ·refine Nexit rfl ?_
   have hF:=inrO_done hF dn1
   exact metQ v2.1 [] hF
 ·intro v1 hF
  unfold R_LastBegin_J1 at hF
  refine LR0 ?_
  cases hF
  exact Wz [] hfin

/- tabularyref.SpanAhead -/
def R_SpanAhead (a0 b:Span):Bool:=
 (decide (0≤a0.To))&&(decide (a0.To<b.From))
theorem R_SpanAhead_ok {a0 b r} (hF:R_SpanAhead a0 b=r):Pe Try.prog 28 S.none [.agg (c_Span a0),.agg (c_Span b)] (.bool r) S.none:=by
 refine PT 15 [.tmp 4] [4] Try.func28 ?_
 intro Q g hfin
 unfold R_SpanAhead at hF
 refine LR0 ?_
 refine LR0 ?_
 cases hF
 exact Wz [] hfin

/- tabularyref.SelfClash -/
def R_SelfClash_J2 (v2:Unit):Option Bool:=
 some false
def R_SelfClash_B1 (l:List Span) (v v1 v3:Int):Option (Int⊕Bool):=
 if (decide (v3<(l.length:Int)))=true then
  asrt (0≤v3∧v3<(l.length:Int)) <|
  asrt ((decide (((lget l v3).Kind)=2))=true→0≤v3∧v3<(l.length:Int)) <|
  asrt (((decide (((lget l v3).Kind)=2))&&(decide (((lget l v3).Value)=v)))=true→0≤v3∧v3<(l.length:Int)) <|
  asrt (((decide (((lget l v3).Kind)=2))&&(decide (((lget l v3).Value)=v)))=true→0≤v1∧v1<(l.length:Int)) <|
  lt (R_SpanAhead (⟨(lget l v3).Kind,(lget l v3).Value,(lget l v3).From,(lget l v3).To⟩:Span) (⟨(lget l v1).Kind,(lget l v1).Value,(lget l v1).From,(lget l v1).To⟩:Span)) fun x=>
  if (((decide (((lget l v3).Kind)=2))&&(decide (((lget l v3).Value)=v)))&&x)=true then
   some (Sum.inr true)
  else
   some (Sum.inl (w64 (v3+1)))
 else
  inrO (R_SelfClash_J2 ())
def R_SelfClash_L1 (l:List Span) (v v1 v0:Int):Option Bool:=
 loopO (fun y=>R_SelfClash_B1 l v v1 y) v0
def R_SelfClash_J1 (l:List Span) (v v1:Int):Option Bool:=
 if (decide (v1<0))=true then
  some true
 else
  R_SelfClash_L1 l v v1 0
def R_SelfClash_B2 (l:List Span) (v:Int) (v4:Int×Int):Option ((Int×Int)⊕Bool):=
 if (decide (v4.2<(l.length:Int)))=true then
  asrt (0≤v4.2∧v4.2<(l.length:Int)) <|
  asrt ((decide (((lget l v4.2).Kind)=1))=true→0≤v4.2∧v4.2<(l.length:Int)) <|
  ob (
   if ((decide (((lget l v4.2).Kind)=1))&&(decide (((lget l v4.2).Value)=v)))=true then
    some v4.2
   else
    some v4.1) fun v5=>
  some (Sum.inl (v5,w64 (v4.2+1)))
 else
  inrO (R_SelfClash_J1 l v v4.1)
def R_SelfClash_L2 (l:List Span) (v:Int) (v0:Int×Int):Option Bool:=
 loopO (fun y=>R_SelfClash_B2 l v y) v0
def R_SelfClash (l:List Span) (v:Int):Option Bool:=
 if (decide (v=0))=true then
  some false
 else
  R_SelfClash_L2 l v ((-1),0)
theorem R_SelfClash_ok {l v r} (hF:R_SelfClash l v=some r):Pe Try.prog 26 S.none [.sl 4 (l.map e_Span),.i v] (.bool r) S.none:=by
 refine PT 66 [.tmp 4] [4] Try.func26 ?_
 intro Q g hfin
 unfold R_SelfClash at hF
 refine LR0 ?_
 refine LR0 ?_
 refine Nif hF ?_ ?_ <;> intro hb hF
 ·refine LR0 ?_
  cases hF
  exact Wz [] hfin
 ·refine LR0 ?_
  refine LR0 ?_
  refine NmS (fun v1=>R_SelfClash_J1 l v v1=some r) (fun Z v1=>Z.up [0,1,5] [] [] [] [(5,.i v1)] [] [] []) ?_ ?_
  ·refine Nblk ?_
   unfold R_SelfClash_L2 at hF
   refine Nits hF [] (fun Z v4=>Z.up [0,1,5,6] [] [] [] [(5,.i v4.1),(6,.i v4.2)] [] [] []) ?_
   intro n1 v4 y1 hF ih1 dn1
   unfold R_SelfClash_B2 at hF
   refine RJ (.l e_Span l .z) ?_
   refine Nif hF ?_ ?_ <;> intro hb hF
   ·refine Nblk ?_
    obtain ⟨h5,h6,hF⟩:=asrt2 hF
    refine RJ (.i e_Span h5 (.a (.av (e_Span (lget l v4.2))) (.g (fun (ga0:(decide (((lget l v4.2).Kind)=1))=true)=>(idx_ok e_Span (h6 ga0))) .z))) ?_
    obtain ⟨v5,hv,hF⟩:=oE hF
    refine NmT (fun Z=>Z.up [0,1,5,6] [] [] [] [(5,.i v5)] [] [] []) ?_ ?_
    ·have hF:=hv
     refine Nif hF ?_ ?_ <;> intro hb hF
     ·refine LR0 ?_
      cases hF
      exact met' []
     ·cases hF
      exact met' []
    ·refine LR0 ?_
     exact Nrnq [] hF ih1
   ·refine Nexit rfl ?_
    have hF:=inrO_done hF dn1
    exact metQ v4.1 [] hF
  ·intro v1 hF
   unfold R_SelfClash_J1 at hF
   refine LR0 ?_
   refine Nif hF ?_ ?_ <;> intro hb hF
   ·refine LR0 ?_
    cases hF
    exact Wz [] hfin
   ·refine LR0 ?_
    refine NmQ (fun v2=>R_SelfClash_J2 v2=some r) (fun v2=>(.w [])) ?_ ?_
    ·refine Nblk ?_
     unfold R_SelfClash_L1 at hF
     refine Nits hF [] (fun Z v3=>Z.up [0,1,5,7] [] [] [] [(7,.i v3)] [] [] []) ?_
     intro n1 v3 y1 hF ih1 dn1
     unfold R_SelfClash_B1 at hF
     refine RJ (.l e_Span l .z) ?_
     refine Nif hF ?_ ?_ <;> intro hb hF
     ·refine Nblk ?_
      obtain ⟨h0,h1,h2,h3,hF⟩:=asrt4 hF
      obtain ⟨x,h4,hF⟩:=lS hF
      refine DJ (.i e_Span h0 (.a (.av (e_Span (lget l v3))) (.g (fun (ga0:(decide (((lget l v3).Kind)=2))=true)=>(idx_ok e_Span (h1 ga0))) (.a (.av (e_Span (lget l v3))) (.g (fun (ga0:((decide (((lget l v3).Kind)=2))&&(decide (((lget l v3).Value)=v)))=true)=>(idx_ok e_Span (h2 ga0))) (.a (.av (e_Span (lget l v1))) (.g (fun (ga0:((decide (((lget l v3).Kind)=2))&&(decide (((lget l v3).Value)=v)))=true)=>(idx_ok e_Span (h3 ga0))) (.a (.callB (.bool x)) (.g (fun (ga0:((decide (((lget l v3).Kind)=2))&&(decide (((lget l v3).Value)=v)))=true)=>(R_SpanAhead_ok h4)) .z))))))))) ?_
      refine Nif hF ?_ ?_ <;> intro hb hF
      ·refine LR0 ?_
       have hF:=ret_done hF dn1
       cases hF
       exact Wz [] hfin
      ·refine LR0 ?_
       exact Nrnq [] hF ih1
     ·refine Nexit rfl ?_
      have hF:=inrO_done hF dn1
      exact metQ () [] hF
    ·intro v2 hF
     unfold R_SelfClash_J2 at hF
     refine LR0 ?_
     cases hF
     exact Wz [] hfin

/- tabularyref.Clashing -/
def R_Clashing_J1 (v:Int×Int×Bool):Option (Int×Int×Bool):=
 some (v.1,v.2.1,v.2.2)
def R_Clashing_J2 (v1:Int×Int×Bool×Int) (v2:Int×Int×Bool):Option ((Int×Int×Bool×Int)⊕(Int×Int×Bool)):=
 some (Sum.inl (v2.1,v2.2.1,v2.2.2,w64 (v1.2.2.2+1)))
def R_Clashing_B2 (l:List Span) (x:List Int) (v1 v3:Int×Int×Bool×Int):Option ((Int×Int×Bool×Int)⊕((Int×Int×Bool×Int)⊕(Int×Int×Bool))):=
 if (decide (v3.2.2.2<(x.length:Int)))=true then
  asrt (0≤v1.2.2.2∧v1.2.2.2<(x.length:Int)) <|
  asrt (0≤v1.2.2.2∧v1.2.2.2<(x.length:Int)) <|
  asrt (0≤(lget x v1.2.2.2)∧(lget x v1.2.2.2)<(l.length:Int)) <|
  asrt (0≤v3.2.2.2∧v3.2.2.2<(x.length:Int)) <|
  asrt (0≤v3.2.2.2∧v3.2.2.2<(x.length:Int)) <|
  asrt (0≤(lget x v3.2.2.2)∧(lget x v3.2.2.2)<(l.length:Int)) <|
  ob (if (!decide (((lget l (lget x v1.2.2.2)).Value)=((lget l (lget x v3.2.2.2)).Value)))=true then (R_FirstEnd l ((lget l (lget x v1.2.2.2)).Value)) else some default) fun x1=>
  ob (if (!decide (((lget l (lget x v1.2.2.2)).Value)=((lget l (lget x v3.2.2.2)).Value)))=true then (R_LastBegin l ((lget l (lget x v3.2.2.2)).Value)) else some default) fun x2=>
  ob (if ((!decide (((lget l (lget x v1.2.2.2)).Value)=((lget l (lget x v3.2.2.2)).Value)))&&(decide (x1<x2)))=true then (R_FirstEnd l ((lget l (lget x v3.2.2.2)).Value)) else some default) fun x3=>
  ob (if ((!decide (((lget l (lget x v1.2.2.2)).Value)=((lget l (lget x v3.2.2.2)).Value)))&&(decide (x1<x2)))=true then (R_LastBegin l ((lget l (lget x v1.2.2.2)).Value)) else some default) fun x4=>
  lt (((!decide (((lget l (lget x v1.2.2.2)).Value)=((lget l (lget x v3.2.2.2)).Value)))&&(decide (x1<x2)))&&(decide (x3<x4))) fun v4=>
  ob (
   if (decide (((lget l (lget x v1.2.2.2)).Value)=((lget l (lget x v3.2.2.2)).Value)))=true then
    ob (R_SelfClash l ((lget l (lget x v1.2.2.2)).Value)) fun x5=>
    some x5
   else
    some v4) fun v5=>
  ob (
   if (v5&&(((!v3.2.2.1)||(decide (((lget l (lget x v1.2.2.2)).Value)<v3.1)))||((decide (((lget l (lget x v1.2.2.2)).Value)=v3.1))&&(decide (((lget l (lget x v3.2.2.2)).Value)<v3.2.1)))))=true then
    some ((lget l (lget x v1.2.2.2)).Value,(lget l (lget x v3.2.2.2)).Value,true)
   else
    some (v3.1,v3.2.1,v3.2.2.1)) fun v6=>
  some (Sum.inl (v6.1,v6.2.1,v6.2.2,w64 (v3.2.2.2+1)))
 else
  inrO (R_Clashing_J2 v1 (v3.1,v3.2.1,v3.2.2.1))
def R_Clashing_L2 (l:List Span) (x:List Int) (v1 v0:Int×Int×Bool×Int):Option ((Int×Int×Bool×Int)⊕(Int×Int×Bool)):=
 loopO (fun y=>R_Clashing_B2 l x v1 y) v0
def R_Clashing_B1 (l:List Span) (x:List Int) (v1:Int×Int×Bool×Int):Option ((Int×Int×Bool×Int)⊕(Int×Int×Bool)):=
 if (decide (v1.2.2.2<(x.length:Int)))=true then
  R_Clashing_L2 l x v1 (v1.1,v1.2.1,v1.2.2.1,0)
 else
  inrO (R_Clashing_J1 (v1.1,v1.2.1,v1.2.2.1))
def R_Clashing_L1 (l:List Span) (x:List Int) (v0:Int×Int×Bool×Int):Option (Int×Int×Bool):=
 loopO (fun y=>R_Clashing_B1 l x y) v0
def R_Clashing (l:List Span):Option (Int×Int×Bool):=
 ob (R_Counting l) fun x=>
 R_Clashing_L1 l x (0,0,false,0)
theorem R_Clashing_ok {l r} (hF:R_Clashing l=some r):Pe Try.prog 12 S.none [.sl 4 (l.map e_Span)] (.tup [.i r.1,.i r.2.1,.bool r.2.2]) S.none:=by
 refine PT 96 [.tmp 2,.tmp 3,.tmp 4] [3,3,4] Try.func12 ?_
 intro Q g hfin
 unfold R_Clashing at hF
 refine LR0 ?_
 refine LR0 ?_
 obtain ⟨x,h0,hF⟩:=oE hF
 have p1:=(Pe.ren (R_Counting_ok h0) ⟨[],[(69,15)],[],[]⟩)
 refine RJ (.e [] [] p1 .z) ?_
 refine LR0 ?_
 refine NmQ (fun v=>R_Clashing_J1 v=some r) (fun v=>⟨[(5,.i v.1),(6,.i v.2.1),(7,.bool v.2.2)],[],[],[],[]⟩) ?_ ?_
 ·refine Nblk ?_
  unfold R_Clashing_L1 at hF
  refine Nits hF [] (fun Z v1=>Z.up [0,5,6,7,8,9] [] [15] [] [(5,.i v1.1),(6,.i v1.2.1),(7,.bool v1.2.2.1),(9,.i v1.2.2.2)] [] [] []) ?_
  intro n1 v1 y1 hF ih1 dn1
  unfold R_Clashing_B1 at hF
  refine RJ (.l e_i64 x .z) ?_
  refine Nif hF ?_ ?_ <;> intro hb hF
  ·refine Nblk ?_
   refine LR0 ?_
   refine NmS (fun v2=>R_Clashing_J2 v1 v2=some y1) (fun Z v2=>Z.up [0,5,6,7,8,9] [] [15] [] [(5,.i v2.1),(6,.i v2.2.1),(7,.bool v2.2.2)] [] [] []) ?_ ?_
   ·refine Nblk ?_
    unfold R_Clashing_L2 at hF
    refine Nits hF [] (fun Z v3=>Z.up [0,5,6,7,8,9,10] [] [15] [] [(5,.i v3.1),(6,.i v3.2.1),(7,.bool v3.2.2.1),(10,.i v3.2.2.2)] [] [] []) ?_
    intro n2 v3 y2 hF ih2 dn2
    unfold R_Clashing_B2 at hF
    refine RJ (.l e_i64 x .z) ?_
    refine Nif hF ?_ ?_ <;> intro hb hF
    ·refine Nblk ?_
     obtain ⟨h2,h3,h4,h5,hF⟩:=asrt4 hF
     obtain ⟨h6,h7,hF⟩:=asrt2 hF
     refine DJ (.x e_i64 h2 (.r e_i64 h3 (.i e_Span h4 (.x e_i64 h5 (.r e_i64 h6 (.i e_Span h7 .z)))))) ?_
     obtain ⟨x1,h8,hF⟩:=oE hF
     obtain ⟨x2,h9,hF⟩:=oE hF
     obtain ⟨x3,h10,hF⟩:=oE hF
     obtain ⟨x4,h11,hF⟩:=oE hF
     refine NRL (((!decide (((lget l (lget x v1.2.2.2)).Value)=((lget l (lget x v3.2.2.2)).Value)))&&(decide (x1<x2)))&&(decide (x3<x4))) (fun v4:Bool=>([(13,.bool v4)],[],[],[])) [.callB (.i x1),.callB (.i x2),.callB (.i x3),.callB (.i x4)] [0,5,6,7,8,9,10,11,12,13] [] [15] [] (hc (fun (ga0:(!decide (((lget l (lget x v1.2.2.2)).Value)=((lget l (lget x v3.2.2.2)).Value)))=true)=>(R_FirstEnd_ok (ite_t h8 ga0))) (hc (fun (ga0:(!decide (((lget l (lget x v1.2.2.2)).Value)=((lget l (lget x v3.2.2.2)).Value)))=true)=>(R_LastBegin_ok (ite_t h9 ga0))) (hc (fun (ga0:((!decide (((lget l (lget x v1.2.2.2)).Value)=((lget l (lget x v3.2.2.2)).Value)))&&(decide (x1<x2)))=true)=>(R_FirstEnd_ok (ite_t h10 ga0))) (hc (fun (ga0:((!decide (((lget l (lget x v1.2.2.2)).Value)=((lget l (lget x v3.2.2.2)).Value)))&&(decide (x1<x2)))=true)=>(R_LastBegin_ok (ite_t h11 ga0))) .nil)))) (fun v4 hv=>?_)
     have hF:=lt_elim hF hv
     refine LR0 ?_
     obtain ⟨v5,hv,hF⟩:=oE hF
     refine NmT (fun Z=>Z.up [0,5,6,7,8,9,10,11,12,13] [] [15] [] [(13,.bool v5)] [] [] []) ?_ ?_
     ·have hF:=hv
      refine Nif hF ?_ ?_ <;> intro hb hF
      ·obtain ⟨x5,h12,hF⟩:=oE hF
       refine RJ (.b (R_SelfClash_ok h12) .z) ?_
       cases hF
       exact met' []
      ·cases hF
       exact met' []
     ·refine LR0 ?_
      obtain ⟨v6,hv,hF⟩:=oE hF
      refine NmT (fun Z=>Z.up [0,5,6,7,8,9,10] [] [15] [] [(5,.i v6.1),(6,.i v6.2.1),(7,.bool v6.2.2)] [] [] []) ?_ ?_
      ·have hF:=hv
       refine Nif hF ?_ ?_ <;> intro hb hF
       ·refine LR0 ?_
        cases hF
        exact met' []
       ·cases hF
        exact met' []
      ·refine LR0 ?_
       exact Nrnq [] hF ih2
    ·refine Nexit rfl ?_
     have hF:=inrO_done hF dn2
     exact metQ (v3.1,v3.2.1,v3.2.2.1) [] hF
   ·intro v2 hF
    unfold R_Clashing_J2 at hF
    refine LR0 ?_
    exact Nrnq [] hF ih1
  ·refine Nexit rfl ?_
   have hF:=inrO_done hF dn1
   exact metQ (v1.1,v1.2.1,v1.2.2.1) [] hF
 ·intro v hF
  unfold R_Clashing_J1 at hF
  refine LR0 ?_
  cases hF
  exact Wz [] hfin

/- tabularylaw.HistoryClashes -/
/- tabularyref.Counting -/
/- tabularyref.Has -/
def R_Has_J1 (v:Unit):Option Bool:=
 some false
def R_Has_B1 (l:List Int) (num v1:Int):Option (Int⊕Bool):=
 if (decide (v1<(l.length:Int)))=true then
  asrt (0≤v1∧v1<(l.length:Int)) <|
  if (decide ((lget l v1)=num))=true then
   some (Sum.inr true)
  else
   some (Sum.inl (w64 (v1+1)))
 else
  inrO (R_Has_J1 ())
def R_Has_L1 (l:List Int) (num v0:Int):Option Bool:=
 loopO (fun y=>R_Has_B1 l num y) v0
def R_Has (l:List Int) (num:Int):Option Bool:=
 R_Has_L1 l num 0
theorem R_Has_ok {l num r} (hF:R_Has l num=some r):Pe Try.prog 27 S.none [.sl 1 (l.map e_i64),.i num] (.bool r) S.none:=by
 refine PT 18 [.tmp 4] [4] Try.func27 ?_
 intro Q g hfin
 unfold R_Has at hF
 refine LR0 ?_
 refine LR0 ?_
 refine NmQ (fun v=>R_Has_J1 v=some r) (fun v=>(.w [])) ?_ ?_
 ·refine Nblk ?_
  unfold R_Has_L1 at hF
  refine Nits hF [] (fun Z v1=>Z.up [0,1,5] [] [] [] [(5,.i v1)] [] [] []) ?_
  intro n1 v1 y1 hF ih1 dn1
  unfold R_Has_B1 at hF
  refine RJ (.l e_i64 l .z) ?_
  refine Nif hF ?_ ?_ <;> intro hb hF
  ·refine Nblk ?_
   obtain ⟨h0,hF⟩:=aE hF
   refine RJ (.i e_i64 h0 .z) ?_
   refine Nif hF ?_ ?_ <;> intro hb hF
   ·refine LR0 ?_
    have hF:=ret_done hF dn1
    cases hF
    exact Wz [] hfin
   ·refine LR0 ?_
    exact Nrnq [] hF ih1
  ·refine Nexit rfl ?_
   have hF:=inrO_done hF dn1
   exact metQ () [] hF
 ·intro v hF
  unfold R_Has_J1 at hF
  refine LR0 ?_
  cases hF
  exact Wz [] hfin

/- tabularyref.AnyOrder -/
/- tabularylaw.HistoryDecides -/
/- history.Order$1$1 -/
def history_Order_1_1 (a0 box:Nat) (ar:List bunch):Option Bool:=
 asrt (a0<ar.length∧box<ar.length) <|
 asrt ((!(decide (a0=box)))=true→0≤((a0:Nat):Int)∧((a0:Nat):Int)<(ar.length:Int)) <|
 asrt ((!(decide (a0=box)))=true→0≤((box:Nat):Int)∧((box:Nat):Int)<(ar.length:Int)) <|
 lt ((!(decide (a0=box)))&&(decide (((lget ar ((a0:Nat):Int)).first)<((lget ar ((box:Nat):Int)).last)))) fun v=>
 some v
theorem history_Order_1_1_ok {a0 box ar r} (hF:history_Order_1_1 a0 box ar=some r):Pe Try.prog 32 ⟨[],[(100000,[.aptr 100000 box 0])],[],[],[(100000,⟨51,5,[],ar.map o_bunch⟩)]⟩ [.aptr 100000 a0 0,.ptr 100000 0] (.bool r) ⟨[],[(100000,[.aptr 100000 box 0])],[],[],[(100000,⟨51,5,[],ar.map o_bunch⟩)]⟩:=by
 refine PT 18 [.tmp 3] [4] Try.func32 ?_
 intro Q g hfin
 unfold history_Order_1_1 at hF
 refine NAR [] [0,1] [100000] [] [] [100000] ⟨[(0,.aptr 100000 a0 0),(1,.ptr 100000 0)],[(100000,[.aptr 100000 box 0])],[],[],[(100000,⟨51,5,[],ar.map o_bunch⟩)]⟩ .nil ?_
 obtain ⟨h0,h1,hF⟩:=asrt2 hF
 obtain ⟨h2,hF⟩:=aE hF
 refine NADL ((!(decide (a0=box)))&&(decide (((lget ar ((a0:Nat):Int)).first)<((lget ar ((box:Nat):Int)).last)))) (fun v:Bool=>(⟨[(3,.bool v)],[(100000,[.aptr 100000 box 0])],[],[],[(100000,⟨51,5,[],ar.map o_bunch⟩)]⟩:S)) [.bo (decide (a0=box)),.av (o_bunch (lget ar ((a0:Nat):Int))),.av (o_bunch (lget ar ((box:Nat):Int)))] [3] [100000] [] [] [100000] (hc (nhL (f:=o_bunch) (fun _=>rfl) ar) (hc (alen_ok o_bunch h0.1) (hc (alen_ok o_bunch h0.2) (hc (decide_eq_true_iff (p:=a0=box)) (hc (fun (ga0:(!(decide (a0=box)))=true)=>(ldr_ok o_bunch (h1 ga0))) (hc (fun (ga0:(!(decide (a0=box)))=true)=>(ldr_ok o_bunch (h2 ga0))) .nil)))))) (fun v hv=>?_)
 have hF:=lt_elim hF hv
 cases hF
 exact Wk_ret (hfin _ ⟨[],[100000],[],[],[100000],[],by kernel_rfl⟩)

/- slices.IndexFunc[[]*history.bunch,*history.bunch] -/
def slices_IndexFunc_history_bunch_history_bunch_v1_J1 (v:Unit):Option Int:=
 some (-1)
def slices_IndexFunc_history_bunch_history_bunch_v1_B1 (box:Nat) (row:List Nat) (ar:List bunch) (v1:Int):Option (Int⊕Int):=
 if (decide (v1<(row.length:Int)))=true then
  asrt (0≤v1∧v1<(row.length:Int)) <|
  asrt (0≤v1∧v1<(row.length:Int)) <|
  ob (history_Order_1_1 (lget row v1) box ar) fun x=>
  if x=true then
   some (Sum.inr v1)
  else
   some (Sum.inl (w64 (v1+1)))
 else
  inrO (slices_IndexFunc_history_bunch_history_bunch_v1_J1 ())
def slices_IndexFunc_history_bunch_history_bunch_v1_L1 (box:Nat) (row:List Nat) (ar:List bunch) (v0:Int):Option Int:=
 loopO (fun y=>slices_IndexFunc_history_bunch_history_bunch_v1_B1 box row ar y) v0
def slices_IndexFunc_history_bunch_history_bunch_v1 (box:Nat) (row:List Nat) (ar:List bunch):Option Int:=
 slices_IndexFunc_history_bunch_history_bunch_v1_L1 box row ar 0
theorem slices_IndexFunc_history_bunch_history_bunch_v1_ok (rk rc:Nat) (rn:Bool) {box row ar r} (hF:slices_IndexFunc_history_bunch_history_bunch_v1 box row ar=some r):Pe Try.prog 29 ⟨[],[(100000,[.aptr 100000 box 0])],[(100000,⟨48,1,0,0,rc,rn,1,[100000],(row.map ea)⟩)],[],[(100000,⟨51,5,[],ar.map o_bunch⟩)]⟩ [.row 100000 0,.fn 32 [.ptr 100000 0]] (.i r) ⟨[],[(100000,[.aptr 100000 box 0])],[(100000,⟨48,1,0,0,rc,rn,1,[100000],(row.map ea)⟩)],[],[(100000,⟨51,5,[],ar.map o_bunch⟩)]⟩:=by
 refine PT 19 [.tmp 4] [3] Try.func29 ?_
 intro Q g hfin
 unfold slices_IndexFunc_history_bunch_history_bunch_v1 at hF
 refine NAR [] [0,1] [100000] [100000] [] [100000] ⟨[(0,.row 100000 0),(1,.fn 32 [.ptr 100000 0])],[(100000,[.aptr 100000 box 0])],[(100000,⟨48,1,0,0,rc,rn,1,[100000],(row.map ea)⟩)],[],[(100000,⟨51,5,[],ar.map o_bunch⟩)]⟩ .nil ?_
 refine NAR [.nat (row.length:Int)] [0,1,7,8] [100000] [100000] [] [100000] ⟨[(0,.row 100000 0),(1,.fn 32 [.ptr 100000 0]),(7,.i (row.length:Int)),(8,.i 0)],[(100000,[.aptr 100000 box 0])],[(100000,⟨48,1,0,0,rc,rn,1,[100000],(row.map ea)⟩)],[],[(100000,⟨51,5,[],ar.map o_bunch⟩)]⟩ (hc (len_ok ea row) .nil) ?_
 refine NmQ (fun v=>slices_IndexFunc_history_bunch_history_bunch_v1_J1 v=some r) (fun v=>⟨[],[(100000,[.aptr 100000 box 0])],[(100000,⟨48,1,0,0,rc,rn,1,[100000],(row.map ea)⟩)],[],[(100000,⟨51,5,[],ar.map o_bunch⟩)]⟩) ?_ ?_
 ·refine Nblk ?_
  unfold slices_IndexFunc_history_bunch_history_bunch_v1_L1 at hF
  refine Nitr hF [] (fun v1=>⟨[(0,.row 100000 0),(1,.fn 32 [.ptr 100000 0]),(7,.i (row.length:Int)),(8,.i v1)],[(100000,[.aptr 100000 box 0])],[(100000,⟨48,1,0,0,rc,rn,1,[100000],(row.map ea)⟩)],[],[(100000,⟨51,5,[],ar.map o_bunch⟩)]⟩) ?_
  intro n1 v1 y1 hF ih1 dn1
  unfold slices_IndexFunc_history_bunch_history_bunch_v1_B1 at hF
  refine NAR [] [0,1,7,8,9] [100000] [100000] [] [100000] ⟨[(0,.row 100000 0),(1,.fn 32 [.ptr 100000 0]),(7,.i (row.length:Int)),(8,.i v1),(9,.bool (decide (v1<(row.length:Int))))],[(100000,[.aptr 100000 box 0])],[(100000,⟨48,1,0,0,rc,rn,1,[100000],(row.map ea)⟩)],[],[(100000,⟨51,5,[],ar.map o_bunch⟩)]⟩ .nil ?_
  refine Nif hF ?_ ?_ <;> intro hb hF
  ·refine Nblk ?_
   refine NAR [] [0,1,5,7,8] [100000] [100000] [] [100000] ⟨[(0,.row 100000 0),(1,.fn 32 [.ptr 100000 0]),(5,.i v1),(7,.i (row.length:Int)),(8,.i v1)],[(100000,[.aptr 100000 box 0])],[(100000,⟨48,1,0,0,rc,rn,1,[100000],(row.map ea)⟩)],[],[(100000,⟨51,5,[],ar.map o_bunch⟩)]⟩ .nil ?_
   obtain ⟨h0,h1,hF⟩:=asrt2 hF
   obtain ⟨x,h2,hF⟩:=oE hF
   refine NAR [.av (ea (lget row v1)),.callR [100000] [] [] [100000] (.bool x)] [0,1,5,7,8,16] [100000] [100000] [] [100000] ⟨[(0,.row 100000 0),(1,.fn 32 [.ptr 100000 0]),(5,.i v1),(7,.i (row.length:Int)),(8,.i v1),(16,.bool x)],[(100000,[.aptr 100000 box 0])],[(100000,⟨48,1,0,0,rc,rn,1,[100000],(row.map ea)⟩)],[],[(100000,⟨51,5,[],ar.map o_bunch⟩)]⟩ (hc (ixr_ok ea h0) (hc (ldr_ok ea h1) (hc (Pe.ren (history_Order_1_1_ok h2) ⟨[],[],[],[]⟩) .nil))) ?_
   refine Nif hF ?_ ?_ <;> intro hb hF
   ·refine NAR [] [4] [100000] [100000] [] [100000] ⟨[(4,.i v1)],[(100000,[.aptr 100000 box 0])],[(100000,⟨48,1,0,0,rc,rn,1,[100000],(row.map ea)⟩)],[],[(100000,⟨51,5,[],ar.map o_bunch⟩)]⟩ .nil ?_
    have hF:=ret_done hF dn1
    cases hF
    exact Wk_ret (hfin _ ⟨[100000],[100000],[100000],[],[100000],[],by kernel_rfl⟩)
   ·refine NAR [] [0,1,7,8] [100000] [100000] [] [100000] ⟨[(0,.row 100000 0),(1,.fn 32 [.ptr 100000 0]),(7,.i (row.length:Int)),(8,.i (w64 (v1+1)))],[(100000,[.aptr 100000 box 0])],[(100000,⟨48,1,0,0,rc,rn,1,[100000],(row.map ea)⟩)],[],[(100000,⟨51,5,[],ar.map o_bunch⟩)]⟩ .nil ?_
    exact Nrnq [] hF ih1
  ·refine Nexit rfl ?_
   have hF:=inrO_done hF dn1
   exact metQ () [] hF
 ·intro v hF
  unfold slices_IndexFunc_history_bunch_history_bunch_v1_J1 at hF
  refine NAR [] [4] [100000] [100000] [] [100000] ⟨[(4,.i (-1))],[(100000,[.aptr 100000 box 0])],[(100000,⟨48,1,0,0,rc,rn,1,[100000],(row.map ea)⟩)],[],[(100000,⟨51,5,[],ar.map o_bunch⟩)]⟩ .nil ?_
  cases hF
  exact Wk_ret (hfin _ ⟨[100000],[100000],[100000],[],[100000],[],by kernel_rfl⟩)

/- slices.ContainsFunc[[]*history.bunch,*history.bunch] -/
def slices_ContainsFunc_history_bunch_history_bunch (box:Nat) (row:List Nat) (ar:List bunch):Option Bool:=
 ob (slices_IndexFunc_history_bunch_history_bunch_v1 box row ar) fun x=>
 some (decide (0≤x))
theorem slices_ContainsFunc_history_bunch_history_bunch_ok (rk rc:Nat) (rn:Bool) {box row ar r} (hF:slices_ContainsFunc_history_bunch_history_bunch box row ar=some r):Pe Try.prog 31 ⟨[],[(100000,[.aptr 100000 box 0])],[(100000,⟨48,1,0,0,rc,rn,1,[100000],(row.map ea)⟩)],[],[(100000,⟨51,5,[],ar.map o_bunch⟩)]⟩ [.row 100000 0,.fn 32 [.ptr 100000 0]] (.bool r) ⟨[],[(100000,[.aptr 100000 box 0])],[(100000,⟨48,1,0,0,rc,rn,1,[100000],(row.map ea)⟩)],[],[(100000,⟨51,5,[],ar.map o_bunch⟩)]⟩:=by
 refine PT 9 [.tmp 4] [4] Try.func31 ?_
 intro Q g hfin
 unfold slices_ContainsFunc_history_bunch_history_bunch at hF
 refine NAR [] [0,1] [100000] [100000] [] [100000] ⟨[(0,.row 100000 0),(1,.fn 32 [.ptr 100000 0])],[(100000,[.aptr 100000 box 0])],[(100000,⟨48,1,0,0,rc,rn,1,[100000],(row.map ea)⟩)],[],[(100000,⟨51,5,[],ar.map o_bunch⟩)]⟩ .nil ?_
 obtain ⟨x,h0,hF⟩:=oE hF
 refine NAR [.callR [100000] [100000] [] [100000] (.i x)] [4] [100000] [100000] [] [100000] ⟨[(4,.bool (decide (0≤x)))],[(100000,[.aptr 100000 box 0])],[(100000,⟨48,1,0,0,rc,rn,1,[100000],(row.map ea)⟩)],[],[(100000,⟨51,5,[],ar.map o_bunch⟩)]⟩ (hc (Pe.ren (slices_IndexFunc_history_bunch_history_bunch_v1_ok 0 rc rn h0) ⟨[],[],[],[]⟩) .nil) ?_
 cases hF
 exact Wk_ret (hfin _ ⟨[100000],[100000],[100000],[],[100000],[],by kernel_rfl⟩)

/- history.Order$1 -/
def history_Order_1 (b:Nat) (row:List Nat) (ar:List bunch):Option Bool:=
 ob (slices_ContainsFunc_history_bunch_history_bunch b row ar) fun x=>
 some (!x)
theorem history_Order_1_ok (rk rc:Nat) (rn:Bool) {b row ar r} (hF:history_Order_1 b row ar=some r):Pe Try.prog 30 ⟨[],[(100000,[.row 100000 0])],[(100000,⟨48,1,0,0,rc,rn,1,[100000],(row.map ea)⟩)],[],[(100000,⟨51,5,[],ar.map o_bunch⟩)]⟩ [.aptr 100000 b 0,.ptr 100000 0] (.bool r) ⟨[],[(100000,[.row 100000 0])],[(100000,⟨48,1,0,0,rc,rn,1,[100000],(row.map ea)⟩)],[],[(100000,⟨51,5,[],ar.map o_bunch⟩)]⟩:=by
 refine PT 8 [.tmp 3] [4] Try.func30 ?_
 intro Q g hfin
 unfold history_Order_1 at hF
 refine NAR [] [1,2] [2,100000] [100000] [] [100000] ⟨[(1,.ptr 100000 0),(2,.ptr 2 0)],[(2,[.aptr 100000 b 0]),(100000,[.row 100000 0])],[(100000,⟨48,1,0,0,rc,rn,1,[100000],(row.map ea)⟩)],[],[(100000,⟨51,5,[],ar.map o_bunch⟩)]⟩ .nil ?_
 obtain ⟨x,h0,hF⟩:=oE hF
 refine NAR [.callR [2] [100000] [] [100000] (.bool x)] [3] [100000] [100000] [] [100000] ⟨[(3,.bool (!x))],[(100000,[.row 100000 0])],[(100000,⟨48,1,0,0,rc,rn,1,[100000],(row.map ea)⟩)],[],[(100000,⟨51,5,[],ar.map o_bunch⟩)]⟩ (hc (Pe.ren (slices_ContainsFunc_history_bunch_history_bunch_ok 0 rc rn h0) ⟨[(100000,2)],[],[],[]⟩) .nil) ?_
 cases hF
 exact Wk_ret (hfin _ ⟨[100000],[100000],[100000],[],[100000],[],by kernel_rfl⟩)

/- slices.IndexFunc[[]*history.bunch,*history.bunch] -/
def slices_IndexFunc_history_bunch_history_bunch_J1 (v:Unit):Option Int:=
 some (-1)
def slices_IndexFunc_history_bunch_history_bunch_B1 (row:List Nat) (ar:List bunch) (v1:Int):Option (Int⊕Int):=
 if (decide (v1<(row.length:Int)))=true then
  asrt (0≤v1∧v1<(row.length:Int)) <|
  asrt (0≤v1∧v1<(row.length:Int)) <|
  ob (history_Order_1 (lget row v1) row ar) fun x=>
  if x=true then
   some (Sum.inr v1)
  else
   some (Sum.inl (w64 (v1+1)))
 else
  inrO (slices_IndexFunc_history_bunch_history_bunch_J1 ())
def slices_IndexFunc_history_bunch_history_bunch_L1 (row:List Nat) (ar:List bunch) (v0:Int):Option Int:=
 loopO (fun y=>slices_IndexFunc_history_bunch_history_bunch_B1 row ar y) v0
def slices_IndexFunc_history_bunch_history_bunch (row:List Nat) (ar:List bunch):Option Int:=
 slices_IndexFunc_history_bunch_history_bunch_L1 row ar 0
theorem slices_IndexFunc_history_bunch_history_bunch_ok (rk rc:Nat) (rn:Bool) {row ar r} (hF:slices_IndexFunc_history_bunch_history_bunch row ar=some r):Pe Try.prog 29 ⟨[],[(100000,[.row 100000 0])],[(100000,⟨48,1,0,0,rc,rn,1,[100000],(row.map ea)⟩)],[],[(100000,⟨51,5,[],ar.map o_bunch⟩)]⟩ [.row 100000 0,.fn 30 [.ptr 100000 0]] (.i r) ⟨[],[(100000,[.row 100000 0])],[(100000,⟨48,1,0,0,rc,rn,1,[100000],(row.map ea)⟩)],[],[(100000,⟨51,5,[],ar.map o_bunch⟩)]⟩:=by
 refine PT 19 [.tmp 4] [3] Try.func29 ?_
 intro Q g hfin
 unfold slices_IndexFunc_history_bunch_history_bunch at hF
 refine NAR [] [0,1] [100000] [100000] [] [100000] ⟨[(0,.row 100000 0),(1,.fn 30 [.ptr 100000 0])],[(100000,[.row 100000 0])],[(100000,⟨48,1,0,0,rc,rn,1,[100000],(row.map ea)⟩)],[],[(100000,⟨51,5,[],ar.map o_bunch⟩)]⟩ .nil ?_
 refine NAR [.nat (row.length:Int)] [0,1,7,8] [100000] [100000] [] [100000] ⟨[(0,.row 100000 0),(1,.fn 30 [.ptr 100000 0]),(7,.i (row.length:Int)),(8,.i 0)],[(100000,[.row 100000 0])],[(100000,⟨48,1,0,0,rc,rn,1,[100000],(row.map ea)⟩)],[],[(100000,⟨51,5,[],ar.map o_bunch⟩)]⟩ (hc (len_ok ea row) .nil) ?_
 refine NmQ (fun v=>slices_IndexFunc_history_bunch_history_bunch_J1 v=some r) (fun v=>⟨[],[(100000,[.row 100000 0])],[(100000,⟨48,1,0,0,rc,rn,1,[100000],(row.map ea)⟩)],[],[(100000,⟨51,5,[],ar.map o_bunch⟩)]⟩) ?_ ?_
 ·refine Nblk ?_
  unfold slices_IndexFunc_history_bunch_history_bunch_L1 at hF
  refine Nitr hF [] (fun v1=>⟨[(0,.row 100000 0),(1,.fn 30 [.ptr 100000 0]),(7,.i (row.length:Int)),(8,.i v1)],[(100000,[.row 100000 0])],[(100000,⟨48,1,0,0,rc,rn,1,[100000],(row.map ea)⟩)],[],[(100000,⟨51,5,[],ar.map o_bunch⟩)]⟩) ?_
  intro n1 v1 y1 hF ih1 dn1
  unfold slices_IndexFunc_history_bunch_history_bunch_B1 at hF
  refine NAR [] [0,1,7,8,9] [100000] [100000] [] [100000] ⟨[(0,.row 100000 0),(1,.fn 30 [.ptr 100000 0]),(7,.i (row.length:Int)),(8,.i v1),(9,.bool (decide (v1<(row.length:Int))))],[(100000,[.row 100000 0])],[(100000,⟨48,1,0,0,rc,rn,1,[100000],(row.map ea)⟩)],[],[(100000,⟨51,5,[],ar.map o_bunch⟩)]⟩ .nil ?_
  refine Nif hF ?_ ?_ <;> intro hb hF
  ·refine Nblk ?_
   refine NAR [] [0,1,5,7,8] [100000] [100000] [] [100000] ⟨[(0,.row 100000 0),(1,.fn 30 [.ptr 100000 0]),(5,.i v1),(7,.i (row.length:Int)),(8,.i v1)],[(100000,[.row 100000 0])],[(100000,⟨48,1,0,0,rc,rn,1,[100000],(row.map ea)⟩)],[],[(100000,⟨51,5,[],ar.map o_bunch⟩)]⟩ .nil ?_
   obtain ⟨h0,h1,hF⟩:=asrt2 hF
   obtain ⟨x,h2,hF⟩:=oE hF
   refine NAR [.av (ea (lget row v1)),.callR [100000] [100000] [] [100000] (.bool x)] [0,1,5,7,8,16] [100000] [100000] [] [100000] ⟨[(0,.row 100000 0),(1,.fn 30 [.ptr 100000 0]),(5,.i v1),(7,.i (row.length:Int)),(8,.i v1),(16,.bool x)],[(100000,[.row 100000 0])],[(100000,⟨48,1,0,0,rc,rn,1,[100000],(row.map ea)⟩)],[],[(100000,⟨51,5,[],ar.map o_bunch⟩)]⟩ (hc (ixr_ok ea h0) (hc (ldr_ok ea h1) (hc (Pe.ren (history_Order_1_ok 0 rc rn h2) ⟨[],[],[],[]⟩) .nil))) ?_
   refine Nif hF ?_ ?_ <;> intro hb hF
   ·refine NAR [] [4] [100000] [100000] [] [100000] ⟨[(4,.i v1)],[(100000,[.row 100000 0])],[(100000,⟨48,1,0,0,rc,rn,1,[100000],(row.map ea)⟩)],[],[(100000,⟨51,5,[],ar.map o_bunch⟩)]⟩ .nil ?_
    have hF:=ret_done hF dn1
    cases hF
    exact Wk_ret (hfin _ ⟨[100000],[100000],[100000],[],[100000],[],by kernel_rfl⟩)
   ·refine NAR [] [0,1,7,8] [100000] [100000] [] [100000] ⟨[(0,.row 100000 0),(1,.fn 30 [.ptr 100000 0]),(7,.i (row.length:Int)),(8,.i (w64 (v1+1)))],[(100000,[.row 100000 0])],[(100000,⟨48,1,0,0,rc,rn,1,[100000],(row.map ea)⟩)],[],[(100000,⟨51,5,[],ar.map o_bunch⟩)]⟩ .nil ?_
    exact Nrnq [] hF ih1
  ·refine Nexit rfl ?_
   have hF:=inrO_done hF dn1
   exact metQ () [] hF
 ·intro v hF
  unfold slices_IndexFunc_history_bunch_history_bunch_J1 at hF
  refine NAR [] [4] [100000] [100000] [] [100000] ⟨[(4,.i (-1))],[(100000,[.row 100000 0])],[(100000,⟨48,1,0,0,rc,rn,1,[100000],(row.map ea)⟩)],[],[(100000,⟨51,5,[],ar.map o_bunch⟩)]⟩ .nil ?_
  cases hF
  exact Wk_ret (hfin _ ⟨[100000],[100000],[100000],[],[100000],[],by kernel_rfl⟩)

/- slices.Delete[[]*history.bunch,*history.bunch] -/
def slices_Delete_history_bunch_history_bunch (i j:Int) (row:List Nat) (ar:List bunch):Option (List Nat):=
 asrt ((0:Int)≤i∧i≤j∧j≤(row.length:Int)∧(row.length:Int)≤(row.length:Int)) <|
 if (decide (i=j))=true then
  some row
 else
  asrt (0≤i∧i≤(row.length:Int)) <|
  asrt (0≤j∧j≤(row.length:Int)) <|
  asrt (((row.take i.toNat++((row.drop j.toNat).take (row.length - j.toNat))).length:Int)*8≤140737488351232) <|
  asrt (i.toNat≤row.length) <|
  asrt (j.toNat+(row.length - j.toNat)≤row.length) <|
  asrt (0≤((row.take i.toNat++((row.drop j.toNat).take (row.length - j.toNat))).length:Int)∧((row.take i.toNat++((row.drop j.toNat).take (row.length - j.toNat))).length:Int)≤(row.length:Int)∧((row.length:Int).toNat≤(row.take i.toNat++((row.drop j.toNat).take (row.length - j.toNat))).length∨(row.length:Int).toNat≤((row.map ea).length))) <|
  asrt ((((row.take i.toNat++((row.drop j.toNat).take (row.length - j.toNat))).length:Int).toNat)=(row.take i.toNat++((row.drop j.toNat).take (row.length - j.toNat))).length) <|
  some (row.take i.toNat++((row.drop j.toNat).take (row.length - j.toNat)))
theorem slices_Delete_history_bunch_history_bunch_ok (rk rc:Nat) (rn:Bool) {i j row ar r} (hF:slices_Delete_history_bunch_history_bunch i j row ar=some r):Pe Try.prog 33 ⟨[],[],[(100000,⟨48,1,0,0,rc,rn,1,[100000],(row.map ea)⟩)],[],[(100000,⟨51,5,[],ar.map o_bunch⟩)]⟩ [.row 100000 0,.i i,.i j] (.row 100000 1) ⟨[],[],[(100000,⟨48,1,1,0,0,false,1,[100000],(r.map ea)⟩)],[],[(100000,⟨51,5,[],ar.map o_bunch⟩)]⟩:=by
 refine PT 33 [.tmp 6] [46] Try.func33 ?_
 intro Q g hfin
 unfold slices_Delete_history_bunch_history_bunch at hF
 refine NAR [] [0,1,2] [] [100000] [] [100000] ⟨[(0,.row 100000 0),(1,.i i),(2,.i j)],[],[(100000,⟨48,1,0,0,rc,rn,1,[100000],(row.map ea)⟩)],[],[(100000,⟨51,5,[],ar.map o_bunch⟩)]⟩ .nil ?_
 obtain ⟨h0,hF⟩:=aE hF
 refine NAR [.nat (row.length:Int)] [0,1,2] [] [100000] [] [100000] ⟨[(0,.row 100000 0),(1,.i i),(2,.i j)],[],[(100000,⟨48,1,0,0,rc,rn,1,[100000],(row.map ea)⟩)],[],[(100000,⟨51,5,[],ar.map o_bunch⟩)]⟩ (hc (len_ok ea row) (hc (s3_ok ea h0) .nil)) ?_
 refine NAR [] [0,1,2,16] [] [100000] [] [100000] ⟨[(0,.row 100000 0),(1,.i i),(2,.i j),(16,.bool (decide (i=j)))],[],[(100000,⟨48,1,0,0,rc,rn,1,[100000],(row.map ea)⟩)],[],[(100000,⟨51,5,[],ar.map o_bunch⟩)]⟩ .nil ?_
 refine Nif hF ?_ ?_ <;> intro hb hF
 ·refine NAR [] [6] [] [100000] [] [100000] ⟨[(6,.row 100000 0)],[],[(100000,⟨48,1,0,0,rc,rn,1,[100000],(row.map ea)⟩)],[],[(100000,⟨51,5,[],ar.map o_bunch⟩)]⟩ .nil ?_
  cases hF
  exact Wk_ret (hfin _ ⟨[100000],[],[100000],[],[100000],[(100000,⟨1,false,false,false⟩)],by kernel_rfl⟩)
 ·refine NAR [.nat (row.length:Int)] [0,1,2,7] [] [100000] [] [100000] ⟨[(0,.row 100000 0),(1,.i i),(2,.i j),(7,.i (row.length:Int))],[],[(100000,⟨48,1,0,0,rc,rn,1,[100000],(row.map ea)⟩)],[],[(100000,⟨51,5,[],ar.map o_bunch⟩)]⟩ (hc (len_ok ea row) .nil) ?_
  obtain ⟨h1,h2,h3,h4,hF⟩:=asrt4 hF
  obtain ⟨h5,hF⟩:=aE hF
  refine NAD [.vw i.toNat,.vw (row.length - j.toNat),.xs ((row.take i.toNat++((row.drop j.toNat).take (row.length - j.toNat))).map ea)] [0,7] [] [100000] [] [100000] ⟨[(0,.row 100000 1),(7,.i (row.length:Int))],[],[(100000,⟨48,1,1,0,(row.map ea).length,false,1,[100000],((row.take i.toNat++((row.drop j.toNat).take (row.length - j.toNat))).map ea)⟩)],[],[(100000,⟨51,5,[],ar.map o_bunch⟩)]⟩ (hc (vw01_ok (cm:=rc) ea h1) (hc (vw10_ok ea h2) (hc (tapv_ok ea row i.toNat row j.toNat (row.length - j.toNat)) (hc (appl_ok ea h3) (hc (tk_ok ea h4) (hc (srcv_ok ea h5) .nil)))))) ?_
  obtain ⟨h7,h8,hF⟩:=asrt2 hF
  refine NAR [.nat ((row.take i.toNat++((row.drop j.toNat).take (row.length - j.toNat))).length:Int),.vw ((row.length:Int).toNat - ((row.take i.toNat++((row.drop j.toNat).take (row.length - j.toNat))).length:Int).toNat),.xs ((row.take i.toNat++((row.drop j.toNat).take (row.length - j.toNat))).map ea)] [0] [] [100000] [] [100000] ⟨[(0,.row 100000 1)],[],[(100000,⟨48,1,1,0,(row.map ea).length,false,1,[100000],((row.take i.toNat++((row.drop j.toNat).take (row.length - j.toNat))).map ea)⟩)],[],[(100000,⟨51,5,[],ar.map o_bunch⟩)]⟩ (hc (len_ok ea (row.take i.toNat++((row.drop j.toNat).take (row.length - j.toNat)))) (hc (vw11c_ok ea h7) (hc (clr0_ok ea (row.take i.toNat++((row.drop j.toNat).take (row.length - j.toNat))) ((row.length:Int).toNat - ((row.take i.toNat++((row.drop j.toNat).take (row.length - j.toNat))).length:Int).toNat) .nilp h8) (hc (Nat.zero_le (((row.take i.toNat++((row.drop j.toNat).take (row.length - j.toNat))).length:Int).toNat)) .nil)))) ?_
  refine NAR [] [6] [] [100000] [] [100000] ⟨[(6,.row 100000 1)],[],[(100000,⟨48,1,1,0,(row.map ea).length,false,1,[100000],((row.take i.toNat++((row.drop j.toNat).take (row.length - j.toNat))).map ea)⟩)],[],[(100000,⟨51,5,[],ar.map o_bunch⟩)]⟩ .nil ?_
  cases hF
  exact Wk_ret (hfin _ ⟨[100000],[],[100000],[],[100000],[(100000,⟨1,false,true,false⟩)],by kernel_rfl⟩)

/- cmp.isNaN[int] -/
def cmp_isNaN_int (x:Int):Bool:=
 !decide (x=x)
theorem cmp_isNaN_int_ok {x r} (hF:cmp_isNaN_int x=r):Pe Try.prog 46 S.none [.i x] (.bool r) S.none:=by
 refine PT 6 [.tmp 2] [4] Try.func46 ?_
 intro Q g hfin
 unfold cmp_isNaN_int at hF
 refine LR0 ?_
 refine LR0 ?_
 cases hF
 exact Wz [] hfin

/- cmp.Compare[int] -/
def cmp_Compare_int (x y0:Int):Int:=
 lt (cmp_isNaN_int x) fun x1=>
 lt (cmp_isNaN_int y0) fun x2=>
 if x1=true then
  if x2=true then
   0
  else
   (-1)
 else
  if x2=true then
   1
  else
   if (decide (x<y0))=true then
    (-1)
   else
    if (decide (y0<x))=true then
     1
    else
     0
theorem cmp_Compare_int_ok {x y0 r} (hF:cmp_Compare_int x y0=r):Pe Try.prog 36 S.none [.i x,.i y0] (.i r) S.none:=by
 refine PT 20 [.tmp 4] [3] Try.func36 ?_
 intro Q g hfin
 unfold cmp_Compare_int at hF
 refine LR0 ?_
 obtain ⟨x1,h0,hF⟩:=lS hF
 refine RJ (.b (cmp_isNaN_int_ok h0) .z) ?_
 obtain ⟨x2,h1,hF⟩:=lS hF
 refine RJ (.b (cmp_isNaN_int_ok h1) .z) ?_
 refine LR0 ?_
 refine Nif hF ?_ ?_ <;> intro hb hF
 ·refine LR0 ?_
  refine Nif hF ?_ ?_ <;> intro hb hF
  ·refine LR0 ?_
   cases hF
   exact Wz [] hfin
  ·refine LR0 ?_
   cases hF
   exact Wz [] hfin
 ·refine LR0 ?_
  refine Nif hF ?_ ?_ <;> intro hb hF
  ·refine LR0 ?_
   cases hF
   exact Wz [] hfin
  ·refine LR0 ?_
   refine Nif hF ?_ ?_ <;> intro hb hF
   ·refine LR0 ?_
    cases hF
    exact Wz [] hfin
   ·refine LR0 ?_
    refine Nif hF ?_ ?_ <;> intro hb hF
    ·refine LR0 ?_
     cases hF
     exact Wz [] hfin
    ·refine LR0 ?_
     cases hF
     exact Wz [] hfin

/- history.Order$2 -/
def history_Order_2 (x y0:Int) (box:List Span):Option Int:=
 asrt (0≤x∧x<(box.length:Int)) <|
 asrt (0≤y0∧y0<(box.length:Int)) <|
 lt (cmp_Compare_int ((lget box x).From) ((lget box y0).From)) fun x1=>
 some x1
theorem history_Order_2_ok {x y0 box r} (hF:history_Order_2 x y0 box=some r):Pe Try.prog 35 ⟨[],[(100000,[.sl 4 (box.map e_Span)])],[],[],[]⟩ [.i x,.i y0,.ptr 100000 0] (.i r) ⟨[],[(100000,[.sl 4 (box.map e_Span)])],[],[],[]⟩:=by
 refine PT 17 [.tmp 5] [3] Try.func35 ?_
 intro Q g hfin
 unfold history_Order_2 at hF
 refine LR0 ?_
 obtain ⟨h0,h1,hF⟩:=asrt2 hF
 obtain ⟨x1,h2,hF⟩:=lS hF
 refine DJ (.i e_Span h0 (.i e_Span h1 (.b (cmp_Compare_int_ok h2) .z))) ?_
 cases hF
 exact Wz [] hfin

/- slices.insertionSortCmpFunc[int] -/
def slices_insertionSortCmpFunc_int_v1_J1 (v:List Int):Option (List Int):=
 some v
def slices_insertionSortCmpFunc_int_v1_J2 (v1:List Int×Int) (v2:List Int):Option ((List Int×Int)⊕(List Int)):=
 some (Sum.inl (v2,w64 (v1.2+1)))
def slices_insertionSortCmpFunc_int_v1_B2 (a0:Int) (box:List Span) (v1 v3:List Int×Int):Option ((List Int×Int)⊕((List Int×Int)⊕(List Int))):=
 asrt ((decide (a0<v3.2))=true→0≤v3.2∧v3.2<(v3.1.length:Int)) <|
 asrt ((decide (a0<v3.2))=true→0≤v3.2∧v3.2<(v3.1.length:Int)) <|
 asrt ((decide (a0<v3.2))=true→0≤w64 (v3.2 - 1)∧w64 (v3.2 - 1)<(v3.1.length:Int)) <|
 asrt ((decide (a0<v3.2))=true→0≤w64 (v3.2 - 1)∧w64 (v3.2 - 1)<(v3.1.length:Int)) <|
 ob (if (decide (a0<v3.2))=true then (history_Order_2 (lget v3.1 v3.2) (lget v3.1 (w64 (v3.2 - 1))) box) else some default) fun x=>
 if ((decide (a0<v3.2))&&(decide (x<0)))=true then
  asrt (0≤w64 (v3.2 - 1)∧w64 (v3.2 - 1)<(v3.1.length:Int)) <|
  asrt (0≤w64 (v3.2 - 1)∧w64 (v3.2 - 1)<(v3.1.length:Int)) <|
  asrt (0≤v3.2∧v3.2<(v3.1.length:Int)) <|
  asrt (0≤v3.2∧v3.2<(v3.1.length:Int)) <|
  asrt (0≤v3.2∧v3.2<(v3.1.length:Int)) <|
  asrt (0≤v3.2∧v3.2<(v3.1.length:Int)) <|
  asrt (0≤w64 (v3.2 - 1)∧w64 (v3.2 - 1)<((lset v3.1 v3.2 (lget v3.1 (w64 (v3.2 - 1)))).length:Int)) <|
  asrt (0≤w64 (v3.2 - 1)∧w64 (v3.2 - 1)<((lset v3.1 v3.2 (lget v3.1 (w64 (v3.2 - 1)))).length:Int)) <|
  lt ((lset (lset v3.1 v3.2 (lget v3.1 (w64 (v3.2 - 1)))) (w64 (v3.2 - 1)) (lget v3.1 v3.2))) fun v4=>
  some (Sum.inl (v4,w64 (v3.2 - 1)))
 else
  inrO (slices_insertionSortCmpFunc_int_v1_J2 v1 v3.1)
def slices_insertionSortCmpFunc_int_v1_L2 (a0:Int) (box:List Span) (v1 v0:List Int×Int):Option ((List Int×Int)⊕(List Int)):=
 loopO (fun y=>slices_insertionSortCmpFunc_int_v1_B2 a0 box v1 y) v0
def slices_insertionSortCmpFunc_int_v1_B1 (a0 b:Int) (box:List Span) (v1:List Int×Int):Option ((List Int×Int)⊕(List Int)):=
 if (decide (v1.2<b))=true then
  slices_insertionSortCmpFunc_int_v1_L2 a0 box v1 (v1.1,v1.2)
 else
  inrO (slices_insertionSortCmpFunc_int_v1_J1 v1.1)
def slices_insertionSortCmpFunc_int_v1_L1 (a0 b:Int) (box:List Span) (v0:List Int×Int):Option (List Int):=
 loopO (fun y=>slices_insertionSortCmpFunc_int_v1_B1 a0 b box y) v0
def slices_insertionSortCmpFunc_int_v1 (a0 b:Int) (box:List Span) (row:List Int):Option (List Int):=
 slices_insertionSortCmpFunc_int_v1_L1 a0 b box (row,w64 (a0+1))
theorem slices_insertionSortCmpFunc_int_v1_ok (rk rc:Nat) (rn:Bool) {a0 b box row r} (hF:slices_insertionSortCmpFunc_int_v1 a0 b box row=some r):Pe Try.prog 52 ⟨[],[(100000,[.sl 4 (box.map e_Span)])],[(100000,.q 3 1 0 0 rc rn (row.map e_i64))],[],[]⟩ [.row 100000 0,.i a0,.i b,.fn 35 [.ptr 100000 0]] (.tup []) ⟨[],[(100000,[.sl 4 (box.map e_Span)])],[(100000,.q 3 1 0 0 rc rn (r.map e_i64))],[],[]⟩:=by
 refine PT 53 [] [] Try.func52 ?_
 intro Q g hfin
 unfold slices_insertionSortCmpFunc_int_v1 at hF
 refine LR0 ?_
 refine NmS (fun v=>slices_insertionSortCmpFunc_int_v1_J1 v=some r) (fun Z v=>Z.up [] [100000] [100000] [] [] [] [(100000,.q 3 1 0 0 rc rn (v.map e_i64))] []) ?_ ?_
 ·refine Nblk ?_
  unfold slices_insertionSortCmpFunc_int_v1_L1 at hF
  refine Nits hF [] (fun Z v1=>Z.up [0,1,2,3,8] [100000] [100000] [] [(8,.i v1.2)] [] [(100000,.q 3 1 0 0 rc rn (v1.1.map e_i64))] []) ?_
  intro n1 v1 y1 hF ih1 dn1
  unfold slices_insertionSortCmpFunc_int_v1_B1 at hF
  refine LR0 ?_
  refine Nif hF ?_ ?_ <;> intro hb hF
  ·refine Nblk ?_
   refine LR0 ?_
   refine NmS (fun v2=>slices_insertionSortCmpFunc_int_v1_J2 v1 v2=some y1) (fun Z v2=>Z.up [0,1,2,3,8] [100000] [100000] [] [] [] [(100000,.q 3 1 0 0 rc rn (v2.map e_i64))] []) ?_ ?_
   ·refine Nblk ?_
    unfold slices_insertionSortCmpFunc_int_v1_L2 at hF
    refine Nits hF [] (fun Z v3=>Z.up [0,1,2,3,8,9] [100000] [100000] [] [(9,.i v3.2)] [] [(100000,.q 3 1 0 0 rc rn (v3.1.map e_i64))] []) ?_
    intro n2 v3 y2 hF ih2 dn2
    unfold slices_insertionSortCmpFunc_int_v1_B2 at hF
    obtain ⟨h0,h1,h2,h3,hF⟩:=asrt4 hF
    obtain ⟨x,h4,hF⟩:=oE hF
    refine DJ (.g (fun (ga0:(decide (a0<v3.2))=true)=>(ixr_ok e_i64 (h0 ga0))) (.a (.av (e_i64 (lget v3.1 v3.2))) (.g (fun (ga0:(decide (a0<v3.2))=true)=>(ldr_ok e_i64 (h1 ga0))) (.g (fun (ga0:(decide (a0<v3.2))=true)=>(ixr_ok e_i64 (h2 ga0))) (.a (.av (e_i64 (lget v3.1 (w64 (v3.2 - 1))))) (.g (fun (ga0:(decide (a0<v3.2))=true)=>(ldr_ok e_i64 (h3 ga0))) (.a (.callR [100000] [] [] [] (.i x)) (.g (fun (ga0:(decide (a0<v3.2))=true)=>(Pe.ren (history_Order_2_ok (ite_t h4 ga0)) ⟨[],[],[],[]⟩)) .z)))))))) ?_
    refine Nif hF ?_ ?_ <;> intro hb hF
    ·refine Nblk ?_
     obtain ⟨h5,h6,h7,h8,hF⟩:=asrt4 hF
     obtain ⟨h9,h10,h11,h12,hF⟩:=asrt4 hF
     obtain ⟨v4,hv,hF⟩:=lS hF
     refine DJ (.x e_i64 h5 (.r e_i64 h6 (.x e_i64 h7 (.r e_i64 h8 (.x e_i64 h9 (.w e_i64 h10 (lget v3.1 (w64 (v3.2 - 1))) (.x e_i64 h11 (.wN e_i64 h12 hv .z)))))))) ?_
     refine LR0 ?_
     exact Nrnq [] hF ih2
    ·refine Nexit rfl ?_
     have hF:=inrO_done hF dn2
     exact metQ v3.1 [] hF
   ·intro v2 hF
    unfold slices_insertionSortCmpFunc_int_v1_J2 at hF
    refine LR0 ?_
    exact Nrnq [] hF ih1
  ·refine Nexit rfl ?_
   have hF:=inrO_done hF dn1
   exact metQ v1.1 [] hF
 ·intro v hF
  unfold slices_insertionSortCmpFunc_int_v1_J1 at hF
  cases hF
  exact Wk_end (hfin _ ⟨[100000],[100000],[100000],[],[],[],by kernel_rfl⟩)

/- slices.swapRangeCmpFunc[int] -/
def slices_swapRangeCmpFunc_int_v1_J1 (v:List Int):Option (List Int):=
 some v
def slices_swapRangeCmpFunc_int_v1_B1 (a0 b num:Int) (v1:List Int×Int):Option ((List Int×Int)⊕(List Int)):=
 if (decide (v1.2<num))=true then
  asrt (0≤w64 (b+v1.2)∧w64 (b+v1.2)<(v1.1.length:Int)) <|
  asrt (0≤w64 (b+v1.2)∧w64 (b+v1.2)<(v1.1.length:Int)) <|
  asrt (0≤w64 (a0+v1.2)∧w64 (a0+v1.2)<(v1.1.length:Int)) <|
  asrt (0≤w64 (a0+v1.2)∧w64 (a0+v1.2)<(v1.1.length:Int)) <|
  asrt (0≤w64 (a0+v1.2)∧w64 (a0+v1.2)<(v1.1.length:Int)) <|
  asrt (0≤w64 (a0+v1.2)∧w64 (a0+v1.2)<(v1.1.length:Int)) <|
  asrt (0≤w64 (b+v1.2)∧w64 (b+v1.2)<((lset v1.1 (w64 (a0+v1.2)) (lget v1.1 (w64 (b+v1.2)))).length:Int)) <|
  asrt (0≤w64 (b+v1.2)∧w64 (b+v1.2)<((lset v1.1 (w64 (a0+v1.2)) (lget v1.1 (w64 (b+v1.2)))).length:Int)) <|
  lt ((lset (lset v1.1 (w64 (a0+v1.2)) (lget v1.1 (w64 (b+v1.2)))) (w64 (b+v1.2)) (lget v1.1 (w64 (a0+v1.2))))) fun v2=>
  some (Sum.inl (v2,w64 (v1.2+1)))
 else
  inrO (slices_swapRangeCmpFunc_int_v1_J1 v1.1)
def slices_swapRangeCmpFunc_int_v1_L1 (a0 b num:Int) (v0:List Int×Int):Option (List Int):=
 loopO (fun y=>slices_swapRangeCmpFunc_int_v1_B1 a0 b num y) v0
def slices_swapRangeCmpFunc_int_v1 (a0 b num:Int) (box:List Span) (row:List Int):Option (List Int):=
 slices_swapRangeCmpFunc_int_v1_L1 a0 b num (row,0)
theorem slices_swapRangeCmpFunc_int_v1_ok (rk rc:Nat) (rn:Bool) {a0 b num box row r} (hF:slices_swapRangeCmpFunc_int_v1 a0 b num box row=some r):Pe Try.prog 70 ⟨[],[(100000,[.sl 4 (box.map e_Span)])],[(100000,.q 3 1 0 0 rc rn (row.map e_i64))],[],[]⟩ [.row 100000 0,.i a0,.i b,.i num,.fn 35 [.ptr 100000 0]] (.tup []) ⟨[],[(100000,[.sl 4 (box.map e_Span)])],[(100000,.q 3 1 0 0 rc rn (r.map e_i64))],[],[]⟩:=by
 refine PT 38 [] [] Try.func70 ?_
 intro Q g hfin
 unfold slices_swapRangeCmpFunc_int_v1 at hF
 refine LR0 ?_
 refine NmS (fun v=>slices_swapRangeCmpFunc_int_v1_J1 v=some r) (fun Z v=>Z.up [] [100000] [100000] [] [] [] [(100000,.q 3 1 0 0 rc rn (v.map e_i64))] []) ?_ ?_
 ·refine Nblk ?_
  unfold slices_swapRangeCmpFunc_int_v1_L1 at hF
  refine Nits hF [] (fun Z v1=>Z.up [0,1,2,3,10] [100000] [100000] [] [(10,.i v1.2)] [] [(100000,.q 3 1 0 0 rc rn (v1.1.map e_i64))] []) ?_
  intro n1 v1 y1 hF ih1 dn1
  unfold slices_swapRangeCmpFunc_int_v1_B1 at hF
  refine LR0 ?_
  refine Nif hF ?_ ?_ <;> intro hb hF
  ·refine Nblk ?_
   obtain ⟨h0,h1,h2,h3,hF⟩:=asrt4 hF
   obtain ⟨h4,h5,h6,h7,hF⟩:=asrt4 hF
   obtain ⟨v2,hv,hF⟩:=lS hF
   refine DJ (.x e_i64 h0 (.r e_i64 h1 (.x e_i64 h2 (.r e_i64 h3 (.x e_i64 h4 (.w e_i64 h5 (lget v1.1 (w64 (b+v1.2))) (.x e_i64 h6 (.wN e_i64 h7 hv .z)))))))) ?_
   refine LR0 ?_
   exact Nrnq [] hF ih1
  ·refine Nexit rfl ?_
   have hF:=inrO_done hF dn1
   exact metQ v1.1 [] hF
 ·intro v hF
  unfold slices_swapRangeCmpFunc_int_v1_J1 at hF
  cases hF
  exact Wk_end (hfin _ ⟨[100000],[100000],[100000],[],[],[],by kernel_rfl⟩)

/- slices.rotateCmpFunc[int] -/
def slices_rotateCmpFunc_int_v1_J1 (m:Int) (box:List Span) (v:List Int×Int):Option (List Int):=
 ob (slices_swapRangeCmpFunc_int_v1 (w64 (m - v.2)) m v.2 box v.1) fun x=>
 some x
def slices_rotateCmpFunc_int_v1_B1 (m:Int) (box:List Span) (v1:List Int×Int×Int):Option ((List Int×Int×Int)⊕(List Int)):=
 if (!decide (v1.2.1=v1.2.2))=true then
  if (decide (v1.2.2<v1.2.1))=true then
   ob (slices_swapRangeCmpFunc_int_v1 (w64 (m - v1.2.1)) m v1.2.2 box v1.1) fun x1=>
   some (Sum.inl (x1,w64 (v1.2.1 - v1.2.2),v1.2.2))
  else
   ob (slices_swapRangeCmpFunc_int_v1 (w64 (m - v1.2.1)) (w64 ((w64 (m+v1.2.2)) - v1.2.1)) v1.2.1 box v1.1) fun x2=>
   some (Sum.inl (x2,v1.2.1,w64 (v1.2.2 - v1.2.1)))
 else
  inrO (slices_rotateCmpFunc_int_v1_J1 m box (v1.1,v1.2.1))
def slices_rotateCmpFunc_int_v1_L1 (m:Int) (box:List Span) (v0:List Int×Int×Int):Option (List Int):=
 loopO (fun y=>slices_rotateCmpFunc_int_v1_B1 m box y) v0
def slices_rotateCmpFunc_int_v1 (a0 m b:Int) (box:List Span) (row:List Int):Option (List Int):=
 slices_rotateCmpFunc_int_v1_L1 m box (row,w64 (m - a0),w64 (b - m))
theorem slices_rotateCmpFunc_int_v1_ok (rk rc:Nat) (rn:Bool) {a0 m b box row r} (hF:slices_rotateCmpFunc_int_v1 a0 m b box row=some r):Pe Try.prog 64 ⟨[],[(100000,[.sl 4 (box.map e_Span)])],[(100000,.q 3 1 0 0 rc rn (row.map e_i64))],[],[]⟩ [.row 100000 0,.i a0,.i m,.i b,.fn 35 [.ptr 100000 0]] (.tup []) ⟨[],[(100000,[.sl 4 (box.map e_Span)])],[(100000,.q 3 1 0 0 rc rn (r.map e_i64))],[],[]⟩:=by
 refine PT 58 [] [] Try.func64 ?_
 intro Q g hfin
 unfold slices_rotateCmpFunc_int_v1 at hF
 refine LR0 ?_
 refine LR0 ?_
 refine NmS (fun v=>slices_rotateCmpFunc_int_v1_J1 m box v=some r) (fun Z v=>Z.up [0,2,4,10] [100000] [100000] [] [(10,.i v.2)] [] [(100000,.q 3 1 0 0 rc rn (v.1.map e_i64))] []) ?_ ?_
 ·refine Nblk ?_
  unfold slices_rotateCmpFunc_int_v1_L1 at hF
  refine Nits hF [] (fun Z v1=>Z.up [0,2,4,10,11] [100000] [100000] [] [(10,.i v1.2.1),(11,.i v1.2.2)] [] [(100000,.q 3 1 0 0 rc rn (v1.1.map e_i64))] []) ?_
  intro n1 v1 y1 hF ih1 dn1
  unfold slices_rotateCmpFunc_int_v1_B1 at hF
  refine LR0 ?_
  refine Nif hF ?_ ?_ <;> intro hb hF
  ·refine Nblk ?_
   refine LR0 ?_
   refine Nif hF ?_ ?_ <;> intro hb hF
   ·obtain ⟨x1,h2,hF⟩:=oE hF
    have p3:=(Pe.ren (slices_swapRangeCmpFunc_int_v1_ok 0 rc rn h2) ⟨[],[],[],[]⟩)
    refine RJ (.e [100000] [100000] p3 .z) ?_
    refine LR0 ?_
    exact Nrnq [] hF ih1
   ·obtain ⟨x2,h4,hF⟩:=oE hF
    have p5:=(Pe.ren (slices_swapRangeCmpFunc_int_v1_ok 0 rc rn h4) ⟨[],[],[],[]⟩)
    refine RJ (.e [100000] [100000] p5 .z) ?_
    refine LR0 ?_
    exact Nrnq [] hF ih1
  ·refine Nexit rfl ?_
   have hF:=inrO_done hF dn1
   exact metQ (v1.1,v1.2.1) [] hF
 ·intro v hF
  unfold slices_rotateCmpFunc_int_v1_J1 at hF
  obtain ⟨x,h0,hF⟩:=oE hF
  have p1:=(Pe.ren (slices_swapRangeCmpFunc_int_v1_ok 0 rc rn h0) ⟨[],[],[],[]⟩)
  refine RJ (.e [100000] [100000] p1 .z) ?_
  cases hF
  exact Wk_end (hfin _ ⟨[100000],[100000],[100000],[],[],[],by kernel_rfl⟩)

end
end G
end Go.Proofs.Ytnibbgjoanbnmaa
