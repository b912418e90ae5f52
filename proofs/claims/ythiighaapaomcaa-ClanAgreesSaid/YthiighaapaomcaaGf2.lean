/- The program's functions as plain functions, and that they are these. Written by a program (dec2.py). -/
import Derived.Test.YthiighaapaomcaaGf1
namespace Go.Proofs.Ythiighaapaomcaa
open Go Go.Dm
set_option linter.unusedVariables false
set_option linter.unusedSimpArgs false
set_option maxRecDepth 100000
namespace G
noncomputable section
/- tabularyref.StandNode -/
def R_StandNode_J1 (x:Node) (v1:Fault) (x4:Int×Int×Int×Int×List Entry×Int×Int) (v2:List Mail):Option (Node×List Mail×Fault):=
 ob (
  if (decide (x.N=1))=true then
   ob (R_Leader (⟨x4.1,x4.2.1,w64 (x.Term+1),w64 (x.ID+1),x4.2.2.2.2.1,1,x4.2.2.2.2.2.2,([x.ID]:List Int),([]:List Int),([]:List Int)⟩:Node)) fun x5=>
   some (x5.N,x5.ID,x5.Term,x5.Vote,x5.Log,x5.Role,x5.Commit,x5.Votes,x5.Next,x5.Have)
  else
   some (x4.1,x4.2.1,w64 (x.Term+1),w64 (x.ID+1),x4.2.2.2.2.1,1,x4.2.2.2.2.2.2,([x.ID]:List Int),([]:List Int),([]:List Int))) fun (v3:Int×Int×Int×Int×List Entry×Int×Int×List Int×List Int×List Int)=>
 some ((⟨v3.1,v3.2.1,v3.2.2.1,v3.2.2.2.1,v3.2.2.2.2.1,v3.2.2.2.2.2.1,v3.2.2.2.2.2.2.1,v3.2.2.2.2.2.2.2.1,v3.2.2.2.2.2.2.2.2.1,v3.2.2.2.2.2.2.2.2.2⟩:Node),v2,v1)
def R_StandNode_B1 (x:Node) (v1:Fault) (x4:Int×Int×Int×Int×List Entry×Int×Int) (v4:List Mail×Int):Option ((List Mail×Int)⊕(Node×List Mail×Fault)):=
 if (decide (v4.2<x.N))=true then
  ob (
   if (!decide (v4.2=x.ID))=true then
    ob (R_LastTerm x.Log) fun x6=>
    asrt (((v4.1++[(⟨1,x.ID,v4.2,w64 (x.Term+1),(x.Log.length:Int),x6,0,([]:List Entry),false⟩:Mail)]).length:Int)*88≤140737488351232) <|
    lt ((v4.1++[(⟨1,x.ID,v4.2,w64 (x.Term+1),(x.Log.length:Int),x6,0,([]:List Entry),false⟩:Mail)])) fun (v6:List Mail)=>
    some v6
   else
    some v4.1) fun (v5:List Mail)=>
  some (Sum.inl (v5,w64 (v4.2+1)))
 else
  inrO (R_StandNode_J1 x v1 x4 v4.1)
def R_StandNode_L1 (x:Node) (v1:Fault) (x4:Int×Int×Int×Int×List Entry×Int×Int) (v0:List Mail×Int):Option (Node×List Mail×Fault):=
 loopO (fun y=>R_StandNode_B1 x v1 x4 y) v0
def R_StandNode (x:Node):Option (Node×List Mail×Fault):=
 ob (R_NodeFault x) fun x1=>
 ob (
  if ((decide (x1.Code=0))&&(decide (x.Role=2)))=true then
   lt (R_F 11 0) fun x2=>
   some x2
  else
   some x1) fun v=>
 ob (
  if ((decide (v.Code=0))&&(decide (1000000000≤x.Term)))=true then
   lt (R_F 9 0) fun x3=>
   some x3
  else
   some v) fun v1=>
 if (!decide (v1.Code=0))=true then
  some ((⟨0,0,0,0,([]:List Entry),0,0,([]:List Int),([]:List Int),([]:List Int)⟩:Node),([]:List Mail),v1)
 else
  ob (R_Follower x) fun x4=>
  R_StandNode_L1 x v1 x4 (([]:List Mail),0)
theorem R_StandNode_ok {x r} (hF:R_StandNode x=some r):Pe Try.prog 46 (.w []) [.agg (c_Node x)] (.tup [.agg (c_Node r.1),.row 73 0,.agg (c_Fault r.2.2)]) ⟨[],[],[(73,.z 91 9 0 (r.2.1.map e_Mail))],[],[]⟩:=by
 refine PT 82 [.cell 2 48,.tmp 3,.cell 4 31] [48,27,31] Try.func46 ?_
 intro Q g hfin
 unfold R_StandNode at hF
 refine LR0 ?_
 obtain ⟨x1,h0,hF⟩:=oE hF
 refine RJ (.b (R_NodeFault_ok h0) .z) ?_
 refine LR0 ?_
 obtain ⟨v,hv,hF⟩:=oE hF
 refine NmT (fun Z=>Z.up [1,2,4,5] [1,2,4,5] [] [] [] [(5,(c_Fault v))] [] []) ?_ ?_
 ·have hF:=hv
  refine Nif hF ?_ ?_ <;> intro hb hF
  ·obtain ⟨x2,h1,hF⟩:=lS hF
   refine RJ (.b (R_F_ok h1) .z) ?_
   cases hF
   exact met' []
  ·cases hF
   exact met' []
 ·refine LR0 ?_
  obtain ⟨v1,hv,hF⟩:=oE hF
  refine NmT (fun Z=>Z.up [1,2,4,5] [1,2,4,5] [] [] [] [(5,(c_Fault v1))] [] []) ?_ ?_
  ·have hF:=hv
   refine Nif hF ?_ ?_ <;> intro hb hF
   ·obtain ⟨x3,h2,hF⟩:=lS hF
    refine RJ (.b (R_F_ok h2) .z) ?_
    cases hF
    exact met' []
   ·cases hF
    exact met' []
  ·refine LR0 ?_
   refine Nif hF ?_ ?_ <;> intro hb hF
   ·refine VD [] [2,3,4] [2,4] [] [] [(2,.ptr 2 0),(3,.nils),(4,.ptr 4 0)] [(2,[.i 0,.i 0,.i 0,.i 0,.nils,.i 0,.i 0,.nils,.nils,.nils]),(4,(c_Fault v1))] [] [] .nil ?_
    cases hF
    refine Wk_nilrow 3 60000 91 9 rfl rfl rfl ?_
    refine Wk_ren' ⟨[],[(60000,73)],[],[]⟩ rfl ?_
    exact Wz [] hfin
   ·obtain ⟨x4,h3,hF⟩:=oE hF
    have p4:=(Pe.ren (R_Follower_ok h3) ⟨[],[(13,35),(71001,20035),(71002,40035),(71003,60035)],[],[]⟩)
    refine RJ (.e [] [] p4 .z) ?_
    refine LR0 ?_
    refine LR0 ?_
    refine LR0 ?_
    refine RJ (.a (.sealed) .z) ?_
    refine LR0 ?_
    refine VR [] [1,2,4,5,6,7,8] [1,2,4,5,6] [35,40035,60035] [] [(1,.ptr 1 0),(2,.ptr 2 0),(4,.ptr 4 0),(5,.ptr 5 0),(6,.ptr 6 0),(7,.nils),(8,.i 0)] [(1,(c_Node x)),(2,[.i 0,.i 0,.i 0,.i 0,.nils,.i 0,.i 0,.nils,.nils,.nils]),(4,[.i 0,.i 0]),(5,(c_Fault v1)),(6,[.i x4.1,.i x4.2.1,.i (w64 (x.Term+1)),.i (w64 (x.ID+1)),.row 35 1,.i 1,.i x4.2.2.2.2.2.2,.sl 1 (([x.ID]:List Int).map e_i64),.row 40035 0,.row 60035 0])] [(35,.z 50 2 1 (x4.2.2.2.2.1.map e_Entry)),(40035,.z 3 1 0 (([]:List Int).map e_i64)),(60035,.z 3 1 0 (([]:List Int).map e_i64))] [] .nil ?_
    refine NmS (fun v2=>R_StandNode_J1 x v1 x4 v2=some r) (fun Z v2=>Z.up [1,2,4,5,6,7] [1,2,4,5,6] [35,73,40035,60035] [] [(7,.row 73 0)] [] [(73,.z 91 9 0 (v2.map e_Mail))] []) ?_ ?_
    ·refine Nblk ?_
     unfold R_StandNode_L1 at hF
     refine Wk_nilrow 7 60001 91 9 rfl rfl rfl ?_
     refine Wk_trim (fs:=[1,2,4,5,6,7,8]) (bs:=[1,2,4,5,6]) (rs:=[35,40035,60001,60035]) (ms:=[]) (aa:=[]) (nv:=[]) rfl ?_
     refine Wk_ren' ⟨[],[(60001,73)],[],[]⟩ rfl ?_
     refine Nitr hF [] (fun v4=>⟨[(1,.ptr 1 0),(2,.ptr 2 0),(4,.ptr 4 0),(5,.ptr 5 0),(6,.ptr 6 0),(7,.row 73 0),(8,.i v4.2)],[(1,(c_Node x)),(2,[.i 0,.i 0,.i 0,.i 0,.nils,.i 0,.i 0,.nils,.nils,.nils]),(4,[.i 0,.i 0]),(5,(c_Fault v1)),(6,[.i x4.1,.i x4.2.1,.i (w64 (x.Term+1)),.i (w64 (x.ID+1)),.row 35 1,.i 1,.i x4.2.2.2.2.2.2,.sl 1 (([x.ID]:List Int).map e_i64),.row 40035 0,.row 60035 0])],[(35,.z 50 2 1 (x4.2.2.2.2.1.map e_Entry)),(73,.z 91 9 0 (v4.1.map e_Mail)),(40035,.z 3 1 0 (([]:List Int).map e_i64)),(60035,.z 3 1 0 (([]:List Int).map e_i64))],[],[]⟩) ?_
     intro n1 v4 y1 hF ih1 dn1
     unfold R_StandNode_B1 at hF
     refine LR0 ?_
     refine Nif hF ?_ ?_ <;> intro hb hF
     ·refine Nblk ?_
      refine LR0 ?_
      obtain ⟨v5,hv,hF⟩:=oE hF
      refine NmT (fun Z=>Z.up [1,2,4,5,6,7,8] [1,2,4,5,6] [35,73,40035,60035] [] [] [] [(73,.z 91 9 0 (v5.map e_Mail))] []) ?_ ?_
      ·have hF:=hv
       refine Nif hF ?_ ?_ <;> intro hb hF
       ·obtain ⟨x6,h6,hF⟩:=oE hF
        obtain ⟨h7,hF⟩:=aE hF
        obtain ⟨v6,hv,hF⟩:=lS hF
        refine DJ (.l e_Entry x.Log (.b (R_LastTerm_ok h6) (.a (.sealed) (.pN e_Mail hv h7 .z)))) ?_
        cases hF
        exact met' [(73,⟨0,true,true,false⟩)]
       ·cases hF
        exact met' []
      ·refine LR0 ?_
       exact Nrnq [] hF ih1
     ·refine Nexit rfl ?_
      have hF:=inrO_done hF dn1
      exact metQ v4.1 [] hF
    ·intro v2 hF
     unfold R_StandNode_J1 at hF
     refine VR [] [2,4,5,6,7,76] [2,4,5,6] [35,73,40035,60035] [] [(2,.ptr 2 0),(4,.ptr 4 0),(5,.ptr 5 0),(6,.ptr 6 0),(7,.row 73 0),(76,.bool (decide (x.N=1)))] [(2,[.i 0,.i 0,.i 0,.i 0,.nils,.i 0,.i 0,.nils,.nils,.nils]),(4,[.i 0,.i 0]),(5,(c_Fault v1)),(6,[.i x4.1,.i x4.2.1,.i (w64 (x.Term+1)),.i (w64 (x.ID+1)),.row 35 1,.i 1,.i x4.2.2.2.2.2.2,.sl 1 (([x.ID]:List Int).map e_i64),.row 40035 0,.row 60035 0])] [(35,.z 50 2 1 (x4.2.2.2.2.1.map e_Entry)),(73,.z 91 9 0 (v2.map e_Mail)),(40035,.z 3 1 0 (([]:List Int).map e_i64)),(60035,.z 3 1 0 (([]:List Int).map e_i64))] [] .nil ?_
     obtain ⟨v3,hv,hF⟩:=oE hF
     refine NmT (fun Z=>Z.up [2,4,5,6,7] [2,4,5,6] [73] [] [] [(6,[.i v3.1,.i v3.2.1,.i v3.2.2.1,.i v3.2.2.2.1,.sl 2 (v3.2.2.2.2.1.map e_Entry),.i v3.2.2.2.2.2.1,.i v3.2.2.2.2.2.2.1,.sl 1 (v3.2.2.2.2.2.2.2.1.map e_i64),.sl 1 (v3.2.2.2.2.2.2.2.2.1.map e_i64),.sl 1 (v3.2.2.2.2.2.2.2.2.2.map e_i64)])] [] []) ?_ ?_
     ·have hF:=hv
      refine Nif hF ?_ ?_ <;> intro hb hF
      ·obtain ⟨x5,h5,hF⟩:=oE hF
       refine RJ (.c (R_Leader_ok h5) .z) ?_
       cases hF
       exact met' []
      ·refine Wk_sealBX [] 6 rfl rfl ?_
       cases hF
       exact met' []
     ·refine LD0 ?_
      cases hF
      exact Wz [] hfin

/- tabularyref.CopyNode -/
def R_CopyNode (x:Node):Option (Int×Int×Int×Int×List Entry×Int×Int×List Int×List Int×List Int):=
 ob (R_CopyLog x.Log) fun x1=>
 asrt ((x.Votes.length:Int)*8≤140737488351232) <|
 asrt ((x.Next.length:Int)*8≤140737488351232) <|
 asrt ((x.Have.length:Int)*8≤140737488351232) <|
 some (x.N,x.ID,x.Term,x.Vote,x1,x.Role,x.Commit,x.Votes,x.Next,x.Have)
theorem R_CopyNode_ok {x r} (hF:R_CopyNode x=some r):Pe Try.prog 72 (.w []) [.agg (c_Node x)] (.agg [.i r.1,.i r.2.1,.i r.2.2.1,.i r.2.2.2.1,.row 5 1,.i r.2.2.2.2.2.1,.i r.2.2.2.2.2.2.1,.row 9 1,.row 13 1,.row 17 1]) ⟨[],[],[(5,.z 50 2 1 (r.2.2.2.2.1.map e_Entry)),(9,.z 3 1 1 (r.2.2.2.2.2.2.2.1.map e_i64)),(13,.z 3 1 1 (r.2.2.2.2.2.2.2.2.1.map e_i64)),(17,.z 3 1 1 (r.2.2.2.2.2.2.2.2.2.map e_i64))],[],[]⟩:=by
 refine PT 20 [.cell 2 48] [48] Try.func72 ?_
 intro Q g hfin
 unfold R_CopyNode at hF
 refine LR0 ?_
 obtain ⟨x1,h0,hF⟩:=oE hF
 have p1:=(Pe.ren (R_CopyLog_ok h0) ⟨[],[(4,5)],[],[]⟩)
 refine RJ (.e [] [] p1 .z) ?_
 obtain ⟨h2,hF⟩:=aE hF
 refine RJ (.p0 e_i64 h2 .z) ?_
 obtain ⟨h3,hF⟩:=aE hF
 refine RJ (.p0 e_i64 h3 .z) ?_
 obtain ⟨h4,hF⟩:=aE hF
 refine RJ (.p0 e_i64 h4 .z) ?_
 refine LR0 ?_
 cases hF
 exact Wz [] hfin

/- tabularyref.ProposeNode -/
def R_ProposeNode (x:Node) (text:List UInt8):Option (Node×Fault):=
 ob (R_NodeFault x) fun x1=>
 ob (
  if ((decide (x1.Code=0))&&(!decide (x.Role=2)))=true then
   lt (R_F 11 0) fun x2=>
   some x2
  else
   some x1) fun v=>
 ob (
  if ((decide (v.Code=0))&&(decide (200<(text.length:Int))))=true then
   lt (R_F 8 0) fun x3=>
   some x3
  else
   some v) fun v1=>
 ob (
  if ((decide (v1.Code=0))&&(decide (100≤(x.Log.length:Int))))=true then
   lt (R_F 2 0) fun x4=>
   some x4
  else
   some v1) fun v2=>
 if (!decide (v2.Code=0))=true then
  some ((⟨0,0,0,0,([]:List Entry),0,0,([]:List Int),([]:List Int),([]:List Int)⟩:Node),v2)
 else
  ob (R_CopyNode x) fun x5=>
  asrt (((x5.2.2.2.2.1++[(⟨x.Term,text⟩:Entry)]).length:Int)*24≤140737488351232) <|
  asrt (0≤x.ID∧x.ID<(x5.2.2.2.2.2.2.2.2.2.length:Int)) <|
  asrt (0≤x.ID∧x.ID<(x5.2.2.2.2.2.2.2.2.2.length:Int)) <|
  lt ((lset x5.2.2.2.2.2.2.2.2.2 x.ID ((x5.2.2.2.2.1++[(⟨x.Term,text⟩:Entry)]).length:Int))) fun v3=>
  asrt (0≤x.ID∧x.ID<(x5.2.2.2.2.2.2.2.2.1.length:Int)) <|
  asrt (0≤x.ID∧x.ID<(x5.2.2.2.2.2.2.2.2.1.length:Int)) <|
  lt ((lset x5.2.2.2.2.2.2.2.2.1 x.ID (w64 (((x5.2.2.2.2.1++[(⟨x.Term,text⟩:Entry)]).length:Int)+1)))) fun v4=>
  ob (R_Counted (⟨x5.1,x5.2.1,x5.2.2.1,x5.2.2.2.1,(x5.2.2.2.2.1++[(⟨x.Term,text⟩:Entry)]),x5.2.2.2.2.2.1,x5.2.2.2.2.2.2.1,x5.2.2.2.2.2.2.2.1,v4,v3⟩:Node)) fun x6=>
  some (x6,v2)
theorem R_ProposeNode_ok {x text r} (hF:R_ProposeNode x text=some r):Pe Try.prog 47 S.none [.agg (c_Node x),.str text] (.tup [.agg (c_Node r.1),.agg (c_Fault r.2)]) S.none:=by
 refine PT 74 [.cell 4 48,.cell 5 31] [48,31] Try.func47 ?_
 intro Q g hfin
 unfold R_ProposeNode at hF
 refine LR0 ?_
 obtain ⟨x1,h0,hF⟩:=oE hF
 refine RJ (.b (R_NodeFault_ok h0) .z) ?_
 refine LR0 ?_
 obtain ⟨v,hv,hF⟩:=oE hF
 refine NmT (fun Z=>Z.up [1,2,4,5,6] [2,4,5,6] [] [] [] [(6,(c_Fault v))] [] []) ?_ ?_
 ·have hF:=hv
  refine Nif hF ?_ ?_ <;> intro hb hF
  ·obtain ⟨x2,h1,hF⟩:=lS hF
   refine RJ (.b (R_F_ok h1) .z) ?_
   cases hF
   exact met' []
  ·cases hF
   exact met' []
 ·refine LR0 ?_
  obtain ⟨v1,hv,hF⟩:=oE hF
  refine NmT (fun Z=>Z.up [1,2,4,5,6] [2,4,5,6] [] [] [] [(6,(c_Fault v1))] [] []) ?_ ?_
  ·have hF:=hv
   refine Nif hF ?_ ?_ <;> intro hb hF
   ·obtain ⟨x3,h2,hF⟩:=lS hF
    refine RJ (.b (R_F_ok h2) .z) ?_
    cases hF
    exact met' []
   ·cases hF
    exact met' []
  ·refine RJ (.a (.nat (x.Log.length:Int)) (.g (fun (_:(decide (v1.Code=0))=true)=>(len_ok e_Entry x.Log)) .z)) ?_
   obtain ⟨v2,hv,hF⟩:=oE hF
   refine NmT (fun Z=>Z.up [1,2,4,5,6] [2,4,5,6] [] [] [] [(6,(c_Fault v2))] [] []) ?_ ?_
   ·have hF:=hv
    refine Nif hF ?_ ?_ <;> intro hb hF
    ·obtain ⟨x4,h3,hF⟩:=lS hF
     refine RJ (.b (R_F_ok h3) .z) ?_
     cases hF
     exact met' []
    ·cases hF
     exact met' []
   ·refine LR0 ?_
    refine Nif hF ?_ ?_ <;> intro hb hF
    ·refine LD0 ?_
     cases hF
     exact Wz [] hfin
    ·obtain ⟨x5,h4,hF⟩:=oE hF
     have p5:=(Pe.ren (R_CopyNode_ok h4) ⟨[],[(5,44),(9,20044),(13,40044),(17,60044)],[],[]⟩)
     refine RJ (.e [] [] p5 .z) ?_
     obtain ⟨h6,hF⟩:=aE hF
     refine RJ (.a (.sealed) (.p e_Entry h6 .z)) ?_
     obtain ⟨h7,h8,hF⟩:=asrt2 hF
     obtain ⟨v3,hv,hF⟩:=lS hF
     refine RJ (.l e_Entry (x5.2.2.2.2.1++[(⟨x.Term,text⟩:Entry)]) (.x e_i64 h7 (.wN e_i64 h8 hv .z))) ?_
     obtain ⟨h9,h10,hF⟩:=asrt2 hF
     obtain ⟨v4,hv,hF⟩:=lS hF
     refine RJ (.l e_Entry (x5.2.2.2.2.1++[(⟨x.Term,text⟩:Entry)]) (.x e_i64 h9 (.wN e_i64 h10 hv .z))) ?_
     obtain ⟨x6,h11,hF⟩:=oE hF
     refine DJ (.c (R_Counted_ok h11) .z) ?_
     cases hF
     exact Wz [] hfin

/- tabularyref.Beats -/
def R_Beats_J1 (v:List Mail):Option (List Mail):=
 some v
def R_Beats_B1 (x:Node) (v1:List Mail×Int):Option ((List Mail×Int)⊕(List Mail)):=
 if (decide (v1.2<x.N))=true then
  ob (
   if (decide (v1.2=x.ID))=true then
    some v1.1
   else
    asrt (0≤v1.2∧v1.2<(x.Next.length:Int)) <|
    ob (
     if (decide ((x.Log.length:Int)<(w64 ((w64 ((lget x.Next v1.2) - 1))+5))))=true then
      some (x.Log.length:Int)
     else
      some (w64 ((w64 ((lget x.Next v1.2) - 1))+5))) fun v3=>
    asrt (0≤w64 ((lget x.Next v1.2) - 1)∧w64 ((lget x.Next v1.2) - 1)≤(x.Log.length:Int)) <|
    ob (R_LastTerm (ltake x.Log (w64 ((lget x.Next v1.2) - 1)))) fun x1=>
    asrt (0≤w64 ((lget x.Next v1.2) - 1)∧w64 ((lget x.Next v1.2) - 1)≤v3∧v3≤(x.Log.length:Int)) <|
    ob (R_CopyLog (ldrop (ltake x.Log v3) (w64 ((lget x.Next v1.2) - 1)))) fun x2=>
    asrt (((v1.1++[(⟨3,x.ID,v1.2,x.Term,w64 ((lget x.Next v1.2) - 1),x1,x.Commit,x2,false⟩:Mail)]).length:Int)*88≤140737488351232) <|
    lt ((v1.1++[(⟨3,x.ID,v1.2,x.Term,w64 ((lget x.Next v1.2) - 1),x1,x.Commit,x2,false⟩:Mail)])) fun (v4:List Mail)=>
    some v4) fun (v2:List Mail)=>
  some (Sum.inl (v2,w64 (v1.2+1)))
 else
  inrO (R_Beats_J1 v1.1)
def R_Beats_L1 (x:Node) (v0:List Mail×Int):Option (List Mail):=
 loopO (fun y=>R_Beats_B1 x y) v0
def R_Beats (x:Node):Option (List Mail):=
 R_Beats_L1 x (([]:List Mail),0)
theorem R_Beats_ok {x r} (hF:R_Beats x=some r):Pe Try.prog 74 (.w []) [.agg (c_Node x)] (.row 55 0) ⟨[],[],[(55,.z 91 9 0 (r.map e_Mail))],[],[]⟩:=by
 refine PT 57 [.tmp 2] [27] Try.func74 ?_
 intro Q g hfin
 unfold R_Beats at hF
 refine LR0 ?_
 refine LR0 ?_
 refine VR [] [1,3,4] [1] [] [] [(1,.ptr 1 0),(3,.nils),(4,.i 0)] [(1,(c_Node x))] [] [] .nil ?_
 refine NmQ (fun v=>R_Beats_J1 v=some r) (fun v=>⟨[(3,.row 55 0)],[],[(55,.z 91 9 0 (v.map e_Mail))],[],[]⟩) ?_ ?_
 ·refine Nblk ?_
  unfold R_Beats_L1 at hF
  refine Wk_nilrow 3 60000 91 9 rfl rfl rfl ?_
  refine Wk_trim (fs:=[1,3,4]) (bs:=[1]) (rs:=[60000]) (ms:=[]) (aa:=[]) (nv:=[]) rfl ?_
  refine Wk_ren' ⟨[],[(60000,55)],[],[]⟩ rfl ?_
  refine Nitr hF [] (fun v1=>⟨[(1,.ptr 1 0),(3,.row 55 0),(4,.i v1.2)],[(1,(c_Node x))],[(55,.z 91 9 0 (v1.1.map e_Mail))],[],[]⟩) ?_
  intro n1 v1 y1 hF ih1 dn1
  unfold R_Beats_B1 at hF
  refine LR0 ?_
  refine Nif hF ?_ ?_ <;> intro hb hF
  ·obtain ⟨v2,hv,hF⟩:=oE hF
   refine NmT (fun Z=>Z.up [1,3,4] [1] [55] [] [] [] [(55,.z 91 9 0 (v2.map e_Mail))] []) ?_ ?_
   ·have hF:=hv
    refine Nblk ?_
    refine LR0 ?_
    refine Nif hF ?_ ?_ <;> intro hb hF
    ·refine Nexit rfl ?_
     cases hF
     exact met' []
    ·obtain ⟨h0,hF⟩:=aE hF
     refine RJ (.i e_i64 h0 .z) ?_
     refine LR0 ?_
     refine RJ (.l e_Entry x.Log .z) ?_
     obtain ⟨v3,hv,hF⟩:=oE hF
     refine NmT (fun Z=>Z.up [1,3,4,5,6] [1] [55] [] [(6,.i v3)] [] [] []) ?_ ?_
     ·have hF:=hv
      refine Nif hF ?_ ?_ <;> intro hb hF
      ·refine RJ (.l e_Entry x.Log .z) ?_
       cases hF
       exact met' []
      ·cases hF
       exact met' []
     ·obtain ⟨h1,hF⟩:=aE hF
      obtain ⟨x1,h2,hF⟩:=oE hF
      obtain ⟨h3,hF⟩:=aE hF
      obtain ⟨x2,h4,hF⟩:=oE hF
      have p5:=(Pe.ren (R_CopyLog_ok h4) ⟨[],[(4,52)],[],[]⟩)
      obtain ⟨h6,hF⟩:=aE hF
      obtain ⟨v4,hv,hF⟩:=lS hF
      refine DJ (.s01 e_Entry h1 (.b (R_LastTerm_ok h2) (.s11 e_Entry h3 (.e [] [] p5 (.a (.sealed) (.pN e_Mail hv h6 .z)))))) ?_
      cases hF
      exact met' [(55,⟨0,true,true,false⟩)]
   ·refine LR0 ?_
    exact Nrnq [] hF ih1
  ·refine Nexit rfl ?_
   have hF:=inrO_done hF dn1
   exact metQ v1.1 [] hF
 ·intro v hF
  unfold R_Beats_J1 at hF
  refine LR0 ?_
  cases hF
  exact Wz [] hfin

/- tabularyref.BeatNode -/
def R_BeatNode (x:Node):Option (List Mail×Fault):=
 ob (R_NodeFault x) fun x1=>
 ob (
  if ((decide (x1.Code=0))&&(!decide (x.Role=2)))=true then
   lt (R_F 11 0) fun x2=>
   some x2
  else
   some x1) fun v=>
 if (!decide (v.Code=0))=true then
  some (([]:List Mail),v)
 else
  ob (R_Beats x) fun x3=>
  some (x3,v)
theorem R_BeatNode_ok {x r} (hF:R_BeatNode x=some r):Pe Try.prog 48 (.w []) [.agg (c_Node x)] (.tup [.row 21 0,.agg (c_Fault r.2)]) ⟨[],[],[(21,.z 91 9 0 (r.1.map e_Mail))],[],[]⟩:=by
 refine PT 23 [.tmp 2,.cell 3 31] [27,31] Try.func48 ?_
 intro Q g hfin
 unfold R_BeatNode at hF
 refine LR0 ?_
 obtain ⟨x1,h0,hF⟩:=oE hF
 refine RJ (.b (R_NodeFault_ok h0) .z) ?_
 refine LR0 ?_
 obtain ⟨v,hv,hF⟩:=oE hF
 refine NmT (fun Z=>Z.up [1,3,4] [1,3,4] [] [] [] [(4,(c_Fault v))] [] []) ?_ ?_
 ·have hF:=hv
  refine Nif hF ?_ ?_ <;> intro hb hF
  ·obtain ⟨x2,h1,hF⟩:=lS hF
   refine RJ (.b (R_F_ok h1) .z) ?_
   cases hF
   exact met' []
  ·cases hF
   exact met' []
 ·refine LR0 ?_
  refine Nif hF ?_ ?_ <;> intro hb hF
  ·refine VD [] [2,3] [3] [] [] [(2,.nils),(3,.ptr 3 0)] [(3,(c_Fault v))] [] [] .nil ?_
   cases hF
   refine Wk_nilrow 2 60000 91 9 rfl rfl rfl ?_
   refine Wk_ren' ⟨[],[(60000,21)],[],[]⟩ rfl ?_
   exact Wz [] hfin
  ·obtain ⟨x3,h2,hF⟩:=oE hF
   have p3:=(Pe.ren (R_Beats_ok h2) ⟨[],[(55,21)],[],[]⟩)
   refine DJ (.e [] [] p3 .z) ?_
   cases hF
   exact Wz [] hfin

/- tabularyref.Without -/
def R_Without_J1 (v:List Mail):Option (List Mail):=
 some v
def R_Without_B1 (l:List Mail) (num:Int) (v1:List Mail×Int):Option ((List Mail×Int)⊕(List Mail)):=
 if (decide (v1.2<(l.length:Int)))=true then
  ob (
   if (!decide (v1.2=num))=true then
    asrt (0≤v1.2∧v1.2<(l.length:Int)) <|
    asrt (((v1.1++[(⟨(lget l v1.2).Kind,(lget l v1.2).From,(lget l v1.2).To,(lget l v1.2).Term,(lget l v1.2).A,(lget l v1.2).B,(lget l v1.2).C0,(lget l v1.2).Entries,(lget l v1.2).Ok⟩:Mail)]).length:Int)*88≤140737488351232) <|
    lt ((v1.1++[(⟨(lget l v1.2).Kind,(lget l v1.2).From,(lget l v1.2).To,(lget l v1.2).Term,(lget l v1.2).A,(lget l v1.2).B,(lget l v1.2).C0,(lget l v1.2).Entries,(lget l v1.2).Ok⟩:Mail)])) fun v3=>
    some v3
   else
    some v1.1) fun v2=>
  some (Sum.inl (v2,w64 (v1.2+1)))
 else
  inrO (R_Without_J1 v1.1)
def R_Without_L1 (l:List Mail) (num:Int) (v0:List Mail×Int):Option (List Mail):=
 loopO (fun y=>R_Without_B1 l num y) v0
def R_Without (l:List Mail) (num:Int):Option (List Mail):=
 R_Without_L1 l num (([]:List Mail),0)
theorem R_Without_ok {l num r} (hF:R_Without l num=some r):Pe Try.prog 49 (.w []) [.sl 9 (l.map e_Mail),.i num] (.row 22 0) ⟨[],[],[(22,.z 91 9 0 (r.map e_Mail))],[],[]⟩:=by
 refine PT 24 [.tmp 4] [27] Try.func49 ?_
 intro Q g hfin
 unfold R_Without at hF
 refine LR0 ?_
 refine LR0 ?_
 refine NR [] [0,1,5,6] [] [] [(0,.sl 9 (l.map e_Mail)),(1,.i num),(5,.nils),(6,.i 0)] .nil ?_
 refine NmQ (fun v=>R_Without_J1 v=some r) (fun v=>⟨[(5,.row 22 0)],[],[(22,.z 91 9 0 (v.map e_Mail))],[],[]⟩) ?_ ?_
 ·refine Nblk ?_
  unfold R_Without_L1 at hF
  refine Wk_nilrow 5 60000 91 9 rfl rfl rfl ?_
  refine Wk_trim (fs:=[0,1,5,6]) (bs:=[]) (rs:=[60000]) (ms:=[]) (aa:=[]) (nv:=[]) rfl ?_
  refine Wk_ren' ⟨[],[(60000,22)],[],[]⟩ rfl ?_
  refine Nitr hF [] (fun v1=>⟨[(0,.sl 9 (l.map e_Mail)),(1,.i num),(5,.row 22 0),(6,.i v1.2)],[],[(22,.z 91 9 0 (v1.1.map e_Mail))],[],[]⟩) ?_
  intro n1 v1 y1 hF ih1 dn1
  unfold R_Without_B1 at hF
  refine RJ (.l e_Mail l .z) ?_
  refine Nif hF ?_ ?_ <;> intro hb hF
  ·refine Nblk ?_
   refine LR0 ?_
   obtain ⟨v2,hv,hF⟩:=oE hF
   refine NmT (fun Z=>Z.up [0,1,5,6] [] [22] [] [] [] [(22,.z 91 9 0 (v2.map e_Mail))] []) ?_ ?_
   ·have hF:=hv
    refine Nif hF ?_ ?_ <;> intro hb hF
    ·obtain ⟨h0,hF⟩:=aE hF
     obtain ⟨h1,hF⟩:=aE hF
     obtain ⟨v3,hv,hF⟩:=lS hF
     refine RJ (.i e_Mail h0 (.a (.sealed) (.pN e_Mail hv h1 .z))) ?_
     cases hF
     exact met' [(22,⟨0,true,true,false⟩)]
    ·cases hF
     exact met' []
   ·refine LR0 ?_
    exact Nrnq [] hF ih1
  ·refine Nexit rfl ?_
   have hF:=inrO_done hF dn1
   exact metQ v1.1 [] hF
 ·intro v hF
  unfold R_Without_J1 at hF
  refine LR0 ?_
  cases hF
  exact Wz [] hfin

/- tabularyref.MailFine -/
def R_MailFine (x:Node) (m:Mail):Option Bool:=
 lt (R_Num m.Term) fun x1=>
 lt (R_Num m.A) fun x2=>
 lt (R_Num m.B) fun x3=>
 lt (R_Num m.C0) fun x4=>
 if (((((((((((decide (m.Kind<1))||(decide (4<m.Kind)))||(!decide (m.To=x.ID)))||(decide (m.From=x.ID)))||(decide (m.From<0)))||(decide (x.N≤m.From)))||(decide (m.Term<1)))||(!x1))||(!x2))||(!x3))||(!x4))=true then
  some false
 else
  ob (if ((decide ((m.Entries.length:Int)≤5))&&((decide (m.Kind=3))||(decide ((m.Entries.length:Int)=0))))=true then (R_LogFault m.Entries) else some default) fun x5=>
  ob (if (((decide ((m.Entries.length:Int)≤5))&&((decide (m.Kind=3))||(decide ((m.Entries.length:Int)=0))))&&(decide (x5.Code=0)))=true then (R_LastTerm m.Entries) else some default) fun x6=>
  lt ((((decide ((m.Entries.length:Int)≤5))&&((decide (m.Kind=3))||(decide ((m.Entries.length:Int)=0))))&&(decide (x5.Code=0)))&&(decide (x6≤m.Term))) fun v=>
  some v
theorem R_MailFine_ok {x m r} (hF:R_MailFine x m=some r):Pe Try.prog 75 S.none [.agg (c_Node x),.agg (c_Mail m)] (.bool r) S.none:=by
 refine PT 98 [.tmp 4] [4] Try.func75 ?_
 intro Q g hfin
 unfold R_MailFine at hF
 refine LR0 ?_
 obtain ⟨x1,h0,hF⟩:=lS hF
 obtain ⟨x2,h1,hF⟩:=lS hF
 obtain ⟨x3,h2,hF⟩:=lS hF
 obtain ⟨x4,h3,hF⟩:=lS hF
 refine RJ (.a (.callB (.bool x1)) (.g (fun (ga0:(!(((((((decide (m.Kind<1))||(decide (4<m.Kind)))||(!decide (m.To=x.ID)))||(decide (m.From=x.ID)))||(decide (m.From<0)))||(decide (x.N≤m.From)))||(decide (m.Term<1))))=true)=>(R_Num_ok h0)) (.a (.callB (.bool x2)) (.g (fun (ga0:(!((((((((decide (m.Kind<1))||(decide (4<m.Kind)))||(!decide (m.To=x.ID)))||(decide (m.From=x.ID)))||(decide (m.From<0)))||(decide (x.N≤m.From)))||(decide (m.Term<1)))||(!x1)))=true)=>(R_Num_ok h1)) (.a (.callB (.bool x3)) (.g (fun (ga0:(!(((((((((decide (m.Kind<1))||(decide (4<m.Kind)))||(!decide (m.To=x.ID)))||(decide (m.From=x.ID)))||(decide (m.From<0)))||(decide (x.N≤m.From)))||(decide (m.Term<1)))||(!x1))||(!x2)))=true)=>(R_Num_ok h2)) (.a (.callB (.bool x4)) (.g (fun (ga0:(!((((((((((decide (m.Kind<1))||(decide (4<m.Kind)))||(!decide (m.To=x.ID)))||(decide (m.From=x.ID)))||(decide (m.From<0)))||(decide (x.N≤m.From)))||(decide (m.Term<1)))||(!x1))||(!x2))||(!x3)))=true)=>(R_Num_ok h3)) .z)))))))) ?_
 refine Nif hF ?_ ?_ <;> intro hb hF
 ·refine LR0 ?_
  cases hF
  exact Wz [] hfin
 ·obtain ⟨x5,h4,hF⟩:=oE hF
  obtain ⟨x6,h5,hF⟩:=oE hF
  refine NDL ((((decide ((m.Entries.length:Int)≤5))&&((decide (m.Kind=3))||(decide ((m.Entries.length:Int)=0))))&&(decide (x5.Code=0)))&&(decide (x6≤m.Term))) (fun v:Bool=>([(4,.bool v)],[],[],[])) [.nat (m.Entries.length:Int),.nat (m.Entries.length:Int),.callB (.agg (c_Fault x5)),.callB (.i x6)] [4] [] [] [] (hc (len_ok e_Entry m.Entries) (hc (fun (_:(!(decide (m.Kind=3)))=true) (_:(decide ((m.Entries.length:Int)≤5))=true)=>(len_ok e_Entry m.Entries)) (hc (fun (ga0:((decide ((m.Entries.length:Int)≤5))&&((decide (m.Kind=3))||(decide ((m.Entries.length:Int)=0))))=true)=>(R_LogFault_ok (ite_t h4 ga0))) (hc (fun (ga0:(((decide ((m.Entries.length:Int)≤5))&&((decide (m.Kind=3))||(decide ((m.Entries.length:Int)=0))))&&(decide (x5.Code=0)))=true)=>(R_LastTerm_ok (ite_t h5 ga0))) .nil)))) (fun v hv=>?_)
  have hF:=lt_elim hF hv
  cases hF
  exact Wz [] hfin

/- tabularyref.OlderLog -/
def R_OlderLog (l:List Entry) (num term:Int):Option Bool:=
 ob (R_LastTerm l) fun x=>
 if (!decide (x=term))=true then
  ob (R_LastTerm l) fun x1=>
  some (decide (x1<term))
 else
  some (decide ((l.length:Int)<num))
theorem R_OlderLog_ok {l num term r} (hF:R_OlderLog l num term=some r):Pe Try.prog 76 S.none [.sl 2 (l.map e_Entry),.i num,.i term] (.bool r) S.none:=by
 refine PT 19 [.tmp 6] [4] Try.func76 ?_
 intro Q g hfin
 unfold R_OlderLog at hF
 refine LR0 ?_
 obtain ⟨x,h0,hF⟩:=oE hF
 refine RJ (.b (R_LastTerm_ok h0) .z) ?_
 refine Nif hF ?_ ?_ <;> intro hb hF
 ·obtain ⟨x1,h1,hF⟩:=oE hF
  refine RJ (.b (R_LastTerm_ok h1) .z) ?_
  cases hF
  exact Wz [] hfin
 ·refine RJ (.l e_Entry l .z) ?_
  cases hF
  exact Wz [] hfin

/- tabularyref.LogsFault -/
def R_LogsFault (a0 b:List Entry):Option Fault:=
 ob (R_LogFault a0) fun x=>
 ob (
  if (decide (x.Code=0))=true then
   ob (R_LogFault b) fun x1=>
   if (!decide (x1.Code=0))=true then
    some (⟨x1.Code,w64 (x1.At - 1000)⟩:Fault)
   else
    some x1
  else
   some x) fun v=>
 some v
theorem R_LogsFault_ok {a0 b r} (hF:R_LogsFault a0 b=some r):Pe Try.prog 86 S.none [.sl 2 (a0.map e_Entry),.sl 2 (b.map e_Entry)] (.agg (c_Fault r)) S.none:=by
 refine PT 21 [.cell 4 31] [31] Try.func86 ?_
 intro Q g hfin
 unfold R_LogsFault at hF
 refine LR0 ?_
 obtain ⟨x,h0,hF⟩:=oE hF
 refine RJ (.b (R_LogFault_ok h0) .z) ?_
 refine LR0 ?_
 obtain ⟨v,hv,hF⟩:=oE hF
 refine NmT (fun Z=>Z.up [4,5] [4,5] [] [] [] [(5,(c_Fault v))] [] []) ?_ ?_
 ·have hF:=hv
  refine Nif hF ?_ ?_ <;> intro hb hF
  ·obtain ⟨x1,h1,hF⟩:=oE hF
   refine RJ (.b (R_LogFault_ok h1) .z) ?_
   refine LR0 ?_
   refine Nif hF ?_ ?_ <;> intro hb hF
   ·refine LR0 ?_
    cases hF
    exact met' []
   ·cases hF
    exact met' []
  ·cases hF
   exact met' []
 ·refine LR0 ?_
  cases hF
  exact Wz [] hfin

/- tabularyref.PlaceFault -/
def R_PlaceFault (num term:Int):Fault:=
 lt (R_Num num) fun x=>
 if (!x)=true then
  lt (R_F 3 (-1)) fun x1=>
  x1
 else
  lt (R_Num term) fun x2=>
  if (!x2)=true then
   lt (R_F 3 (-2)) fun x3=>
   x3
  else
   (⟨0,0⟩:Fault)
theorem R_PlaceFault_ok {num term r} (hF:R_PlaceFault num term=r):Pe Try.prog 87 S.none [.i num,.i term] (.agg (c_Fault r)) S.none:=by
 refine PT 14 [.cell 4 31] [31] Try.func87 ?_
 intro Q g hfin
 unfold R_PlaceFault at hF
 refine LR0 ?_
 obtain ⟨x,h0,hF⟩:=lS hF
 refine RJ (.b (R_Num_ok h0) .z) ?_
 refine Nif hF ?_ ?_ <;> intro hb hF
 ·obtain ⟨x1,h1,hF⟩:=lS hF
  refine RJ (.b (R_F_ok h1) .z) ?_
  cases hF
  exact Wz [] hfin
 ·obtain ⟨x2,h2,hF⟩:=lS hF
  refine RJ (.b (R_Num_ok h2) .z) ?_
  refine Nif hF ?_ ?_ <;> intro hb hF
  ·obtain ⟨x3,h3,hF⟩:=lS hF
   refine RJ (.b (R_F_ok h3) .z) ?_
   cases hF
   exact Wz [] hfin
  ·refine LR0 ?_
   cases hF
   exact Wz [] hfin

/- tabularyref.PutLog -/
def R_PutLog_J2 (v2:List Entry):Option (List Entry×Bool×Fault):=
 ob (R_LogFault v2) fun x4=>
 if (!decide (x4.Code=0))=true then
  lt (R_F x4.Code (-1)) fun x5=>
  some (([]:List Entry),false,x5)
 else
  some (v2,true,x4)
def R_PutLog_J3 (v3:List Entry):Option (List Entry×Bool×Fault):=
 R_PutLog_J2 v3
def R_PutLog_B1 (at0:Int) (more:List Entry) (v4:List Entry×Int):Option ((List Entry×Int)⊕(List Entry×Bool×Fault)):=
 if (decide (v4.2<(more.length:Int)))=true then
  asrt (0≤v4.2∧v4.2<(more.length:Int)) <|
  asrt (0≤w64 (at0+v4.2)∧w64 (at0+v4.2)<(v4.1.length:Int)) <|
  asrt (0≤w64 (at0+v4.2)∧w64 (at0+v4.2)<(v4.1.length:Int)) <|
  lt ((lset v4.1 (w64 (at0+v4.2)) (⟨(lget more v4.2).Term,(lget more v4.2).Text⟩:Entry))) fun v5=>
  some (Sum.inl (v5,w64 (v4.2+1)))
 else
  inrO (R_PutLog_J3 v4.1)
def R_PutLog_L1 (at0:Int) (more:List Entry) (v0:List Entry×Int):Option (List Entry×Bool×Fault):=
 loopO (fun y=>R_PutLog_B1 at0 more y) v0
def R_PutLog_J1 (l:List Entry) (at0:Int) (more:List Entry) (v1:Int):Option (List Entry×Bool×Fault):=
 ob (R_CopyLog l) fun x3=>
 if (decide (v1<(more.length:Int)))=true then
  asrt (0≤w64 (at0+v1)∧w64 (at0+v1)≤(l.length:Int)) <|
  ob (R_CopyLog (ltake l (w64 (at0+v1)))) fun x6=>
  asrt (0≤v1∧v1≤(more.length:Int)) <|
  asrt (((x6++(ldrop more v1)).length:Int)*24≤140737488351232) <|
  R_PutLog_L1 at0 more ((x6++(ldrop more v1)),v1)
 else
  R_PutLog_J2 x3
def R_PutLog_B2 (l:List Entry) (at0:Int) (more:List Entry) (v6:Int):Option (Int⊕(List Entry×Bool×Fault)):=
 asrt (((decide (v6<(more.length:Int)))&&(decide ((w64 (at0+v6))<(l.length:Int))))=true→0≤w64 (at0+v6)∧w64 (at0+v6)<(l.length:Int)) <|
 asrt (((decide (v6<(more.length:Int)))&&(decide ((w64 (at0+v6))<(l.length:Int))))=true→0≤v6∧v6<(more.length:Int)) <|
 if (((decide (v6<(more.length:Int)))&&(decide ((w64 (at0+v6))<(l.length:Int))))&&(decide (((lget l (w64 (at0+v6))).Term)=((lget more v6).Term))))=true then
  some (Sum.inl (w64 (v6+1)))
 else
  inrO (R_PutLog_J1 l at0 more v6)
def R_PutLog_L2 (l:List Entry) (at0:Int) (more:List Entry) (v0:Int):Option (List Entry×Bool×Fault):=
 loopO (fun y=>R_PutLog_B2 l at0 more y) v0
def R_PutLog (l:List Entry) (at0 term:Int) (more:List Entry):Option (List Entry×Bool×Fault):=
 ob (R_LogsFault l more) fun x=>
 ob (
  if (decide (x.Code=0))=true then
   lt (R_PlaceFault at0 term) fun x1=>
   some x1
  else
   some x) fun v=>
 if (!decide (v.Code=0))=true then
  some (([]:List Entry),false,v)
 else
  asrt ((decide (0<at0))=true→(!((decide ((l.length:Int)<at0))||((decide (at0=0))&&(!decide (term=0)))))=true→0≤w64 (at0 - 1)∧w64 (at0 - 1)<(l.length:Int)) <|
  if (((decide ((l.length:Int)<at0))||((decide (at0=0))&&(!decide (term=0))))||((decide (0<at0))&&(!decide (((lget l (w64 (at0 - 1))).Term)=term))))=true then
   ob (R_CopyLog l) fun x2=>
   some (x2,false,v)
  else
   R_PutLog_L2 l at0 more 0
theorem R_PutLog_ok {l at0 term more r} (hF:R_PutLog l at0 term more=some r):Pe Try.prog 77 (.w []) [.sl 2 (l.map e_Entry),.i at0,.i term,.sl 2 (more.map e_Entry)] (.tup [.row 55 0,.bool r.2.1,.agg (c_Fault r.2.2)]) ⟨[],[],[(55,.z 50 2 0 (r.1.map e_Entry))],[],[]⟩:=by
 refine PT 128 [.tmp 8,.tmp 9,.cell 10 31] [45,4,31] Try.func77 ?_
 intro Q g hfin
 unfold R_PutLog at hF
 refine LR0 ?_
 obtain ⟨x,h0,hF⟩:=oE hF
 refine RJ (.b (R_LogsFault_ok h0) .z) ?_
 refine LR0 ?_
 obtain ⟨v,hv,hF⟩:=oE hF
 refine NmT (fun Z=>Z.up [0,1,2,3,10,11] [10,11] [] [] [] [(11,(c_Fault v))] [] []) ?_ ?_
 ·have hF:=hv
  refine Nif hF ?_ ?_ <;> intro hb hF
  ·obtain ⟨x1,h1,hF⟩:=lS hF
   refine RJ (.b (R_PlaceFault_ok h1) .z) ?_
   cases hF
   exact met' []
  ·cases hF
   exact met' []
 ·refine LR0 ?_
  refine Nif hF ?_ ?_ <;> intro hb hF
  ·refine VD [] [8,9,10] [10] [] [] [(8,.nils),(9,.bool false),(10,.ptr 10 0)] [(10,(c_Fault v))] [] [] .nil ?_
   cases hF
   refine Wk_nilrow 8 60000 50 2 rfl rfl rfl ?_
   refine Wk_ren' ⟨[],[(60000,55)],[],[]⟩ rfl ?_
   exact Wz [] hfin
  ·obtain ⟨h2,hF⟩:=aE hF
   refine RJ (.l e_Entry l (.a (.av (e_Entry (lget l (w64 (at0 - 1))))) (.g (fun (ga0:(decide (0<at0))=true) (ga1:(!((decide ((l.length:Int)<at0))||((decide (at0=0))&&(!decide (term=0)))))=true)=>(idx_ok e_Entry (h2 ga0 ga1))) .z))) ?_
   refine Nif hF ?_ ?_ <;> intro hb hF
   ·obtain ⟨x2,h3,hF⟩:=oE hF
    have p4:=(Pe.ren (R_CopyLog_ok h3) ⟨[],[(4,55)],[],[]⟩)
    refine DJ (.e [] [] p4 .z) ?_
    cases hF
    exact Wz [(55,⟨0,true,true,false⟩)] hfin
   ·refine LR0 ?_
    refine NmS (fun v1=>R_PutLog_J1 l at0 more v1=some r) (fun Z v1=>Z.up [0,1,3,10,11,12] [10,11] [] [] [(12,.i v1)] [] [] []) ?_ ?_
    ·refine Nblk ?_
     unfold R_PutLog_L2 at hF
     refine Nits hF [] (fun Z v6=>Z.up [0,1,3,10,11,12] [10,11] [] [] [(12,.i v6)] [] [] []) ?_
     intro n1 v6 y1 hF ih1 dn1
     unfold R_PutLog_B2 at hF
     obtain ⟨h17,h18,hF⟩:=asrt2 hF
     refine DJ (.l e_Entry more (.a (.nat (l.length:Int)) (.g (fun (_:(decide (v6<(more.length:Int)))=true)=>(len_ok e_Entry l)) (.a (.av (e_Entry (lget l (w64 (at0+v6))))) (.g (fun (ga0:((decide (v6<(more.length:Int)))&&(decide ((w64 (at0+v6))<(l.length:Int))))=true)=>(idx_ok e_Entry (h17 ga0))) (.a (.av (e_Entry (lget more v6))) (.g (fun (ga0:((decide (v6<(more.length:Int)))&&(decide ((w64 (at0+v6))<(l.length:Int))))=true)=>(idx_ok e_Entry (h18 ga0))) .z))))))) ?_
     refine Nif hF ?_ ?_ <;> intro hb hF
     ·refine Nblk ?_
      refine LR0 ?_
      exact Nrnq [] hF ih1
     ·refine Nexit rfl ?_
      have hF:=inrO_done hF dn1
      exact metQ v6 [] hF
    ·intro v1 hF
     unfold R_PutLog_J1 at hF
     obtain ⟨x3,h5,hF⟩:=oE hF
     have p6:=(Pe.ren (R_CopyLog_ok h5) ⟨[],[(4,87)],[],[]⟩)
     refine RJ (.e [] [] p6 .z) ?_
     refine VR [.nat (more.length:Int)] [0,1,3,10,11,12,13,91] [10,11] [87] [] [(0,.sl 2 (l.map e_Entry)),(1,.i at0),(3,.sl 2 (more.map e_Entry)),(10,.ptr 10 0),(11,.ptr 11 0),(12,.i v1),(13,.row 87 1),(91,.bool (decide (v1<(more.length:Int))))] [(10,[.i 0,.i 0]),(11,(c_Fault v))] [(87,.z 50 2 1 (x3.map e_Entry))] [] (hc (len_ok e_Entry more) .nil) ?_
     refine NmS (fun v2=>R_PutLog_J2 v2=some r) (fun Z v2=>Z.up [10,11,13] [10,11] [97] [] [(13,.row 97 0)] [] [(97,.z 50 2 0 (v2.map e_Entry))] []) ?_ ?_
     ·refine Nif hF ?_ ?_ <;> intro hb hF
      ·obtain ⟨h9,hF⟩:=aE hF
       obtain ⟨x6,h10,hF⟩:=oE hF
       have p11:=(Pe.ren (R_CopyLog_ok h10) ⟨[],[(4,97)],[],[]⟩)
       obtain ⟨h12,h13,hF⟩:=asrt2 hF
       refine DJ (.s01 e_Entry h9 (.e [] [] p11 (.s10 e_Entry h12 (.p e_Entry h13 .z)))) ?_
       refine LR0 ?_
       refine NmS (fun v3=>R_PutLog_J3 v3=some r) (fun Z v3=>Z.up [10,11,13] [10,11] [97] [] [] [] [(97,.z 50 2 2 (v3.map e_Entry))] []) ?_ ?_
       ·refine Nblk ?_
        unfold R_PutLog_L1 at hF
        refine Nits hF [] (fun Z v4=>Z.up [1,3,10,11,13,14] [10,11] [97] [] [(14,.i v4.2)] [] [(97,.z 50 2 2 (v4.1.map e_Entry))] []) ?_
        intro n1 v4 y1 hF ih1 dn1
        unfold R_PutLog_B1 at hF
        refine RJ (.l e_Entry more .z) ?_
        refine Nif hF ?_ ?_ <;> intro hb hF
        ·refine Nblk ?_
         obtain ⟨h14,h15,hF⟩:=asrt2 hF
         obtain ⟨h16,hF⟩:=aE hF
         obtain ⟨v5,hv,hF⟩:=lS hF
         refine RJ (.i e_Entry h14 (.x e_Entry h15 (.wN e_Entry h16 hv .z))) ?_
         refine LR0 ?_
         exact Nrnq [] hF ih1
        ·refine Nexit rfl ?_
         have hF:=inrO_done hF dn1
         exact metQ v4.1 [] hF
       ·intro v3 hF
        unfold R_PutLog_J3 at hF
        exact metQ v3 [(97,⟨0,true,true,false⟩)] hF
      ·refine Wk_trim (fs:=[10,11,13]) (bs:=[10,11]) (rs:=[87]) (ms:=[]) (aa:=[]) (nv:=[]) rfl ?_
       refine Wk_ren' ⟨[],[(87,97)],[],[]⟩ rfl ?_
       exact metQ x3 [(97,⟨0,true,true,false⟩)] hF
     ·intro v2 hF
      unfold R_PutLog_J2 at hF
      obtain ⟨x4,h7,hF⟩:=oE hF
      refine RJ (.b (R_LogFault_ok h7) .z) ?_
      refine LR0 ?_
      refine Nif hF ?_ ?_ <;> intro hb hF
      ·obtain ⟨x5,h8,hF⟩:=lS hF
       refine VR [.callB (.agg (c_Fault x5))] [8,9,10] [10] [] [] [(8,.nils),(9,.bool false),(10,.ptr 10 0)] [(10,(c_Fault x5))] [] [] (hc (R_F_ok h8) .nil) ?_
       cases hF
       refine Wk_nilrow 8 60001 50 2 rfl rfl rfl ?_
       refine Wk_ren' ⟨[],[(60001,55)],[],[]⟩ rfl ?_
       exact Wz [] hfin
      ·refine VD [] [8,9,10] [10] [97] [] [(8,.row 97 0),(9,.bool true),(10,.ptr 10 0)] [(10,(c_Fault x4))] [(97,.z 50 2 0 (v2.map e_Entry))] [] .nil ?_
       cases hF
       refine Wk_ren' ⟨[],[(97,55)],[],[]⟩ rfl ?_
       exact Wz [] hfin

/- tabularyref.TakeNode -/
def R_TakeNode_J1 (x:Node) (m:Mail) (v:Fault) (v1:Int×Int×Int×Int×List Entry×Int×Int×List Int×List Int×List Int) (x12:Int×Int×Int×Int×List Entry×Int×Int) (x13:List Entry×Bool×Fault) (v8:Unit):Option (Int×Int×Int×Int×List Entry×Int×Int×List Int×List Int×List Int×List Mail×Fault):=
 ob (
  if (decide ((w64 (m.A+(m.Entries.length:Int)))<m.C0))=true then
   some (w64 (m.A+(m.Entries.length:Int)))
  else
   some m.C0) fun v9=>
 ob (
  if (decide (x12.2.2.2.2.2.2<v9))=true then
   some v9
  else
   some x12.2.2.2.2.2.2) fun v10=>
 lt ([(⟨4,x.ID,m.From,v1.2.2.1,w64 (m.A+(m.Entries.length:Int)),0,0,([]:List Entry),true⟩:Mail)]) fun (v11:List Mail)=>
 some (x12.1,x12.2.1,x12.2.2.1,x12.2.2.2.1,x13.1,x12.2.2.2.2.2.1,v10,([]:List Int),([]:List Int),([]:List Int),v11,v)
def R_TakeNode_B1 (x:Node) (m:Mail) (v:Fault) (v1:Int×Int×Int×Int×List Entry×Int×Int×List Int×List Int×List Int) (x12:Int×Int×Int×Int×List Entry×Int×Int) (x13:List Entry×Bool×Fault) (v12:Int):Option (Int⊕(Int×Int×Int×Int×List Entry×Int×Int×List Int×List Int×List Int×List Mail×Fault)):=
 if (decide (v12<x12.2.2.2.2.2.2))=true then
  asrt ((!(decide ((x13.1.length:Int)≤v12)))=true→0≤v12∧v12<(x13.1.length:Int)) <|
  asrt ((!(decide ((x13.1.length:Int)≤v12)))=true→0≤v12∧v12<(x13.1.length:Int)) <|
  asrt ((!(decide ((x13.1.length:Int)≤v12)))=true→0≤v12∧v12<(x12.2.2.2.2.1.length:Int)) <|
  asrt ((!(decide ((x13.1.length:Int)≤v12)))=true→0≤v12∧v12<(x12.2.2.2.2.1.length:Int)) <|
  if ((decide ((x13.1.length:Int)≤v12))||(!(decide ((lget x13.1 v12).Term=(lget x12.2.2.2.2.1 v12).Term)&&(decide ((lget x13.1 v12).Text=(lget x12.2.2.2.2.1 v12).Text)&&true))))=true then
   some (Sum.inr (x12.1,x12.2.1,x12.2.2.1,x12.2.2.2.1,x12.2.2.2.2.1,x12.2.2.2.2.2.1,x12.2.2.2.2.2.2,([]:List Int),([]:List Int),([]:List Int),([]:List Mail),v))
  else
   some (Sum.inl (w64 (v12+1)))
 else
  inrO (R_TakeNode_J1 x m v v1 x12 x13 ())
def R_TakeNode_L1 (x:Node) (m:Mail) (v:Fault) (v1:Int×Int×Int×Int×List Entry×Int×Int×List Int×List Int×List Int) (x12:Int×Int×Int×Int×List Entry×Int×Int) (x13:List Entry×Bool×Fault) (v0:Int):Option (Int×Int×Int×Int×List Entry×Int×Int×List Int×List Int×List Int×List Mail×Fault):=
 loopO (fun y=>R_TakeNode_B1 x m v v1 x12 x13 y) v0
def R_TakeNode (x:Node) (m:Mail):Option (Int×Int×Int×Int×List Entry×Int×Int×List Int×List Int×List Int×List Mail×Fault):=
 ob (R_NodeFault x) fun x1=>
 ob (if (decide (x1.Code=0))=true then (R_MailFine x m) else some default) fun x2=>
 ob (
  if ((decide (x1.Code=0))&&(!x2))=true then
   lt (R_F 5 0) fun x3=>
   some x3
  else
   some x1) fun v=>
 if (!decide (v.Code=0))=true then
  some (0,0,0,0,([]:List Entry),0,0,([]:List Int),([]:List Int),([]:List Int),([]:List Mail),v)
 else
  ob (R_CopyNode x) fun x4=>
  ob (
   if (decide (x.Term<m.Term))=true then
    ob (R_Follower x) fun x5=>
    some (x5.1,x5.2.1,m.Term,0,x5.2.2.2.2.1,x5.2.2.2.2.2.1,x5.2.2.2.2.2.2,([]:List Int),([]:List Int),([]:List Int))
   else
    some (x4.1,x4.2.1,x4.2.2.1,x4.2.2.2.1,x4.2.2.2.2.1,x4.2.2.2.2.2.1,x4.2.2.2.2.2.2.1,x4.2.2.2.2.2.2.2.1,x4.2.2.2.2.2.2.2.2.1,x4.2.2.2.2.2.2.2.2.2)) fun (v1:Int×Int×Int×Int×List Entry×Int×Int×List Int×List Int×List Int)=>
  if (decide (m.Kind=1))=true then
   ob (R_OlderLog v1.2.2.2.2.1 m.A m.B) fun x6=>
   ob (if (!(!decide (m.A=(v1.2.2.2.2.1.length:Int))))=true then (if (!x6)=true then (R_LastTerm v1.2.2.2.2.1) else some default) else some default) fun x7=>
   lt ((!x6)&&((!decide (m.A=(v1.2.2.2.2.1.length:Int)))||(!decide (m.B=x7)))) fun v2=>
   ob (
    if (((decide (m.Term=v1.2.2.1))&&((decide (v1.2.2.2.1=0))||(decide ((w64 (v1.2.2.2.1 - 1))=m.From))))&&(!v2))=true then
     some (w64 (m.From+1),(⟨2,x.ID,m.From,v1.2.2.1,0,0,0,([]:List Entry),true⟩:Mail))
    else
     some (v1.2.2.2.1,(⟨2,x.ID,m.From,v1.2.2.1,0,0,0,([]:List Entry),false⟩:Mail))) fun (v3:Int×Mail)=>
   some (v1.1,v1.2.1,v1.2.2.1,v3.1,v1.2.2.2.2.1,v1.2.2.2.2.2.1,v1.2.2.2.2.2.2.1,v1.2.2.2.2.2.2.2.1,v1.2.2.2.2.2.2.2.2.1,v1.2.2.2.2.2.2.2.2.2,[v3.2],v)
  else
   if (decide (m.Kind=2))=true then
    if (((!decide (v1.2.2.2.2.2.1=1))||(!decide (m.Term=v1.2.2.1)))||(!m.Ok))=true then
     some (v1.1,v1.2.1,v1.2.2.1,v1.2.2.2.1,v1.2.2.2.2.1,v1.2.2.2.2.2.1,v1.2.2.2.2.2.2.1,v1.2.2.2.2.2.2.2.1,v1.2.2.2.2.2.2.2.2.1,v1.2.2.2.2.2.2.2.2.2,([]:List Mail),v)
    else
     ob (R_Has v1.2.2.2.2.2.2.2.1 m.From) fun x8=>
     ob (
      if (!x8)=true then
       asrt (((v1.2.2.2.2.2.2.2.1++([m.From]:List Int)).length:Int)*8≤140737488351232) <|
       some (v1.2.2.2.2.2.2.2.1++([m.From]:List Int))
      else
       some v1.2.2.2.2.2.2.2.1) fun v4=>
     lt (R_Majority (v4.length:Int) v1.1) fun x9=>
     if x9=true then
      ob (R_Leader (⟨v1.1,v1.2.1,v1.2.2.1,v1.2.2.2.1,v1.2.2.2.2.1,v1.2.2.2.2.2.1,v1.2.2.2.2.2.2.1,v4,v1.2.2.2.2.2.2.2.2.1,v1.2.2.2.2.2.2.2.2.2⟩:Node)) fun x10=>
      ob (R_Beats x10) fun x11=>
      some (x10.N,x10.ID,x10.Term,x10.Vote,x10.Log,x10.Role,x10.Commit,x10.Votes,x10.Next,x10.Have,x11,v)
     else
      some (v1.1,v1.2.1,v1.2.2.1,v1.2.2.2.1,v1.2.2.2.2.1,v1.2.2.2.2.2.1,v1.2.2.2.2.2.2.1,v4,v1.2.2.2.2.2.2.2.2.1,v1.2.2.2.2.2.2.2.2.2,([]:List Mail),v)
   else
    if (decide (m.Kind=3))=true then
     if (decide (m.Term<v1.2.2.1))=true then
      lt ([(⟨4,x.ID,m.From,v1.2.2.1,0,0,0,([]:List Entry),false⟩:Mail)]) fun (v5:List Mail)=>
      some (v1.1,v1.2.1,v1.2.2.1,v1.2.2.2.1,v1.2.2.2.2.1,v1.2.2.2.2.2.1,v1.2.2.2.2.2.2.1,v1.2.2.2.2.2.2.2.1,v1.2.2.2.2.2.2.2.2.1,v1.2.2.2.2.2.2.2.2.2,v5,v)
     else
      if (decide (v1.2.2.2.2.2.1=2))=true then
       some (v1.1,v1.2.1,v1.2.2.1,v1.2.2.2.1,v1.2.2.2.2.1,v1.2.2.2.2.2.1,v1.2.2.2.2.2.2.1,v1.2.2.2.2.2.2.2.1,v1.2.2.2.2.2.2.2.2.1,v1.2.2.2.2.2.2.2.2.2,([]:List Mail),v)
      else
       ob (R_Follower (⟨v1.1,v1.2.1,v1.2.2.1,v1.2.2.2.1,v1.2.2.2.2.1,v1.2.2.2.2.2.1,v1.2.2.2.2.2.2.1,v1.2.2.2.2.2.2.2.1,v1.2.2.2.2.2.2.2.2.1,v1.2.2.2.2.2.2.2.2.2⟩:Node)) fun x12=>
       ob (R_PutLog x12.2.2.2.2.1 m.A m.B m.Entries) fun x13=>
       if (!decide (x13.2.2.Code=0))=true then
        some (x12.1,x12.2.1,x12.2.2.1,x12.2.2.2.1,x12.2.2.2.2.1,x12.2.2.2.2.2.1,x12.2.2.2.2.2.2,([]:List Int),([]:List Int),([]:List Int),([]:List Mail),v)
       else
        if (!x13.2.1)=true then
         ob (
          if (decide ((w64 (m.A - 1))<(x12.2.2.2.2.1.length:Int)))=true then
           some (⟨4,x.ID,m.From,v1.2.2.1,w64 (m.A - 1),0,0,([]:List Entry),false⟩:Mail)
          else
           some (⟨4,x.ID,m.From,v1.2.2.1,(x12.2.2.2.2.1.length:Int),0,0,([]:List Entry),false⟩:Mail)) fun (v6:Mail)=>
         ob (
          if (decide (v6.A<0))=true then
           some (⟨v6.Kind,v6.From,v6.To,v6.Term,0,v6.B,v6.C0,v6.Entries,v6.Ok⟩:Mail)
          else
           some v6) fun (v7:Mail)=>
         some (x12.1,x12.2.1,x12.2.2.1,x12.2.2.2.1,x12.2.2.2.2.1,x12.2.2.2.2.2.1,x12.2.2.2.2.2.2,([]:List Int),([]:List Int),([]:List Int),[v7],v)
        else
         R_TakeNode_L1 x m v v1 x12 x13 0
    else
     if ((!decide (v1.2.2.2.2.2.1=2))||(!decide (m.Term=v1.2.2.1)))=true then
      some (v1.1,v1.2.1,v1.2.2.1,v1.2.2.2.1,v1.2.2.2.2.1,v1.2.2.2.2.2.1,v1.2.2.2.2.2.2.1,v1.2.2.2.2.2.2.2.1,v1.2.2.2.2.2.2.2.2.1,v1.2.2.2.2.2.2.2.2.2,([]:List Mail),v)
     else
      if m.Ok=true then
       ob (
        if (decide ((v1.2.2.2.2.1.length:Int)<m.A))=true then
         some (v1.2.2.2.2.1.length:Int)
        else
         some m.A) fun v13=>
       asrt (0≤m.From∧m.From<(v1.2.2.2.2.2.2.2.2.2.length:Int)) <|
       asrt (0≤m.From∧m.From<(v1.2.2.2.2.2.2.2.2.2.length:Int)) <|
       ob (
        if (decide ((lget v1.2.2.2.2.2.2.2.2.2 m.From)<v13))=true then
         asrt (0≤m.From∧m.From<(v1.2.2.2.2.2.2.2.2.2.length:Int)) <|
         asrt (0≤m.From∧m.From<(v1.2.2.2.2.2.2.2.2.2.length:Int)) <|
         some (lset v1.2.2.2.2.2.2.2.2.2 m.From v13)
        else
         some v1.2.2.2.2.2.2.2.2.2) fun v14=>
       asrt (0≤m.From∧m.From<(v14.length:Int)) <|
       asrt (0≤m.From∧m.From<(v14.length:Int)) <|
       asrt (0≤m.From∧m.From<(v1.2.2.2.2.2.2.2.2.1.length:Int)) <|
       asrt (0≤m.From∧m.From<(v1.2.2.2.2.2.2.2.2.1.length:Int)) <|
       ob (R_Counted (⟨v1.1,v1.2.1,v1.2.2.1,v1.2.2.2.1,v1.2.2.2.2.1,v1.2.2.2.2.2.1,v1.2.2.2.2.2.2.1,v1.2.2.2.2.2.2.2.1,(lset v1.2.2.2.2.2.2.2.2.1 m.From (w64 ((lget v14 m.From)+1))),v14⟩:Node)) fun x14=>
       some (x14.N,x14.ID,x14.Term,x14.Vote,x14.Log,x14.Role,x14.Commit,x14.Votes,x14.Next,x14.Have,([]:List Mail),v)
      else
       asrt (0≤m.From∧m.From<(v1.2.2.2.2.2.2.2.2.1.length:Int)) <|
       asrt (0≤m.From∧m.From<(v1.2.2.2.2.2.2.2.2.1.length:Int)) <|
       ob (
        if (decide ((w64 (m.A+1))<(w64 ((lget v1.2.2.2.2.2.2.2.2.1 m.From) - 1))))=true then
         some (w64 (m.A+1))
        else
         some (w64 ((lget v1.2.2.2.2.2.2.2.2.1 m.From) - 1))) fun v15=>
       asrt (0≤m.From∧m.From<(v1.2.2.2.2.2.2.2.2.2.length:Int)) <|
       asrt (0≤m.From∧m.From<(v1.2.2.2.2.2.2.2.2.2.length:Int)) <|
       ob (
        if (decide (v15<(w64 ((lget v1.2.2.2.2.2.2.2.2.2 m.From)+1))))=true then
         asrt (0≤m.From∧m.From<(v1.2.2.2.2.2.2.2.2.2.length:Int)) <|
         asrt (0≤m.From∧m.From<(v1.2.2.2.2.2.2.2.2.2.length:Int)) <|
         some (w64 ((lget v1.2.2.2.2.2.2.2.2.2 m.From)+1))
        else
         some v15) fun v16=>
       asrt (0≤m.From∧m.From<(v1.2.2.2.2.2.2.2.2.1.length:Int)) <|
       asrt (0≤m.From∧m.From<(v1.2.2.2.2.2.2.2.2.1.length:Int)) <|
       some (v1.1,v1.2.1,v1.2.2.1,v1.2.2.2.1,v1.2.2.2.2.1,v1.2.2.2.2.2.1,v1.2.2.2.2.2.2.1,v1.2.2.2.2.2.2.2.1,(lset v1.2.2.2.2.2.2.2.2.1 m.From v16),v1.2.2.2.2.2.2.2.2.2,([]:List Mail),v)
theorem R_TakeNode_ok {x m r} (hF:R_TakeNode x m=some r):Pe Try.prog 50 S.none [.agg (c_Node x),.agg (c_Mail m)] (.tup [.agg [.i r.1,.i r.2.1,.i r.2.2.1,.i r.2.2.2.1,.sl 2 (r.2.2.2.2.1.map e_Entry),.i r.2.2.2.2.2.1,.i r.2.2.2.2.2.2.1,.sl 1 (r.2.2.2.2.2.2.2.1.map e_i64),.sl 1 (r.2.2.2.2.2.2.2.2.1.map e_i64),.sl 1 (r.2.2.2.2.2.2.2.2.2.1.map e_i64)],.sl 9 (r.2.2.2.2.2.2.2.2.2.2.1.map e_Mail),.agg (c_Fault r.2.2.2.2.2.2.2.2.2.2.2)]) S.none:=by
 refine PT 361 [.cell 4 48,.tmp 5,.cell 6 31] [48,27,31] Try.func50 ?_
 intro Q g hfin
 unfold R_TakeNode at hF
 refine LR0 ?_
 obtain ⟨x1,h0,hF⟩:=oE hF
 refine RJ (.b (R_NodeFault_ok h0) .z) ?_
 obtain ⟨x2,h1,hF⟩:=oE hF
 refine RJ (.a (.callB (.bool x2)) (.g (fun (ga0:(decide (x1.Code=0))=true)=>(R_MailFine_ok (ite_t h1 ga0))) .z)) ?_
 obtain ⟨v,hv,hF⟩:=oE hF
 refine NmT (fun Z=>Z.up [2,3,4,6,7] [2,3,4,6,7] [] [] [] [(7,(c_Fault v))] [] []) ?_ ?_
 ·have hF:=hv
  refine Nif hF ?_ ?_ <;> intro hb hF
  ·obtain ⟨x3,h2,hF⟩:=lS hF
   refine RJ (.b (R_F_ok h2) .z) ?_
   cases hF
   exact met' []
  ·cases hF
   exact met' []
 ·refine LR0 ?_
  refine Nif hF ?_ ?_ <;> intro hb hF
  ·refine LD0 ?_
   cases hF
   exact Wz [] hfin
  ·obtain ⟨x4,h3,hF⟩:=oE hF
   have p4:=(Pe.ren (R_CopyNode_ok h3) ⟨[],[(5,37),(9,20037),(13,40037),(17,60037)],[],[]⟩)
   refine RJ (.e [] [] p4 .z) ?_
   refine VR [] [2,3,4,6,7,8,42] [2,3,4,6,7,8] [37,20037,40037,60037] [] [(2,.ptr 2 0),(3,.ptr 3 0),(4,.ptr 4 0),(6,.ptr 6 0),(7,.ptr 7 0),(8,.ptr 8 0),(42,.bool (decide (x.Term<m.Term)))] [(2,(c_Node x)),(3,(c_Mail m)),(4,[.i 0,.i 0,.i 0,.i 0,.nils,.i 0,.i 0,.nils,.nils,.nils]),(6,[.i 0,.i 0]),(7,(c_Fault v)),(8,[.i x4.1,.i x4.2.1,.i x4.2.2.1,.i x4.2.2.2.1,.row 37 1,.i x4.2.2.2.2.2.1,.i x4.2.2.2.2.2.2.1,.row 20037 1,.row 40037 1,.row 60037 1])] [(37,.z 50 2 1 (x4.2.2.2.2.1.map e_Entry)),(20037,.z 3 1 1 (x4.2.2.2.2.2.2.2.1.map e_i64)),(40037,.z 3 1 1 (x4.2.2.2.2.2.2.2.2.1.map e_i64)),(60037,.z 3 1 1 (x4.2.2.2.2.2.2.2.2.2.map e_i64))] [] .nil ?_
   obtain ⟨v1,hv,hF⟩:=oE hF
   refine NmT (fun Z=>Z.up [2,3,4,6,7,8] [2,3,4,6,7,8] [44,20044,40044,60044] [] [] [(8,[.i v1.1,.i v1.2.1,.i v1.2.2.1,.i v1.2.2.2.1,.row 44 1,.i v1.2.2.2.2.2.1,.i v1.2.2.2.2.2.2.1,.row 20044 0,.row 40044 0,.row 60044 0])] [(44,.z 50 2 1 (v1.2.2.2.2.1.map e_Entry)),(20044,.z 3 1 0 (v1.2.2.2.2.2.2.2.1.map e_i64)),(40044,.z 3 1 0 (v1.2.2.2.2.2.2.2.2.1.map e_i64)),(60044,.z 3 1 0 (v1.2.2.2.2.2.2.2.2.2.map e_i64))] []) ?_ ?_
   ·have hF:=hv
    refine Nif hF ?_ ?_ <;> intro hb hF
    ·obtain ⟨x5,h5,hF⟩:=oE hF
     have p6:=(Pe.ren (R_Follower_ok h5) ⟨[],[(13,44),(71001,20044),(71002,40044),(71003,60044)],[],[]⟩)
     refine RJ (.e [] [] p6 .z) ?_
     refine LR0 ?_
     refine LR0 ?_
     cases hF
     exact met' []
    ·refine Wk_trim (fs:=[2,3,4,6,7,8]) (bs:=[2,3,4,6,7,8]) (rs:=[37,20037,40037,60037]) (ms:=[]) (aa:=[]) (nv:=[]) rfl ?_
     refine Wk_ren' ⟨[],[(37,44),(20037,20044),(40037,40044),(60037,60044)],[],[]⟩ rfl ?_
     cases hF
     exact met' [(20044,⟨0,true,true,false⟩),(40044,⟨0,true,true,false⟩),(60044,⟨0,true,true,false⟩)]
   ·refine LR0 ?_
    refine LR0 ?_
    refine Nblk ?_
    refine LR0 ?_
    refine Nif hF ?_ ?_ <;> intro hb hF
    ·refine LR0 ?_
     obtain ⟨x6,h7,hF⟩:=oE hF
     obtain ⟨x7,h8,hF⟩:=oE hF
     refine NDL ((!x6)&&((!decide (m.A=(v1.2.2.2.2.1.length:Int)))||(!decide (m.B=x7)))) (fun v2:Bool=>([(10,.bool v2)],[],[],[])) [.callB (.bool x6),.nat (v1.2.2.2.2.1.length:Int),.callB (.i x7)] [3,4,6,7,8,9,10] [3,4,6,7,8,9] [44,20044,40044,60044] [] (hc (R_OlderLog_ok h7) (hc (fun (_:(!x6)=true)=>(len_ok e_Entry v1.2.2.2.2.1)) (hc (fun (ga0:(!(!decide (m.A=(v1.2.2.2.2.1.length:Int))))=true) (ga1:(!x6)=true)=>(R_LastTerm_ok (ite_t (ite_t h8 ga0) ga1))) .nil))) (fun v2 hv=>?_)
     have hF:=lt_elim hF hv
     refine VR [] [3,4,6,7,8,9,106] [3,4,6,7,8,9] [44,20044,40044,60044] [] [(3,.ptr 3 0),(4,.ptr 4 0),(6,.ptr 6 0),(7,.ptr 7 0),(8,.ptr 8 0),(9,.ptr 9 0),(106,.bool (((decide (m.Term=v1.2.2.1))&&((decide (v1.2.2.2.1=0))||(decide ((w64 (v1.2.2.2.1 - 1))=m.From))))&&(!v2)))] [(3,(c_Mail m)),(4,[.i 0,.i 0,.i 0,.i 0,.nils,.i 0,.i 0,.nils,.nils,.nils]),(6,[.i 0,.i 0]),(7,(c_Fault v)),(8,[.i v1.1,.i v1.2.1,.i v1.2.2.1,.i v1.2.2.2.1,.row 44 1,.i v1.2.2.2.2.2.1,.i v1.2.2.2.2.2.2.1,.row 20044 0,.row 40044 0,.row 60044 0]),(9,[.i 2,.i x.ID,.i m.From,.i v1.2.2.1,.i 0,.i 0,.i 0,.nils,.bool false])] [(44,.z 50 2 1 (v1.2.2.2.2.1.map e_Entry)),(20044,.z 3 1 0 (v1.2.2.2.2.2.2.2.1.map e_i64)),(40044,.z 3 1 0 (v1.2.2.2.2.2.2.2.2.1.map e_i64)),(60044,.z 3 1 0 (v1.2.2.2.2.2.2.2.2.2.map e_i64))] [] .nil ?_
     obtain ⟨v3,hv,hF⟩:=oE hF
     refine NmT (fun Z=>Z.up [4,6,7,8,9] [4,6,7,8,9] [44,20044,40044,60044] [] [] [(8,[.i v1.1,.i v1.2.1,.i v1.2.2.1,.i v3.1,.row 44 1,.i v1.2.2.2.2.2.1,.i v1.2.2.2.2.2.2.1,.row 20044 0,.row 40044 0,.row 60044 0]),(9,(c_Mail v3.2))] [] []) ?_ ?_
     ·have hF:=hv
      refine Nif hF ?_ ?_ <;> intro hb hF
      ·refine LR0 ?_
       refine VR [] [4,6,7,8,9] [4,6,7,8,9] [44,20044,40044,60044] [] [(4,.ptr 4 0),(6,.ptr 6 0),(7,.ptr 7 0),(8,.ptr 8 0),(9,.ptr 9 0)] [(4,[.i 0,.i 0,.i 0,.i 0,.nils,.i 0,.i 0,.nils,.nils,.nils]),(6,[.i 0,.i 0]),(7,(c_Fault v)),(8,[.i v1.1,.i v1.2.1,.i v1.2.2.1,.i (w64 (m.From+1)),.row 44 1,.i v1.2.2.2.2.2.1,.i v1.2.2.2.2.2.2.1,.row 20044 0,.row 40044 0,.row 60044 0]),(9,[.i 2,.i x.ID,.i m.From,.i v1.2.2.1,.i 0,.i 0,.i 0,.nils,.bool true])] [(44,.z 50 2 1 (v1.2.2.2.2.1.map e_Entry)),(20044,.z 3 1 0 (v1.2.2.2.2.2.2.2.1.map e_i64)),(40044,.z 3 1 0 (v1.2.2.2.2.2.2.2.2.1.map e_i64)),(60044,.z 3 1 0 (v1.2.2.2.2.2.2.2.2.2.map e_i64))] [] .nil ?_
       refine Wk_coeB 9 [.i 2,.i x.ID,.i m.From,.i v1.2.2.1,.i 0,.i 0,.i 0,.sl 2 (([]:List Entry).map e_Entry),.bool true] rfl (.cons (CoeS.refl _) (.cons (CoeS.refl _) (.cons (CoeS.refl _) (.cons (CoeS.refl _) (.cons (CoeS.refl _) (.cons (CoeS.refl _) (.cons (CoeS.refl _) (.cons (CoeS.nils 2) (.cons (CoeS.refl _) .nil))))))))) ?_
       cases hF
       exact met' []
      ·refine Wk_coeB 9 [.i 2,.i x.ID,.i m.From,.i v1.2.2.1,.i 0,.i 0,.i 0,.sl 2 (([]:List Entry).map e_Entry),.bool false] rfl (.cons (CoeS.refl _) (.cons (CoeS.refl _) (.cons (CoeS.refl _) (.cons (CoeS.refl _) (.cons (CoeS.refl _) (.cons (CoeS.refl _) (.cons (CoeS.refl _) (.cons (CoeS.nils 2) (.cons (CoeS.refl _) .nil))))))))) ?_
       cases hF
       exact met' []
     ·refine DJ (.a (.sealed) .z) ?_
      cases hF
      exact Wz [] hfin
    ·refine LR0 ?_
     refine Nif hF ?_ ?_ <;> intro hb hF
     ·refine LR0 ?_
      refine Nif hF ?_ ?_ <;> intro hb hF
      ·refine LD0 ?_
       cases hF
       exact Wz [] hfin
      ·obtain ⟨x8,h9,hF⟩:=oE hF
       refine RJ (.b (R_Has_ok h9) .z) ?_
       obtain ⟨v4,hv,hF⟩:=oE hF
       refine NmT (fun Z=>Z.up [4,6,7,8] [4,6,7,8] [44,20044,40044,60044] [] [] [] [(20044,.z 3 1 0 (v4.map e_i64))] []) ?_ ?_
       ·have hF:=hv
        refine Nif hF ?_ ?_ <;> intro hb hF
        ·obtain ⟨h10,hF⟩:=aE hF
         refine RJ (.a (.sealed) (.p e_i64 h10 .z)) ?_
         cases hF
         exact met' [(20044,⟨0,true,true,false⟩)]
        ·cases hF
         exact met' []
       ·obtain ⟨x9,h11,hF⟩:=lS hF
        refine RJ (.l e_i64 v4 (.b (R_Majority_ok h11) .z)) ?_
        refine Nif hF ?_ ?_ <;> intro hb hF
        ·obtain ⟨x10,h12,hF⟩:=oE hF
         refine RJ (.c (R_Leader_ok h12) .z) ?_
         obtain ⟨x11,h13,hF⟩:=oE hF
         have p14:=(Pe.ren (R_Beats_ok h13) ⟨[],[(55,158)],[],[]⟩)
         refine DJ (.e [] [] p14 .z) ?_
         cases hF
         exact Wz [] hfin
        ·refine LD0 ?_
         cases hF
         exact Wz [] hfin
     ·refine LR0 ?_
      refine Nif hF ?_ ?_ <;> intro hb hF
      ·refine LR0 ?_
       refine LR0 ?_
       refine Nif hF ?_ ?_ <;> intro hb hF
       ·refine NDL ([(⟨4,x.ID,m.From,v1.2.2.1,0,0,0,([]:List Entry),false⟩:Mail)]) (fun v5:List Mail=>([(5,.sl 9 (v5.map e_Mail))],[(4,[.i v1.1,.i v1.2.1,.i v1.2.2.1,.i v1.2.2.2.1,.row 44 1,.i v1.2.2.2.2.2.1,.i v1.2.2.2.2.2.2.1,.row 20044 0,.row 40044 0,.row 60044 0]),(6,(c_Fault v))],[],[])) [.sealed] [4,5,6] [4,6] [44,20044,40044,60044] [] .nil (fun v5 hv=>?_)
        have hF:=lt_elim hF hv
        cases hF
        exact Wz [] hfin
       ·refine LR0 ?_
        refine Nif hF ?_ ?_ <;> intro hb hF
        ·refine LD0 ?_
         cases hF
         exact Wz [] hfin
        ·obtain ⟨x12,h15,hF⟩:=oE hF
         have p16:=(Pe.ren (R_Follower_ok h15) ⟨[],[(13,180),(71001,20180),(71002,40180),(71003,60180)],[],[]⟩)
         refine RJ (.e [] [] p16 .z) ?_
         obtain ⟨x13,h17,hF⟩:=oE hF
         have p18:=(Pe.ren (R_PutLog_ok h17) ⟨[],[(55,190)],[],[]⟩)
         refine RJ (.e [] [] p18 .z) ?_
         refine LR0 ?_
         refine Nif hF ?_ ?_ <;> intro hb hF
         ·refine LD0 ?_
          cases hF
          exact Wz [] hfin
         ·refine LR0 ?_
          refine Nif hF ?_ ?_ <;> intro hb hF
          ·refine RJ (.l e_Entry x12.2.2.2.2.1 .z) ?_
           refine VR [] [3,4,6,7,8,9,210] [3,4,6,7,8,9] [180,20180,40180,60180] [] [(3,.ptr 3 0),(4,.ptr 4 0),(6,.ptr 6 0),(7,.ptr 7 0),(8,.ptr 8 0),(9,.ptr 9 0),(210,.bool (decide ((w64 (m.A - 1))<(x12.2.2.2.2.1.length:Int))))] [(3,(c_Mail m)),(4,[.i 0,.i 0,.i 0,.i 0,.nils,.i 0,.i 0,.nils,.nils,.nils]),(6,[.i 0,.i 0]),(7,(c_Fault v)),(8,[.i x12.1,.i x12.2.1,.i x12.2.2.1,.i x12.2.2.2.1,.row 180 1,.i x12.2.2.2.2.2.1,.i x12.2.2.2.2.2.2,.row 20180 0,.row 40180 0,.row 60180 0]),(9,[.i 4,.i x.ID,.i m.From,.i v1.2.2.1,.i (x12.2.2.2.2.1.length:Int),.i 0,.i 0,.nils,.bool false])] [(180,⟨50,2,1,(x12.2.2.2.2.1.map e_Entry).length,0,true,0,[],(x12.2.2.2.2.1.map e_Entry)⟩),(20180,.z 3 1 0 (([]:List Int).map e_i64)),(40180,.z 3 1 0 (([]:List Int).map e_i64)),(60180,.z 3 1 0 (([]:List Int).map e_i64))] [] .nil ?_
           obtain ⟨v6,hv,hF⟩:=oE hF
           refine NmT (fun Z=>Z.up [4,6,7,8,9] [4,6,7,8,9] [180,20180,40180,60180] [] [] [(9,(c_Mail v6))] [] []) ?_ ?_
           ·have hF:=hv
            refine Nif hF ?_ ?_ <;> intro hb hF
            ·refine VR [] [4,6,7,8,9] [4,6,7,8,9] [180,20180,40180,60180] [] [(4,.ptr 4 0),(6,.ptr 6 0),(7,.ptr 7 0),(8,.ptr 8 0),(9,.ptr 9 0)] [(4,[.i 0,.i 0,.i 0,.i 0,.nils,.i 0,.i 0,.nils,.nils,.nils]),(6,[.i 0,.i 0]),(7,(c_Fault v)),(8,[.i x12.1,.i x12.2.1,.i x12.2.2.1,.i x12.2.2.2.1,.row 180 1,.i x12.2.2.2.2.2.1,.i x12.2.2.2.2.2.2,.row 20180 0,.row 40180 0,.row 60180 0]),(9,[.i 4,.i x.ID,.i m.From,.i v1.2.2.1,.i (w64 (m.A - 1)),.i 0,.i 0,.nils,.bool false])] [(180,⟨50,2,1,(x12.2.2.2.2.1.map e_Entry).length,0,true,0,[],(x12.2.2.2.2.1.map e_Entry)⟩),(20180,.z 3 1 0 (([]:List Int).map e_i64)),(40180,.z 3 1 0 (([]:List Int).map e_i64)),(60180,.z 3 1 0 (([]:List Int).map e_i64))] [] .nil ?_
             refine Wk_coeB 9 [.i 4,.i x.ID,.i m.From,.i v1.2.2.1,.i (w64 (m.A - 1)),.i 0,.i 0,.sl 2 (([]:List Entry).map e_Entry),.bool false] rfl (.cons (CoeS.refl _) (.cons (CoeS.refl _) (.cons (CoeS.refl _) (.cons (CoeS.refl _) (.cons (CoeS.refl _) (.cons (CoeS.refl _) (.cons (CoeS.refl _) (.cons (CoeS.nils 2) (.cons (CoeS.refl _) .nil))))))))) ?_
             cases hF
             exact met' []
            ·refine Wk_coeB 9 [.i 4,.i x.ID,.i m.From,.i v1.2.2.1,.i (x12.2.2.2.2.1.length:Int),.i 0,.i 0,.sl 2 (([]:List Entry).map e_Entry),.bool false] rfl (.cons (CoeS.refl _) (.cons (CoeS.refl _) (.cons (CoeS.refl _) (.cons (CoeS.refl _) (.cons (CoeS.refl _) (.cons (CoeS.refl _) (.cons (CoeS.refl _) (.cons (CoeS.nils 2) (.cons (CoeS.refl _) .nil))))))))) ?_
             cases hF
             exact met' []
           ·refine LR0 ?_
            obtain ⟨v7,hv,hF⟩:=oE hF
            refine NmT (fun Z=>Z.up [4,6,7,8,9] [4,6,7,8,9] [180,20180,40180,60180] [] [] [(9,(c_Mail v7))] [] []) ?_ ?_
            ·have hF:=hv
             refine Nif hF ?_ ?_ <;> intro hb hF
             ·refine LR0 ?_
              cases hF
              exact met' []
             ·cases hF
              exact met' []
            ·refine DJ (.a (.sealed) .z) ?_
             cases hF
             exact Wz [] hfin
          ·refine LR0 ?_
           refine NmS (fun v8=>R_TakeNode_J1 x m v v1 x12 x13 v8=some r) (fun Z v8=>Z.up [3,4,6,7,8,9,11] [3,4,6,7,8,9] [180,190,20180,40180,60180] [] [] [] [] []) ?_ ?_
           ·refine Nblk ?_
            unfold R_TakeNode_L1 at hF
            refine Nits hF [] (fun Z v12=>Z.up [3,4,6,7,8,9,11,14] [3,4,6,7,8,9] [180,190,20180,40180,60180] [] [(14,.i v12)] [] [] []) ?_
            intro n1 v12 y1 hF ih1 dn1
            unfold R_TakeNode_B1 at hF
            refine LR0 ?_
            refine Nif hF ?_ ?_ <;> intro hb hF
            ·refine Nblk ?_
             obtain ⟨h19,h20,h21,h22,hF⟩:=asrt4 hF
             refine DJ (.l e_Entry x13.1 (.g (fun (ga0:(!(decide ((x13.1.length:Int)≤v12)))=true)=>(ixr_ok e_Entry (h19 ga0))) (.a (.av (e_Entry (lget x13.1 v12))) (.g (fun (ga0:(!(decide ((x13.1.length:Int)≤v12)))=true)=>(ldr_ok e_Entry (h20 ga0))) (.g (fun (ga0:(!(decide ((x13.1.length:Int)≤v12)))=true)=>(ixr_ok e_Entry (h21 ga0))) (.a (.av (e_Entry (lget x12.2.2.2.2.1 v12))) (.g (fun (ga0:(!(decide ((x13.1.length:Int)≤v12)))=true)=>(ldr_ok e_Entry (h22 ga0))) .z))))))) ?_
             refine Nif hF ?_ ?_ <;> intro hb hF
             ·refine LD0 ?_
              have hF:=ret_done hF dn1
              cases hF
              exact Wz [] hfin
             ·refine LR0 ?_
              exact Nrnq [] hF ih1
            ·refine Nexit rfl ?_
             have hF:=inrO_done hF dn1
             exact metQ () [] hF
           ·intro v8 hF
            unfold R_TakeNode_J1 at hF
            refine LR0 ?_
            refine LR0 ?_
            refine RJ (.l e_Entry m.Entries .z) ?_
            refine LR0 ?_
            refine LR0 ?_
            obtain ⟨v9,hv,hF⟩:=oE hF
            refine NmT (fun Z=>Z.up [4,6,7,8,9,15] [4,6,7,8,9] [190,20180,40180,60180] [] [(15,.i v9)] [] [] []) ?_ ?_
            ·have hF:=hv
             refine Nif hF ?_ ?_ <;> intro hb hF
             ·refine LR0 ?_
              cases hF
              exact met' []
             ·cases hF
              exact met' []
            ·refine LR0 ?_
             obtain ⟨v10,hv,hF⟩:=oE hF
             refine NmT (fun Z=>Z.up [4,6,7,8,9] [4,6,7,8,9] [190,20180,40180,60180] [] [] [(8,[.i x12.1,.i x12.2.1,.i x12.2.2.1,.i x12.2.2.2.1,.row 190 0,.i x12.2.2.2.2.2.1,.i v10,.row 20180 0,.row 40180 0,.row 60180 0])] [] []) ?_ ?_
             ·have hF:=hv
              refine Nif hF ?_ ?_ <;> intro hb hF
              ·refine LR0 ?_
               cases hF
               exact met' []
              ·cases hF
               exact met' []
             ·refine NDL ([(⟨4,x.ID,m.From,v1.2.2.1,w64 (m.A+(m.Entries.length:Int)),0,0,([]:List Entry),true⟩:Mail)]) (fun v11:List Mail=>([(5,.sl 9 (v11.map e_Mail))],[(4,[.i x12.1,.i x12.2.1,.i x12.2.2.1,.i x12.2.2.2.1,.row 190 0,.i x12.2.2.2.2.2.1,.i v10,.row 20180 0,.row 40180 0,.row 60180 0]),(6,(c_Fault v))],[],[])) [.sealed] [4,5,6] [4,6] [190,20180,40180,60180] [] .nil (fun v11 hv=>?_)
              have hF:=lt_elim hF hv
              cases hF
              exact Wz [] hfin
      ·refine LR0 ?_
       refine Nif hF ?_ ?_ <;> intro hb hF
       ·refine LD0 ?_
        cases hF
        exact Wz [] hfin
       ·refine LR0 ?_
        refine LR0 ?_
        refine Nif hF ?_ ?_ <;> intro hb hF
        ·refine LR0 ?_
         refine RJ (.l e_Entry v1.2.2.2.2.1 .z) ?_
         obtain ⟨v13,hv,hF⟩:=oE hF
         refine NmT (fun Z=>Z.up [4,6,7,8,16,17] [4,6,7,8] [44,20044,40044,60044] [] [(17,.i v13)] [] [] []) ?_ ?_
         ·have hF:=hv
          refine Nif hF ?_ ?_ <;> intro hb hF
          ·refine RJ (.l e_Entry v1.2.2.2.2.1 .z) ?_
           cases hF
           exact met' []
          ·cases hF
           exact met' []
         ·obtain ⟨h23,hF⟩:=aE hF
          obtain ⟨h24,hF⟩:=aE hF
          refine RJ (.x e_i64 h23 (.r e_i64 h24 .z)) ?_
          obtain ⟨v14,hv,hF⟩:=oE hF
          refine NmT (fun Z=>Z.up [4,6,7,8,16] [4,6,7,8] [44,20044,40044,60044] [] [] [] [(60044,.z 3 1 0 (v14.map e_i64))] []) ?_ ?_
          ·have hF:=hv
           refine Nif hF ?_ ?_ <;> intro hb hF
           ·obtain ⟨h25,hF⟩:=aE hF
            obtain ⟨h26,hF⟩:=aE hF
            refine RJ (.x e_i64 h25 (.w e_i64 h26 v13 .z)) ?_
            cases hF
            exact met' []
           ·cases hF
            exact met' []
          ·obtain ⟨h27,hF⟩:=aE hF
           obtain ⟨h28,h29,hF⟩:=asrt2 hF
           obtain ⟨h30,hF⟩:=aE hF
           refine DJ (.x e_i64 h27 (.r e_i64 h28 (.x e_i64 h29 (.w e_i64 h30 (w64 ((lget v14 m.From)+1)) .z)))) ?_
           obtain ⟨x14,h31,hF⟩:=oE hF
           refine DJ (.c (R_Counted_ok h31) .z) ?_
           cases hF
           exact Wz [] hfin
        ·obtain ⟨h32,hF⟩:=aE hF
         obtain ⟨h33,hF⟩:=aE hF
         refine RJ (.x e_i64 h32 (.r e_i64 h33 .z)) ?_
         refine LR0 ?_
         obtain ⟨v15,hv,hF⟩:=oE hF
         refine NmT (fun Z=>Z.up [4,6,7,8,16,18] [4,6,7,8] [44,20044,40044,60044] [] [(18,.i v15)] [] [] []) ?_ ?_
         ·have hF:=hv
          refine Nif hF ?_ ?_ <;> intro hb hF
          ·refine LR0 ?_
           cases hF
           exact met' []
          ·cases hF
           exact met' []
         ·obtain ⟨h34,hF⟩:=aE hF
          obtain ⟨h35,hF⟩:=aE hF
          refine RJ (.x e_i64 h34 (.r e_i64 h35 .z)) ?_
          obtain ⟨v16,hv,hF⟩:=oE hF
          refine NmT (fun Z=>Z.up [4,6,7,8,16,18] [4,6,7,8] [44,20044,40044,60044] [] [(18,.i v16)] [] [] []) ?_ ?_
          ·have hF:=hv
           refine Nif hF ?_ ?_ <;> intro hb hF
           ·obtain ⟨h36,hF⟩:=aE hF
            obtain ⟨h37,hF⟩:=aE hF
            refine RJ (.x e_i64 h36 (.r e_i64 h37 .z)) ?_
            cases hF
            exact met' []
           ·cases hF
            exact met' []
          ·obtain ⟨h38,hF⟩:=aE hF
           obtain ⟨h39,hF⟩:=aE hF
           refine RJ (.x e_i64 h38 (.w e_i64 h39 v16 .z)) ?_
           refine LD0 ?_
           cases hF
           exact Wz [] hfin

/- tabularyref.RestartNode -/
def R_RestartNode (x:Node):Option (Int×Int×Int×Int×List Entry×Int×Int×List Int×List Int×List Int×Fault):=
 ob (R_NodeFault x) fun x1=>
 if (!decide (x1.Code=0))=true then
  some (0,0,0,0,([]:List Entry),0,0,([]:List Int),([]:List Int),([]:List Int),x1)
 else
  ob (R_Follower x) fun x2=>
  some (x2.1,x2.2.1,x2.2.2.1,x2.2.2.2.1,x2.2.2.2.2.1,x2.2.2.2.2.2.1,0,([]:List Int),([]:List Int),([]:List Int),x1)
theorem R_RestartNode_ok {x r} (hF:R_RestartNode x=some r):Pe Try.prog 51 (.w []) [.agg (c_Node x)] (.tup [.agg [.i r.1,.i r.2.1,.i r.2.2.1,.i r.2.2.2.1,.row 14 0,.i r.2.2.2.2.2.1,.i r.2.2.2.2.2.2.1,.row 20014 0,.row 40014 0,.row 60014 0],.agg (c_Fault r.2.2.2.2.2.2.2.2.2.2)]) ⟨[],[],[(14,.z 50 2 0 (r.2.2.2.2.1.map e_Entry)),(20014,.z 3 1 0 (r.2.2.2.2.2.2.2.1.map e_i64)),(40014,.z 3 1 0 (r.2.2.2.2.2.2.2.2.1.map e_i64)),(60014,.z 3 1 0 (r.2.2.2.2.2.2.2.2.2.1.map e_i64))],[],[]⟩:=by
 refine PT 18 [.cell 2 48,.cell 3 31] [48,31] Try.func51 ?_
 intro Q g hfin
 unfold R_RestartNode at hF
 refine LR0 ?_
 obtain ⟨x1,h0,hF⟩:=oE hF
 refine RJ (.b (R_NodeFault_ok h0) .z) ?_
 refine LR0 ?_
 refine Nif hF ?_ ?_ <;> intro hb hF
 ·refine VD [] [2,3] [2,3] [] [] [(2,.ptr 2 0),(3,.ptr 3 0)] [(2,[.i 0,.i 0,.i 0,.i 0,.nils,.i 0,.i 0,.nils,.nils,.nils]),(3,(c_Fault x1))] [] [] .nil ?_
  cases hF
  refine Wk_nilrowB 2 4 60000 50 2 rfl rfl rfl rfl rfl ?_
  refine Wk_nilrowB 2 7 60001 3 1 rfl rfl rfl rfl rfl ?_
  refine Wk_nilrowB 2 8 60002 3 1 rfl rfl rfl rfl rfl ?_
  refine Wk_nilrowB 2 9 60003 3 1 rfl rfl rfl rfl rfl ?_
  refine Wk_ren' ⟨[],[(60000,14),(60001,20014),(60002,40014),(60003,60014)],[],[]⟩ rfl ?_
  exact Wz [] hfin
 ·obtain ⟨x2,h1,hF⟩:=oE hF
  have p2:=(Pe.ren (R_Follower_ok h1) ⟨[],[(13,14),(71001,20014),(71002,40014),(71003,60014)],[],[]⟩)
  refine RJ (.e [] [] p2 .z) ?_
  refine LR0 ?_
  refine LD0 ?_
  cases hF
  exact Wz [(14,⟨0,true,true,false⟩)] hfin

/- tabularyref.GameStep -/
def R_GameStep_J1 (g0:Game) (d:Deed) (v:List Mail×Int×Int×Int×Int×Int×Int×List Entry×Int×Int×List Int×List Int×List Int×List Mail×Fault):Option (List Node×List Mail×Int×Int):=
 ob (
  if (((!decide (d.Kind=4))&&(!decide (d.Kind=5)))&&(decide (v.2.2.2.2.2.2.2.2.2.2.2.2.2.2.Code=0)))=true then
   asrt (0≤v.2.2.1∧v.2.2.1<(g0.C0.Nodes.length:Int)) <|
   asrt (0≤v.2.2.1∧v.2.2.1<(g0.C0.Nodes.length:Int)) <|
   lt ((lset g0.C0.Nodes v.2.2.1 (⟨v.2.2.2.1,v.2.2.2.2.1,v.2.2.2.2.2.1,v.2.2.2.2.2.2.1,v.2.2.2.2.2.2.2.1,v.2.2.2.2.2.2.2.2.1,v.2.2.2.2.2.2.2.2.2.1,v.2.2.2.2.2.2.2.2.2.2.1,v.2.2.2.2.2.2.2.2.2.2.2.1,v.2.2.2.2.2.2.2.2.2.2.2.2.1⟩:Node))) fun v2=>
   asrt (((v.1++v.2.2.2.2.2.2.2.2.2.2.2.2.2.1).length:Int)*88≤140737488351232) <|
   some (v2,(v.1++v.2.2.2.2.2.2.2.2.2.2.2.2.2.1))
  else
   some (g0.C0.Nodes,v.1)) fun v1=>
 if (decide (200<(v1.2.length:Int)))=true then
  some (v1.1,v1.2,v.2.1,9)
 else
  some (v1.1,v1.2,v.2.1,0)
def R_GameStep (g0:Game) (texts:List (List UInt8)) (d:Deed):Option (List Node×List Mail×Int×Int):=
 asrt ((g0.C0.Nodes.length:Int)*144≤140737488351232) <|
 asrt ((g0.C0.Way.length:Int)*88≤140737488351232) <|
 if ((decide (d.Kind<0))||(decide (6<d.Kind)))=true then
  some (g0.C0.Nodes,g0.C0.Way,g0.K,4)
 else
  if ((((decide (3≤d.Kind))&&(decide (d.Kind≤5)))&&((decide (d.N<0))||(decide ((g0.C0.Way.length:Int)≤d.N))))||((!((decide (3≤d.Kind))&&(decide (d.Kind≤5))))&&((decide (d.Who<0))||(decide ((g0.C0.Nodes.length:Int)≤d.Who)))))=true then
   some (g0.C0.Nodes,g0.C0.Way,g0.K,3)
  else
   if (decide (d.Kind=0))=true then
    asrt (0≤d.Who∧d.Who<(g0.C0.Nodes.length:Int)) <|
    ob (R_StandNode (⟨(lget g0.C0.Nodes d.Who).N,(lget g0.C0.Nodes d.Who).ID,(lget g0.C0.Nodes d.Who).Term,(lget g0.C0.Nodes d.Who).Vote,(lget g0.C0.Nodes d.Who).Log,(lget g0.C0.Nodes d.Who).Role,(lget g0.C0.Nodes d.Who).Commit,(lget g0.C0.Nodes d.Who).Votes,(lget g0.C0.Nodes d.Who).Next,(lget g0.C0.Nodes d.Who).Have⟩:Node)) fun x=>
    R_GameStep_J1 g0 d (g0.C0.Way,g0.K,d.Who,x.1.N,x.1.ID,x.1.Term,x.1.Vote,x.1.Log,x.1.Role,x.1.Commit,x.1.Votes,x.1.Next,x.1.Have,x.2.1,x.2.2)
   else
    if (decide (d.Kind=1))=true then
     if (decide ((texts.length:Int)≤g0.K))=true then
      some (g0.C0.Nodes,g0.C0.Way,g0.K,6)
     else
      asrt (0≤d.Who∧d.Who<(g0.C0.Nodes.length:Int)) <|
      asrt (0≤g0.K∧g0.K<(texts.length:Int)) <|
      ob (R_ProposeNode (⟨(lget g0.C0.Nodes d.Who).N,(lget g0.C0.Nodes d.Who).ID,(lget g0.C0.Nodes d.Who).Term,(lget g0.C0.Nodes d.Who).Vote,(lget g0.C0.Nodes d.Who).Log,(lget g0.C0.Nodes d.Who).Role,(lget g0.C0.Nodes d.Who).Commit,(lget g0.C0.Nodes d.Who).Votes,(lget g0.C0.Nodes d.Who).Next,(lget g0.C0.Nodes d.Who).Have⟩:Node) (lget texts g0.K)) fun x1=>
      if (decide (x1.2.Code=0))=true then
       R_GameStep_J1 g0 d (g0.C0.Way,w64 (g0.K+1),d.Who,x1.1.N,x1.1.ID,x1.1.Term,x1.1.Vote,x1.1.Log,x1.1.Role,x1.1.Commit,x1.1.Votes,x1.1.Next,x1.1.Have,([]:List Mail),x1.2)
      else
       R_GameStep_J1 g0 d (g0.C0.Way,g0.K,d.Who,x1.1.N,x1.1.ID,x1.1.Term,x1.1.Vote,x1.1.Log,x1.1.Role,x1.1.Commit,x1.1.Votes,x1.1.Next,x1.1.Have,([]:List Mail),x1.2)
    else
     if (decide (d.Kind=2))=true then
      asrt (0≤d.Who∧d.Who<(g0.C0.Nodes.length:Int)) <|
      ob (R_BeatNode (⟨(lget g0.C0.Nodes d.Who).N,(lget g0.C0.Nodes d.Who).ID,(lget g0.C0.Nodes d.Who).Term,(lget g0.C0.Nodes d.Who).Vote,(lget g0.C0.Nodes d.Who).Log,(lget g0.C0.Nodes d.Who).Role,(lget g0.C0.Nodes d.Who).Commit,(lget g0.C0.Nodes d.Who).Votes,(lget g0.C0.Nodes d.Who).Next,(lget g0.C0.Nodes d.Who).Have⟩:Node)) fun x2=>
      R_GameStep_J1 g0 d (g0.C0.Way,g0.K,d.Who,(lget g0.C0.Nodes d.Who).N,(lget g0.C0.Nodes d.Who).ID,(lget g0.C0.Nodes d.Who).Term,(lget g0.C0.Nodes d.Who).Vote,(lget g0.C0.Nodes d.Who).Log,(lget g0.C0.Nodes d.Who).Role,(lget g0.C0.Nodes d.Who).Commit,(lget g0.C0.Nodes d.Who).Votes,(lget g0.C0.Nodes d.Who).Next,(lget g0.C0.Nodes d.Who).Have,x2.1,x2.2)
     else
      if (decide (d.Kind=3))=true then
       asrt (0≤d.N∧d.N<(g0.C0.Way.length:Int)) <|
       ob (R_Without g0.C0.Way d.N) fun x3=>
       asrt (0≤(lget g0.C0.Way d.N).To∧(lget g0.C0.Way d.N).To<(g0.C0.Nodes.length:Int)) <|
       ob (R_TakeNode (⟨(lget g0.C0.Nodes ((lget g0.C0.Way d.N).To)).N,(lget g0.C0.Nodes ((lget g0.C0.Way d.N).To)).ID,(lget g0.C0.Nodes ((lget g0.C0.Way d.N).To)).Term,(lget g0.C0.Nodes ((lget g0.C0.Way d.N).To)).Vote,(lget g0.C0.Nodes ((lget g0.C0.Way d.N).To)).Log,(lget g0.C0.Nodes ((lget g0.C0.Way d.N).To)).Role,(lget g0.C0.Nodes ((lget g0.C0.Way d.N).To)).Commit,(lget g0.C0.Nodes ((lget g0.C0.Way d.N).To)).Votes,(lget g0.C0.Nodes ((lget g0.C0.Way d.N).To)).Next,(lget g0.C0.Nodes ((lget g0.C0.Way d.N).To)).Have⟩:Node) (⟨(lget g0.C0.Way d.N).Kind,(lget g0.C0.Way d.N).From,(lget g0.C0.Way d.N).To,(lget g0.C0.Way d.N).Term,(lget g0.C0.Way d.N).A,(lget g0.C0.Way d.N).B,(lget g0.C0.Way d.N).C0,(lget g0.C0.Way d.N).Entries,(lget g0.C0.Way d.N).Ok⟩:Mail)) fun x4=>
       R_GameStep_J1 g0 d (x3,g0.K,(lget g0.C0.Way d.N).To,x4.1,x4.2.1,x4.2.2.1,x4.2.2.2.1,x4.2.2.2.2.1,x4.2.2.2.2.2.1,x4.2.2.2.2.2.2.1,x4.2.2.2.2.2.2.2.1,x4.2.2.2.2.2.2.2.2.1,x4.2.2.2.2.2.2.2.2.2.1,x4.2.2.2.2.2.2.2.2.2.2.1,x4.2.2.2.2.2.2.2.2.2.2.2)
      else
       if (decide (d.Kind=4))=true then
        asrt (0≤d.N∧d.N<(g0.C0.Way.length:Int)) <|
        asrt (((g0.C0.Way++[(⟨(lget g0.C0.Way d.N).Kind,(lget g0.C0.Way d.N).From,(lget g0.C0.Way d.N).To,(lget g0.C0.Way d.N).Term,(lget g0.C0.Way d.N).A,(lget g0.C0.Way d.N).B,(lget g0.C0.Way d.N).C0,(lget g0.C0.Way d.N).Entries,(lget g0.C0.Way d.N).Ok⟩:Mail)]).length:Int)*88≤140737488351232) <|
        lt ((g0.C0.Way++[(⟨(lget g0.C0.Way d.N).Kind,(lget g0.C0.Way d.N).From,(lget g0.C0.Way d.N).To,(lget g0.C0.Way d.N).Term,(lget g0.C0.Way d.N).A,(lget g0.C0.Way d.N).B,(lget g0.C0.Way d.N).C0,(lget g0.C0.Way d.N).Entries,(lget g0.C0.Way d.N).Ok⟩:Mail)])) fun v3=>
        R_GameStep_J1 g0 d (v3,g0.K,d.Who,0,0,0,0,([]:List Entry),0,0,([]:List Int),([]:List Int),([]:List Int),([]:List Mail),(⟨0,0⟩:Fault))
       else
        if (decide (d.Kind=5))=true then
         ob (R_Without g0.C0.Way d.N) fun x5=>
         R_GameStep_J1 g0 d (x5,g0.K,d.Who,0,0,0,0,([]:List Entry),0,0,([]:List Int),([]:List Int),([]:List Int),([]:List Mail),(⟨0,0⟩:Fault))
        else
         if (decide (d.Kind=6))=true then
          asrt (0≤d.Who∧d.Who<(g0.C0.Nodes.length:Int)) <|
          ob (R_RestartNode (⟨(lget g0.C0.Nodes d.Who).N,(lget g0.C0.Nodes d.Who).ID,(lget g0.C0.Nodes d.Who).Term,(lget g0.C0.Nodes d.Who).Vote,(lget g0.C0.Nodes d.Who).Log,(lget g0.C0.Nodes d.Who).Role,(lget g0.C0.Nodes d.Who).Commit,(lget g0.C0.Nodes d.Who).Votes,(lget g0.C0.Nodes d.Who).Next,(lget g0.C0.Nodes d.Who).Have⟩:Node)) fun x6=>
          R_GameStep_J1 g0 d (g0.C0.Way,g0.K,d.Who,x6.1,x6.2.1,x6.2.2.1,x6.2.2.2.1,x6.2.2.2.2.1,x6.2.2.2.2.2.1,x6.2.2.2.2.2.2.1,x6.2.2.2.2.2.2.2.1,x6.2.2.2.2.2.2.2.2.1,x6.2.2.2.2.2.2.2.2.2.1,([]:List Mail),x6.2.2.2.2.2.2.2.2.2.2)
         else
          R_GameStep_J1 g0 d (g0.C0.Way,g0.K,d.Who,0,0,0,0,([]:List Entry),0,0,([]:List Int),([]:List Int),([]:List Int),([]:List Mail),(⟨0,0⟩:Fault))
theorem R_GameStep_ok {g0 texts d r} (hF:R_GameStep g0 texts d=some r):Pe Try.prog 23 (.w []) [.agg (c_Game g0),.sl 1 (texts.map e_str),.agg (c_Deed d)] (.tup [.agg [.row 24 1,.row 33 0,.i r.2.2.1],.i r.2.2.2]) ⟨[],[],[(24,.z 48 10 1 (r.1.map e_Node)),(33,.z 91 9 0 (r.2.1.map e_Mail))],[],[]⟩:=by
 refine PT 250 [.cell 6 42,.tmp 7] [42,3] Try.func23 ?_
 intro Q g hfin
 unfold R_GameStep at hF
 refine LR0 ?_
 refine LR0 ?_
 obtain ⟨h0,hF⟩:=aE hF
 refine RJ (.p0 e_Node h0 .z) ?_
 obtain ⟨h1,hF⟩:=aE hF
 refine RJ (.p0 e_Mail h1 .z) ?_
 refine LR0 ?_
 refine Nif hF ?_ ?_ <;> intro hb hF
 ·refine LR0 ?_
  cases hF
  exact Wz [(33,⟨0,true,true,false⟩)] hfin
 ·refine LR0 ?_
  refine RJ (.a (.nat (g0.C0.Way.length:Int)) (.g (fun (_:(!(decide (d.N<0)))=true) (_:((decide (3≤d.Kind))&&(decide (d.Kind≤5)))=true)=>(len_ok e_Mail g0.C0.Way)) (.a (.nat (g0.C0.Nodes.length:Int)) (.g (fun (_:(!(decide (d.Who<0)))=true) (_:(!((decide (3≤d.Kind))&&(decide (d.Kind≤5))))=true) (_:(!(((decide (3≤d.Kind))&&(decide (d.Kind≤5)))&&((decide (d.N<0))||(decide ((g0.C0.Way.length:Int)≤d.N)))))=true)=>(len_ok e_Node g0.C0.Nodes)) .z)))) ?_
  refine Nif hF ?_ ?_ <;> intro hb hF
  ·refine LR0 ?_
   cases hF
   exact Wz [(33,⟨0,true,true,false⟩)] hfin
  ·refine LR0 ?_
   refine LR0 ?_
   refine LR0 ?_
   refine LR0 ?_
   refine LR0 ?_
   refine Nblk ?_
   refine LR0 ?_
   refine NmS (fun v=>R_GameStep_J1 g0 d v=some r) (fun Z v=>Z.up [5,6,8,10,11,12,13] [5,6,8,11,13] [24,33] [] [(10,.i v.2.2.1),(12,.sl 9 (v.2.2.2.2.2.2.2.2.2.2.2.2.2.1.map e_Mail))] [(8,[.row 24 1,.row 33 0,.i v.2.1]),(11,[.i v.2.2.2.1,.i v.2.2.2.2.1,.i v.2.2.2.2.2.1,.i v.2.2.2.2.2.2.1,.sl 2 (v.2.2.2.2.2.2.2.1.map e_Entry),.i v.2.2.2.2.2.2.2.2.1,.i v.2.2.2.2.2.2.2.2.2.1,.sl 1 (v.2.2.2.2.2.2.2.2.2.2.1.map e_i64),.sl 1 (v.2.2.2.2.2.2.2.2.2.2.2.1.map e_i64),.sl 1 (v.2.2.2.2.2.2.2.2.2.2.2.2.1.map e_i64)]),(13,(c_Fault v.2.2.2.2.2.2.2.2.2.2.2.2.2.2))] [(33,.z 91 9 0 (v.1.map e_Mail))] []) ?_ ?_
   ·refine Nif hF ?_ ?_ <;> intro hb hF
    ·obtain ⟨h5,hF⟩:=aE hF
     obtain ⟨x,h6,hF⟩:=oE hF
     have p7:=(Pe.ren (R_StandNode_ok h6) ⟨[],[(73,101)],[],[]⟩)
     refine VR [.av (e_Node (lget g0.C0.Nodes d.Who)),cE [] [] [] [] p7] [5,6,8,10,11,12,13] [5,6,8,11,13] [24,33,101] [] [(5,.ptr 5 0),(6,.ptr 6 0),(8,.ptr 8 0),(10,.i d.Who),(11,.ptr 11 0),(12,.row 101 0),(13,.ptr 13 0)] [(5,(c_Deed d)),(6,[.nils,.nils,.i 0]),(8,[.row 24 1,.row 33 1,.i g0.K]),(11,(c_Node x.1)),(13,(c_Fault x.2.2))] [(24,.z 48 10 1 (g0.C0.Nodes.map e_Node)),(33,.z 91 9 1 (g0.C0.Way.map e_Mail)),(101,.z 91 9 0 (x.2.1.map e_Mail))] [] (hc (idx_ok e_Node h5) (hc p7 .nil)) ?_
     refine Wk_sealX [] 12 rfl rfl ?_
     exact metQ (g0.C0.Way,g0.K,d.Who,x.1.N,x.1.ID,x.1.Term,x.1.Vote,x.1.Log,x.1.Role,x.1.Commit,x.1.Votes,x.1.Next,x.1.Have,x.2.1,x.2.2) [(33,⟨0,true,true,false⟩)] hF
    ·refine LR0 ?_
     refine Nif hF ?_ ?_ <;> intro hb hF
     ·refine RJ (.l e_str texts .z) ?_
      refine Nif hF ?_ ?_ <;> intro hb hF
      ·refine LR0 ?_
       cases hF
       exact Wz [(33,⟨0,true,true,false⟩)] hfin
      ·obtain ⟨h8,hF⟩:=aE hF
       obtain ⟨h9,hF⟩:=aE hF
       obtain ⟨x1,h10,hF⟩:=oE hF
       refine DJ (.i e_Node h8 (.i e_str h9 (.c (R_ProposeNode_ok h10) .z))) ?_
       refine VR [] [3,5,6,8,10,11,12,13,130] [3,5,6,8,11,13] [24,33] [] [(3,.ptr 3 0),(5,.ptr 5 0),(6,.ptr 6 0),(8,.ptr 8 0),(10,.i d.Who),(11,.ptr 11 0),(12,.nils),(13,.ptr 13 0),(130,.bool (decide (x1.2.Code=0)))] [(3,(c_Game g0)),(5,(c_Deed d)),(6,[.nils,.nils,.i 0]),(8,[.row 24 1,.row 33 1,.i g0.K]),(11,(c_Node x1.1)),(13,(c_Fault x1.2))] [(24,.z 48 10 1 (g0.C0.Nodes.map e_Node)),(33,.z 91 9 1 (g0.C0.Way.map e_Mail))] [] .nil ?_
       refine Nif hF ?_ ?_ <;> intro hb hF
       ·refine VR [] [5,6,8,10,11,12,13] [5,6,8,11,13] [24,33] [] [(5,.ptr 5 0),(6,.ptr 6 0),(8,.ptr 8 0),(10,.i d.Who),(11,.ptr 11 0),(12,.nils),(13,.ptr 13 0)] [(5,(c_Deed d)),(6,[.nils,.nils,.i 0]),(8,[.row 24 1,.row 33 1,.i (w64 (g0.K+1))]),(11,(c_Node x1.1)),(13,(c_Fault x1.2))] [(24,.z 48 10 1 (g0.C0.Nodes.map e_Node)),(33,.z 91 9 1 (g0.C0.Way.map e_Mail))] [] .nil ?_
        refine Wk_coe 12 (.sl 9 (([]:List Mail).map e_Mail)) rfl (.cell rfl (CoeS.nils 9)) ?_
        exact metQ (g0.C0.Way,w64 (g0.K+1),d.Who,x1.1.N,x1.1.ID,x1.1.Term,x1.1.Vote,x1.1.Log,x1.1.Role,x1.1.Commit,x1.1.Votes,x1.1.Next,x1.1.Have,([]:List Mail),x1.2) [(33,⟨0,true,true,false⟩)] hF
       ·refine Wk_coe 12 (.sl 9 (([]:List Mail).map e_Mail)) rfl (.cell rfl (CoeS.nils 9)) ?_
        exact metQ (g0.C0.Way,g0.K,d.Who,x1.1.N,x1.1.ID,x1.1.Term,x1.1.Vote,x1.1.Log,x1.1.Role,x1.1.Commit,x1.1.Votes,x1.1.Next,x1.1.Have,([]:List Mail),x1.2) [(33,⟨0,true,true,false⟩)] hF
     ·refine LR0 ?_
      refine Nif hF ?_ ?_ <;> intro hb hF
      ·obtain ⟨h11,hF⟩:=aE hF
       refine RJ (.i e_Node h11 .z) ?_
       obtain ⟨x2,h12,hF⟩:=oE hF
       have p13:=(Pe.ren (R_BeatNode_ok h12) ⟨[],[(21,145)],[],[]⟩)
       refine VR [cE [] [] [] [] p13] [5,6,8,10,11,12,13] [5,6,8,11,13] [24,33,145] [] [(5,.ptr 5 0),(6,.ptr 6 0),(8,.ptr 8 0),(10,.i d.Who),(11,.ptr 11 0),(12,.row 145 0),(13,.ptr 13 0)] [(5,(c_Deed d)),(6,[.nils,.nils,.i 0]),(8,[.row 24 1,.row 33 1,.i g0.K]),(11,(c_Node (lget g0.C0.Nodes d.Who))),(13,(c_Fault x2.2))] [(24,.z 48 10 1 (g0.C0.Nodes.map e_Node)),(33,.z 91 9 1 (g0.C0.Way.map e_Mail)),(145,.z 91 9 0 (x2.1.map e_Mail))] [] (hc p13 .nil) ?_
       refine Wk_sealX [] 12 rfl rfl ?_
       exact metQ (g0.C0.Way,g0.K,d.Who,(lget g0.C0.Nodes d.Who).N,(lget g0.C0.Nodes d.Who).ID,(lget g0.C0.Nodes d.Who).Term,(lget g0.C0.Nodes d.Who).Vote,(lget g0.C0.Nodes d.Who).Log,(lget g0.C0.Nodes d.Who).Role,(lget g0.C0.Nodes d.Who).Commit,(lget g0.C0.Nodes d.Who).Votes,(lget g0.C0.Nodes d.Who).Next,(lget g0.C0.Nodes d.Who).Have,x2.1,x2.2) [(33,⟨0,true,true,false⟩)] hF
      ·refine LR0 ?_
       refine Nif hF ?_ ?_ <;> intro hb hF
       ·obtain ⟨h14,hF⟩:=aE hF
        refine RJ (.i e_Mail h14 .z) ?_
        obtain ⟨x3,h15,hF⟩:=oE hF
        have p16:=(Pe.ren (R_Without_ok h15) ⟨[],[(22,162)],[],[]⟩)
        refine RJ (.e [] [] p16 .z) ?_
        refine LR0 ?_
        obtain ⟨h17,hF⟩:=aE hF
        obtain ⟨x4,h18,hF⟩:=oE hF
        refine VD [.av (e_Node (lget g0.C0.Nodes ((lget g0.C0.Way d.N).To))),.call (.tup [.agg [.i x4.1,.i x4.2.1,.i x4.2.2.1,.i x4.2.2.2.1,.sl 2 (x4.2.2.2.2.1.map e_Entry),.i x4.2.2.2.2.2.1,.i x4.2.2.2.2.2.2.1,.sl 1 (x4.2.2.2.2.2.2.2.1.map e_i64),.sl 1 (x4.2.2.2.2.2.2.2.2.1.map e_i64),.sl 1 (x4.2.2.2.2.2.2.2.2.2.1.map e_i64)],.sl 9 (x4.2.2.2.2.2.2.2.2.2.2.1.map e_Mail),.agg (c_Fault x4.2.2.2.2.2.2.2.2.2.2.2)])] [5,6,8,10,11,12,13] [5,6,8,11,13] [24,162] [] [(5,.ptr 5 0),(6,.ptr 6 0),(8,.ptr 8 0),(10,.i ((lget g0.C0.Way d.N).To)),(11,.ptr 11 0),(12,.sl 9 (x4.2.2.2.2.2.2.2.2.2.2.1.map e_Mail)),(13,.ptr 13 0)] [(5,(c_Deed d)),(6,[.nils,.nils,.i 0]),(8,[.row 24 1,.row 162 0,.i g0.K]),(11,[.i x4.1,.i x4.2.1,.i x4.2.2.1,.i x4.2.2.2.1,.sl 2 (x4.2.2.2.2.1.map e_Entry),.i x4.2.2.2.2.2.1,.i x4.2.2.2.2.2.2.1,.sl 1 (x4.2.2.2.2.2.2.2.1.map e_i64),.sl 1 (x4.2.2.2.2.2.2.2.2.1.map e_i64),.sl 1 (x4.2.2.2.2.2.2.2.2.2.1.map e_i64)]),(13,(c_Fault x4.2.2.2.2.2.2.2.2.2.2.2))] [(24,.z 48 10 1 (g0.C0.Nodes.map e_Node)),(162,.z 91 9 0 (x3.map e_Mail))] [] (hc (idx_ok e_Node h17) (hc (R_TakeNode_ok h18) .nil)) ?_
        refine Wk_trim (fs:=[5,6,8,10,11,12,13]) (bs:=[5,6,8,11,13]) (rs:=[24,162]) (ms:=[]) (aa:=[]) (nv:=[]) rfl ?_
        refine Wk_ren' ⟨[],[(162,33)],[],[]⟩ rfl ?_
        exact metQ (x3,g0.K,(lget g0.C0.Way d.N).To,x4.1,x4.2.1,x4.2.2.1,x4.2.2.2.1,x4.2.2.2.2.1,x4.2.2.2.2.2.1,x4.2.2.2.2.2.2.1,x4.2.2.2.2.2.2.2.1,x4.2.2.2.2.2.2.2.2.1,x4.2.2.2.2.2.2.2.2.2.1,x4.2.2.2.2.2.2.2.2.2.2.1,x4.2.2.2.2.2.2.2.2.2.2.2) [] hF
       ·refine LR0 ?_
        refine Nif hF ?_ ?_ <;> intro hb hF
        ·obtain ⟨h19,hF⟩:=aE hF
         obtain ⟨h20,hF⟩:=aE hF
         refine NDL ((g0.C0.Way++[(⟨(lget g0.C0.Way d.N).Kind,(lget g0.C0.Way d.N).From,(lget g0.C0.Way d.N).To,(lget g0.C0.Way d.N).Term,(lget g0.C0.Way d.N).A,(lget g0.C0.Way d.N).B,(lget g0.C0.Way d.N).C0,(lget g0.C0.Way d.N).Entries,(lget g0.C0.Way d.N).Ok⟩:Mail)])) (fun v3:List Mail=>([(5,.ptr 5 0),(6,.ptr 6 0),(8,.ptr 8 0),(10,.i d.Who),(11,.ptr 11 0),(12,.nils),(13,.ptr 13 0)],[(5,(c_Deed d)),(6,[.nils,.nils,.i 0]),(8,[.row 24 1,.row 33 2,.i g0.K]),(11,[.i 0,.i 0,.i 0,.i 0,.nils,.i 0,.i 0,.nils,.nils,.nils]),(13,[.i 0,.i 0])],[(24,.z 48 10 1 (g0.C0.Nodes.map e_Node)),(33,.z 91 9 2 (v3.map e_Mail))],[])) [.av (e_Mail (lget g0.C0.Way d.N)),.sealed,.xs ((g0.C0.Way++[(⟨(lget g0.C0.Way d.N).Kind,(lget g0.C0.Way d.N).From,(lget g0.C0.Way d.N).To,(lget g0.C0.Way d.N).Term,(lget g0.C0.Way d.N).A,(lget g0.C0.Way d.N).B,(lget g0.C0.Way d.N).C0,(lget g0.C0.Way d.N).Entries,(lget g0.C0.Way d.N).Ok⟩:Mail)]).map e_Mail)] [5,6,8,10,11,12,13] [5,6,8,11,13] [24,33] [] (hc (idx_ok e_Mail h19) (hc (app_ok e_Mail g0.C0.Way [(⟨(lget g0.C0.Way d.N).Kind,(lget g0.C0.Way d.N).From,(lget g0.C0.Way d.N).To,(lget g0.C0.Way d.N).Term,(lget g0.C0.Way d.N).A,(lget g0.C0.Way d.N).B,(lget g0.C0.Way d.N).C0,(lget g0.C0.Way d.N).Entries,(lget g0.C0.Way d.N).Ok⟩:Mail)]) (hc (appl_ok e_Mail h20) .nil))) (fun v3 hv=>?_)
         have hF:=lt_elim hF hv
         refine Wk_coe 12 (.sl 9 (([]:List Mail).map e_Mail)) rfl (.cell rfl (CoeS.nils 9)) ?_
         refine Wk_coeB 11 [.i 0,.i 0,.i 0,.i 0,.sl 2 (([]:List Entry).map e_Entry),.i 0,.i 0,.sl 1 (([]:List Int).map e_i64),.sl 1 (([]:List Int).map e_i64),.sl 1 (([]:List Int).map e_i64)] rfl (.cons (CoeS.refl _) (.cons (CoeS.refl _) (.cons (CoeS.refl _) (.cons (CoeS.refl _) (.cons (CoeS.nils 2) (.cons (CoeS.refl _) (.cons (CoeS.refl _) (.cons (CoeS.nils 1) (.cons (CoeS.nils 1) (.cons (CoeS.nils 1) .nil)))))))))) ?_
         exact metQ (v3,g0.K,d.Who,0,0,0,0,([]:List Entry),0,0,([]:List Int),([]:List Int),([]:List Int),([]:List Mail),(⟨0,0⟩:Fault)) [(33,⟨0,true,true,false⟩)] hF
        ·refine LR0 ?_
         refine Nif hF ?_ ?_ <;> intro hb hF
         ·obtain ⟨x5,h21,hF⟩:=oE hF
          have p22:=(Pe.ren (R_Without_ok h21) ⟨[],[(22,202)],[],[]⟩)
          refine VR [cE [] [] [] [] p22] [5,6,8,10,11,12,13] [5,6,8,11,13] [24,202] [] [(5,.ptr 5 0),(6,.ptr 6 0),(8,.ptr 8 0),(10,.i d.Who),(11,.ptr 11 0),(12,.nils),(13,.ptr 13 0)] [(5,(c_Deed d)),(6,[.nils,.nils,.i 0]),(8,[.row 24 1,.row 202 0,.i g0.K]),(11,[.i 0,.i 0,.i 0,.i 0,.nils,.i 0,.i 0,.nils,.nils,.nils]),(13,[.i 0,.i 0])] [(24,.z 48 10 1 (g0.C0.Nodes.map e_Node)),(202,.z 91 9 0 (x5.map e_Mail))] [] (hc p22 .nil) ?_
          refine Wk_coe 12 (.sl 9 (([]:List Mail).map e_Mail)) rfl (.cell rfl (CoeS.nils 9)) ?_
          refine Wk_coeB 11 [.i 0,.i 0,.i 0,.i 0,.sl 2 (([]:List Entry).map e_Entry),.i 0,.i 0,.sl 1 (([]:List Int).map e_i64),.sl 1 (([]:List Int).map e_i64),.sl 1 (([]:List Int).map e_i64)] rfl (.cons (CoeS.refl _) (.cons (CoeS.refl _) (.cons (CoeS.refl _) (.cons (CoeS.refl _) (.cons (CoeS.nils 2) (.cons (CoeS.refl _) (.cons (CoeS.refl _) (.cons (CoeS.nils 1) (.cons (CoeS.nils 1) (.cons (CoeS.nils 1) .nil)))))))))) ?_
          refine Wk_trim (fs:=[5,6,8,10,11,12,13]) (bs:=[5,6,8,11,13]) (rs:=[24,202]) (ms:=[]) (aa:=[]) (nv:=[]) rfl ?_
          refine Wk_ren' ⟨[],[(202,33)],[],[]⟩ rfl ?_
          exact metQ (x5,g0.K,d.Who,0,0,0,0,([]:List Entry),0,0,([]:List Int),([]:List Int),([]:List Int),([]:List Mail),(⟨0,0⟩:Fault)) [] hF
         ·refine VR [] [3,5,6,8,10,11,12,13,205] [3,5,6,8,11,13] [24,33] [] [(3,.ptr 3 0),(5,.ptr 5 0),(6,.ptr 6 0),(8,.ptr 8 0),(10,.i d.Who),(11,.ptr 11 0),(12,.nils),(13,.ptr 13 0),(205,.bool (decide (d.Kind=6)))] [(3,(c_Game g0)),(5,(c_Deed d)),(6,[.nils,.nils,.i 0]),(8,[.row 24 1,.row 33 1,.i g0.K]),(11,[.i 0,.i 0,.i 0,.i 0,.nils,.i 0,.i 0,.nils,.nils,.nils]),(13,[.i 0,.i 0])] [(24,.z 48 10 1 (g0.C0.Nodes.map e_Node)),(33,.z 91 9 1 (g0.C0.Way.map e_Mail))] [] .nil ?_
          refine Nif hF ?_ ?_ <;> intro hb hF
          ·obtain ⟨h23,hF⟩:=aE hF
           obtain ⟨x6,h24,hF⟩:=oE hF
           have p25:=(Pe.ren (R_RestartNode_ok h24) ⟨[],[(14,214),(20014,20214),(40014,40214),(60014,60214)],[],[]⟩)
           refine VR [.av (e_Node (lget g0.C0.Nodes d.Who)),cE [] [] [] [] p25] [5,6,8,10,11,12,13] [5,6,8,11,13] [24,33,214,20214,40214,60214] [] [(5,.ptr 5 0),(6,.ptr 6 0),(8,.ptr 8 0),(10,.i d.Who),(11,.ptr 11 0),(12,.nils),(13,.ptr 13 0)] [(5,(c_Deed d)),(6,[.nils,.nils,.i 0]),(8,[.row 24 1,.row 33 1,.i g0.K]),(11,[.i x6.1,.i x6.2.1,.i x6.2.2.1,.i x6.2.2.2.1,.row 214 0,.i x6.2.2.2.2.2.1,.i x6.2.2.2.2.2.2.1,.row 20214 0,.row 40214 0,.row 60214 0]),(13,(c_Fault x6.2.2.2.2.2.2.2.2.2.2))] [(24,.z 48 10 1 (g0.C0.Nodes.map e_Node)),(33,.z 91 9 1 (g0.C0.Way.map e_Mail)),(214,.z 50 2 0 (x6.2.2.2.2.1.map e_Entry)),(20214,.z 3 1 0 (x6.2.2.2.2.2.2.2.1.map e_i64)),(40214,.z 3 1 0 (x6.2.2.2.2.2.2.2.2.1.map e_i64)),(60214,.z 3 1 0 (x6.2.2.2.2.2.2.2.2.2.1.map e_i64))] [] (hc (idx_ok e_Node h23) (hc p25 .nil)) ?_
           refine Wk_coe 12 (.sl 9 (([]:List Mail).map e_Mail)) rfl (.cell rfl (CoeS.nils 9)) ?_
           refine Wk_sealBX [] 11 rfl rfl ?_
           exact metQ (g0.C0.Way,g0.K,d.Who,x6.1,x6.2.1,x6.2.2.1,x6.2.2.2.1,x6.2.2.2.2.1,x6.2.2.2.2.2.1,x6.2.2.2.2.2.2.1,x6.2.2.2.2.2.2.2.1,x6.2.2.2.2.2.2.2.2.1,x6.2.2.2.2.2.2.2.2.2.1,([]:List Mail),x6.2.2.2.2.2.2.2.2.2.2) [(33,⟨0,true,true,false⟩)] hF
          ·refine Wk_coe 12 (.sl 9 (([]:List Mail).map e_Mail)) rfl (.cell rfl (CoeS.nils 9)) ?_
           refine Wk_coeB 11 [.i 0,.i 0,.i 0,.i 0,.sl 2 (([]:List Entry).map e_Entry),.i 0,.i 0,.sl 1 (([]:List Int).map e_i64),.sl 1 (([]:List Int).map e_i64),.sl 1 (([]:List Int).map e_i64)] rfl (.cons (CoeS.refl _) (.cons (CoeS.refl _) (.cons (CoeS.refl _) (.cons (CoeS.refl _) (.cons (CoeS.nils 2) (.cons (CoeS.refl _) (.cons (CoeS.refl _) (.cons (CoeS.nils 1) (.cons (CoeS.nils 1) (.cons (CoeS.nils 1) .nil)))))))))) ?_
           exact metQ (g0.C0.Way,g0.K,d.Who,0,0,0,0,([]:List Entry),0,0,([]:List Int),([]:List Int),([]:List Int),([]:List Mail),(⟨0,0⟩:Fault)) [(33,⟨0,true,true,false⟩)] hF
   ·intro v hF
    unfold R_GameStep_J1 at hF
    refine LR0 ?_
    obtain ⟨v1,hv,hF⟩:=oE hF
    refine NmT (fun Z=>Z.up [6,8] [6,8] [24,33] [] [] [] [(24,.z 48 10 1 (v1.1.map e_Node)),(33,.z 91 9 0 (v1.2.map e_Mail))] []) ?_ ?_
    ·have hF:=hv
     refine Nif hF ?_ ?_ <;> intro hb hF
     ·obtain ⟨h2,hF⟩:=aE hF
      obtain ⟨h3,hF⟩:=aE hF
      obtain ⟨v2,hv,hF⟩:=lS hF
      refine RJ (.x e_Node h2 (.wN e_Node h3 hv .z)) ?_
      obtain ⟨h4,hF⟩:=aE hF
      refine RJ (.p e_Mail h4 .z) ?_
      cases hF
      exact met' [(33,⟨0,true,true,false⟩)]
     ·cases hF
      exact met' []
    ·refine RJ (.l e_Mail v1.2 .z) ?_
     refine Nif hF ?_ ?_ <;> intro hb hF
     ·refine LR0 ?_
      cases hF
      exact Wz [] hfin
     ·refine LR0 ?_
      cases hF
      exact Wz [] hfin

/- tabularyref.Games -/
def R_Games_v1_J1 (v:List Game):Option (List Game×Fault):=
 some (v,(⟨0,0⟩:Fault))
def R_Games_v1_B1 (texts:List (List UInt8)) (deeds:List Deed) (v1:List Game×Int):Option ((List Game×Int)⊕(List Game×Fault)):=
 if (decide (v1.2<(deeds.length:Int)))=true then
  asrt (0≤v1.2∧v1.2<(v1.1.length:Int)) <|
  asrt (0≤v1.2∧v1.2<(v1.1.length:Int)) <|
  asrt (0≤v1.2∧v1.2<(deeds.length:Int)) <|
  ob (R_GameStep (⟨(⟨((lget v1.1 v1.2).C0).Nodes,((lget v1.1 v1.2).C0).Way⟩:Clan),(lget v1.1 v1.2).K⟩:Game) texts (⟨(lget deeds v1.2).Kind,(lget deeds v1.2).Who,(lget deeds v1.2).N⟩:Deed)) fun x4=>
  if (!decide (x4.2.2.2=0))=true then
   lt (R_F x4.2.2.2 v1.2) fun x5=>
   some (Sum.inr (([]:List Game),x5))
  else
   asrt (((v1.1++[(⟨(⟨x4.1,x4.2.1⟩:Clan),x4.2.2.1⟩:Game)]).length:Int)*56≤140737488351232) <|
   some (Sum.inl ((v1.1++[(⟨(⟨x4.1,x4.2.1⟩:Clan),x4.2.2.1⟩:Game)]),w64 (v1.2+1)))
 else
  inrO (R_Games_v1_J1 v1.1)
def R_Games_v1_L1 (texts:List (List UInt8)) (deeds:List Deed) (v0:List Game×Int):Option (List Game×Fault):=
 loopO (fun y=>R_Games_v1_B1 texts deeds y) v0
def R_Games_v1 (num:Int) (texts:List (List UInt8)) (deeds:List Deed):Option (List Game×Fault):=
 if ((decide (num<1))||(decide (7<num)))=true then
  lt (R_F 3 (-1)) fun x=>
  some (([]:List Game),x)
 else
  if (decide (2000<(deeds.length:Int)))=true then
   lt (R_F 2 (-1)) fun x1=>
   some (([]:List Game),x1)
  else
   if (decide (100<(texts.length:Int)))=true then
    lt (R_F 2 (-2)) fun x2=>
    some (([]:List Game),x2)
   else
    ob (R_Begin num) fun x3=>
    R_Games_v1_L1 texts deeds ([(⟨(⟨x3.1,([]:List Mail)⟩:Clan),x3.2⟩:Game)],0)
theorem R_Games_v1_ok {num texts deeds r} (hF:R_Games_v1 num texts deeds=some r):Pe Try.prog 11 S.none [.i num,.sl 1 (texts.map e_str),.sl 3 (deeds.map e_Deed)] (.tup [.sl 3 (r.1.map e_Game),.agg (c_Fault r.2)]) S.none:=by
 refine PT 60 [.tmp 6,.cell 7 31] [37,31] Try.func11 ?_
 intro Q g hfin
 unfold R_Games_v1 at hF
 refine LR0 ?_
 refine LR0 ?_
 refine Nif hF ?_ ?_ <;> intro hb hF
 ·obtain ⟨x,h0,hF⟩:=lS hF
  refine RJ (.b (R_F_ok h0) .z) ?_
  cases hF
  exact Wz [] hfin
 ·refine RJ (.l e_Deed deeds .z) ?_
  refine Nif hF ?_ ?_ <;> intro hb hF
  ·obtain ⟨x1,h1,hF⟩:=lS hF
   refine RJ (.b (R_F_ok h1) .z) ?_
   cases hF
   exact Wz [] hfin
  ·refine RJ (.l e_str texts .z) ?_
   refine Nif hF ?_ ?_ <;> intro hb hF
   ·obtain ⟨x2,h2,hF⟩:=lS hF
    refine RJ (.b (R_F_ok h2) .z) ?_
    cases hF
    exact Wz [] hfin
   ·obtain ⟨x3,h3,hF⟩:=oE hF
    have p4:=(Pe.ren (R_Begin_ok h3) ⟨[],[(17,28),(71001,20028)],[],[]⟩)
    refine RJ (.e [] [] p4 .z) ?_
    refine LR0 ?_
    refine NmS (fun v=>R_Games_v1_J1 v=some r) (fun Z v=>Z.up [7,8] [7] [29] [] [] [] [(29,.z 42 3 0 (v.map e_Game))] []) ?_ ?_
    ·refine Nblk ?_
     unfold R_Games_v1_L1 at hF
     refine Nits hF [] (fun Z v1=>Z.up [1,2,7,8,9] [7] [29] [] [(9,.i v1.2)] [] [(29,.z 42 3 0 (v1.1.map e_Game))] []) ?_
     intro n1 v1 y1 hF ih1 dn1
     unfold R_Games_v1_B1 at hF
     refine RJ (.l e_Deed deeds .z) ?_
     refine Nif hF ?_ ?_ <;> intro hb hF
     ·refine Nblk ?_
      obtain ⟨h5,h6,hF⟩:=asrt2 hF
      obtain ⟨h7,hF⟩:=aE hF
      obtain ⟨x4,h8,hF⟩:=oE hF
      have p9:=(Pe.ren (R_GameStep_ok h8) ⟨[],[(24,46),(33,20046)],[],[]⟩)
      refine DJ (.x e_Game h5 (.r e_Game h6 (.i e_Deed h7 (.e [] [] p9 .z)))) ?_
      refine LR0 ?_
      refine Nif hF ?_ ?_ <;> intro hb hF
      ·obtain ⟨x5,h10,hF⟩:=lS hF
       refine RJ (.b (R_F_ok h10) .z) ?_
       have hF:=ret_done hF dn1
       cases hF
       exact Wz [] hfin
      ·obtain ⟨h11,hF⟩:=aE hF
       refine RJ (.a (.sealed) (.p e_Game h11 .z)) ?_
       refine LR0 ?_
       exact Nrnq [(29,⟨0,true,true,false⟩)] hF ih1
     ·refine Nexit rfl ?_
      have hF:=inrO_done hF dn1
      exact metQ v1.1 [] hF
    ·intro v hF
     unfold R_Games_v1_J1 at hF
     refine LR0 ?_
     cases hF
     exact Wz [] hfin

/- tabularyref.SameLog -/
def R_SameLog_J1 (v:Unit):Option Bool:=
 some true
def R_SameLog_B1 (a0 b:List Entry) (v1:Int):Option (Int⊕Bool):=
 if (decide (v1<(a0.length:Int)))=true then
  asrt (0≤v1∧v1<(a0.length:Int)) <|
  asrt (0≤v1∧v1<(b.length:Int)) <|
  if (!(decide ((lget a0 v1).Term=(lget b v1).Term)&&(decide ((lget a0 v1).Text=(lget b v1).Text)&&true)))=true then
   some (Sum.inr false)
  else
   some (Sum.inl (w64 (v1+1)))
 else
  inrO (R_SameLog_J1 ())
def R_SameLog_L1 (a0 b:List Entry) (v0:Int):Option Bool:=
 loopO (fun y=>R_SameLog_B1 a0 b y) v0
def R_SameLog (a0 b:List Entry):Option Bool:=
 if (!decide ((a0.length:Int)=(b.length:Int)))=true then
  some false
 else
  R_SameLog_L1 a0 b 0
theorem R_SameLog_ok {a0 b r} (hF:R_SameLog a0 b=some r):Pe Try.prog 17 S.none [.sl 2 (a0.map e_Entry),.sl 2 (b.map e_Entry)] (.bool r) S.none:=by
 refine PT 26 [.tmp 4] [4] Try.func17 ?_
 intro Q g hfin
 unfold R_SameLog at hF
 refine LR0 ?_
 refine RJ (.l e_Entry a0 (.l e_Entry b .z)) ?_
 refine Nif hF ?_ ?_ <;> intro hb hF
 ·refine LR0 ?_
  cases hF
  exact Wz [] hfin
 ·refine LR0 ?_
  refine NmQ (fun v=>R_SameLog_J1 v=some r) (fun v=>(.w [])) ?_ ?_
  ·refine Nblk ?_
   unfold R_SameLog_L1 at hF
   refine Nits hF [] (fun Z v1=>Z.up [0,1,5] [] [] [] [(5,.i v1)] [] [] []) ?_
   intro n1 v1 y1 hF ih1 dn1
   unfold R_SameLog_B1 at hF
   refine RJ (.l e_Entry a0 .z) ?_
   refine Nif hF ?_ ?_ <;> intro hb hF
   ·refine Nblk ?_
    obtain ⟨h0,h1,hF⟩:=asrt2 hF
    refine DJ (.i e_Entry h0 (.i e_Entry h1 .z)) ?_
    refine Nif hF ?_ ?_ <;> intro hb hF
    ·refine LR0 ?_
     have hF:=ret_done hF dn1
     cases hF
     exact Wz [] hfin
    ·refine LR0 ?_
     exact Nrnq [] hF ih1
   ·refine Nexit rfl ?_
    have hF:=inrO_done hF dn1
    exact metQ () [] hF
  ·intro v hF
   unfold R_SameLog_J1 at hF
   refine LR0 ?_
   cases hF
   exact Wz [] hfin

end
end G
end Go.Proofs.Ythiighaapaomcaa
