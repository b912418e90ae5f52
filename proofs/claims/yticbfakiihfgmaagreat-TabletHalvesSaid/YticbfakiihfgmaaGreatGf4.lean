/- The program's functions as plain functions, and that they are these. Written by a program (dec2.py). -/
import Derived.Test.YticbfakiihfgmaaGreatGf3
namespace Go.Proofs.YticbfakiihfgmaaGreat
open Go Go.Dm
set_option linter.unusedVariables false
set_option linter.unusedSimpArgs false
set_option maxRecDepth 100000
namespace G
/- tablet.with -/
noncomputable def tablet_with_v5 (t0:Tablet) (box:Int) (box1 box2:List UInt8) (box3:Tablet):Option (List UInt8×Int×List (List UInt8)×Int×Int×Fault):=
 ob (tablet_load t0) fun x=>
 sm x (fun (x:Fault)=>
  if (!decide (x.Code=0))=true then
   some (([]:List UInt8),0,([]:List (List UInt8)),0,0,x)
  else
   ob (tablet_Part_1 box box1 box2 box3) fun x1=>
   if (!decide (x1.Code=0))=true then
    some (([]:List UInt8),0,([]:List (List UInt8)),0,0,x1)
   else
    none) (fun (x:List UInt8×Int×List (List UInt8)×Int×Int×List Note×Int×List Cell×List (List Cell)×Fault)=>
  if (!decide (x.2.2.2.2.2.2.2.2.2.Code=0))=true then
   some (([]:List UInt8),0,([]:List (List UInt8)),0,0,x.2.2.2.2.2.2.2.2.2)
  else
   ob (tablet_Part_1_v1 x.1 x.2.1 x.2.2.1 x.2.2.2.1 x.2.2.2.2.1 x.2.2.2.2.2.2.1 box box1 box2 box3 x.2.2.2.2.2.1 x.2.2.2.2.2.2.2.1 x.2.2.2.2.2.2.2.2.1) fun x1=>
   if (!decide (x1.1.Code=0))=true then
    some (([]:List UInt8),0,([]:List (List UInt8)),0,0,x1.1)
   else
    ob (tablet_own (⟨(⟨x1.2.1,x1.2.2.1⟩:Disk),x1.2.2.2.1,x1.2.2.2.2.1,x1.2.2.2.2.2.1⟩:Tablet)) fun x2=>
    some (x2.1,x2.2.1,x2.2.2.1,x2.2.2.2.1,x2.2.2.2.2,x1.1))
theorem tablet_with_v5_ok (t0:Tablet) (box:Int) (box1 box2:List UInt8) (box3:Tablet) (r:List UInt8×Int×List (List UInt8)×Int×Int×Fault) (hF:tablet_with_v5 t0 box box1 box2 box3=some r):Pe Tryz.prog 62 ⟨[],[(100000,[.i box]),(100001,[.str box1]),(100002,[.str box2]),(100003,(c_Tablet box3))],[],[],[]⟩ [.agg (c_Tablet t0),.fn 94 [.ptr 100000 0,.ptr 100001 0,.ptr 100002 0,.ptr 100003 0]] (.tup [.agg [.row 30 0,.i r.2.1,.row 20030 0,.i r.2.2.2.1,.i r.2.2.2.2.1],.agg (c_Fault r.2.2.2.2.2)]) ⟨[],[(100000,[.i box]),(100001,[.str box1]),(100002,[.str box2]),(100003,(c_Tablet box3))],[(30,.o 5 1 0 (r.1.map e_u8)),(20030,.o 22 1 0 (r.2.2.1.map e_L_u8))],[],[]⟩:=by
 refine PT 32 [.cell 4 27,.cell 5 35] [27,35] Tryz.func62 ?_
 intro Q g hfin
 unfold tablet_with_v5 at hF
 refine LR0 ?_
 obtain ⟨x,h0,hF⟩:=oE hF
 rcases x with x | x
 ·have hF:=sm_l hF
  refine LR [.callB (.tup [.nilp,.agg (c_Fault x)])] (hc (tablet_load_okl t0 x h0) .nil) ?_
  refine LR0 ?_
  refine Nif hF ?_ ?_ <;> intro hb hF
  ·refine VD [] [4,5] [4,5,100000,100001,100002,100003] [] [] [(4,.ptr 4 0),(5,.ptr 5 0)] [(4,[.nils,.i 0,.nils,.i 0,.i 0]),(5,(c_Fault x)),(100000,[.i box]),(100001,[.str box1]),(100002,[.str box2]),(100003,(c_Tablet box3))] [] [] .nil ?_
   cases hF
   refine Wk_nilrowB 4 0 60000 5 1 rfl rfl rfl rfl rfl ?_
   refine Wk_nilrowB 4 2 60001 22 1 rfl rfl rfl rfl rfl ?_
   refine Wk_ren' ⟨[],[(60000,30),(60001,20030)],[],[]⟩ rfl ?_
   exact Wz [(30,⟨0,true,false,false⟩),(20030,⟨0,true,false,false⟩)] hfin
  ·obtain ⟨x1,h1,hF⟩:=oE hF
   refine LR [.callR [100000,100001,100002,100003] [] [] [] (.agg (c_Fault x1))] (hc (Pe.ren (tablet_Part_1_ok box box1 box2 box3 x1 h1) ⟨[],[],[],[]⟩) .nil) ?_
   refine LR0 ?_
   refine Nif hF ?_ ?_ <;> intro hb hF
   ·refine VD [] [4,5] [4,5,100000,100001,100002,100003] [] [] [(4,.ptr 4 0),(5,.ptr 5 0)] [(4,[.nils,.i 0,.nils,.i 0,.i 0]),(5,(c_Fault x1)),(100000,[.i box]),(100001,[.str box1]),(100002,[.str box2]),(100003,(c_Tablet box3))] [] [] .nil ?_
    cases hF
    refine Wk_nilrowB 4 0 60002 5 1 rfl rfl rfl rfl rfl ?_
    refine Wk_nilrowB 4 2 60003 22 1 rfl rfl rfl rfl rfl ?_
    refine Wk_ren' ⟨[],[(60002,30),(60003,20030)],[],[]⟩ rfl ?_
    exact Wz [(30,⟨0,true,false,false⟩),(20030,⟨0,true,false,false⟩)] hfin
   ·cases hF
 ·have hF:=sm_r hF
  have p1:=(Pe.ren (tablet_load_okr t0 x h0) ⟨[(49,10)],[(54,10),(143,20010),(149,40010)],[],[]⟩)
  refine LR [cE [] [] [] [] p1] (hc p1 .nil) ?_
  refine LR0 ?_
  refine Nif hF ?_ ?_ <;> intro hb hF
  ·refine VD [] [4,5] [4,5,100000,100001,100002,100003] [] [] [(4,.ptr 4 0),(5,.ptr 5 0)] [(4,[.nils,.i 0,.nils,.i 0,.i 0]),(5,(c_Fault x.2.2.2.2.2.2.2.2.2)),(100000,[.i box]),(100001,[.str box1]),(100002,[.str box2]),(100003,(c_Tablet box3))] [] [] .nil ?_
   cases hF
   refine Wk_nilrowB 4 0 60004 5 1 rfl rfl rfl rfl rfl ?_
   refine Wk_nilrowB 4 2 60005 22 1 rfl rfl rfl rfl rfl ?_
   refine Wk_ren' ⟨[],[(60004,30),(60005,20030)],[],[]⟩ rfl ?_
   exact Wz [(30,⟨0,true,false,false⟩),(20030,⟨0,true,false,false⟩)] hfin
  ·obtain ⟨x1,h2,hF⟩:=oE hF
   have p3:=(Pe.ren (tablet_Part_1_v1_ok x.1 x.2.1 x.2.2.1 x.2.2.2.1 x.2.2.2.2.1 x.2.2.2.2.2.2.1 box box1 box2 box3 x.2.2.2.2.2.1 x.2.2.2.2.2.2.2.1 x.2.2.2.2.2.2.2.2.1 ((x.2.2.2.2.2.1.map e_Note).length) 0 true ((x.2.2.2.2.2.2.2.1.map e_Cell).length) 0 false 0 0 true x1 h2) ⟨[(100000,10),(100001,100000),(100002,100001),(100003,100002),(100004,100003)],[(100000,10),(100001,40010),(100002,20010)],[],[]⟩)
   refine LR [cE [10,100000,100001,100002,100003] [10,40010,20010] [] [] p3] (hc p3 .nil) ?_
   refine LR0 ?_
   refine Nif hF ?_ ?_ <;> intro hb hF
   ·refine VD [] [4,5] [4,5,100000,100001,100002,100003] [] [] [(4,.ptr 4 0),(5,.ptr 5 0)] [(4,[.nils,.i 0,.nils,.i 0,.i 0]),(5,(c_Fault x1.1)),(100000,[.i box]),(100001,[.str box1]),(100002,[.str box2]),(100003,(c_Tablet box3))] [] [] .nil ?_
    cases hF
    refine Wk_nilrowB 4 0 60006 5 1 rfl rfl rfl rfl rfl ?_
    refine Wk_nilrowB 4 2 60007 22 1 rfl rfl rfl rfl rfl ?_
    refine Wk_ren' ⟨[],[(60006,30),(60007,20030)],[],[]⟩ rfl ?_
    exact Wz [(30,⟨0,true,false,false⟩),(20030,⟨0,true,false,false⟩)] hfin
   ·obtain ⟨x2,h4,hF⟩:=oE hF
    have p5:=(Pe.ren (tablet_own_ok (⟨(⟨x1.2.1,x1.2.2.1⟩:Disk),x1.2.2.2.1,x1.2.2.2.2.1,x1.2.2.2.2.2.1⟩:Tablet) x2 h4) ⟨[],[(8,30),(13,20030)],[],[]⟩)
    refine LD [cE [] [] [] [] p5] (hc p5 .nil) ?_
    cases hF
    exact Wz [] hfin

/- tablet.Part -/
noncomputable def tablet_Part (t0:Tablet) (from0 to0:List UInt8) (size:Int):Option (List UInt8×Int×List (List UInt8)×Int×Int×Fault):=
 ob (tablet_with_v5 t0 size from0 to0 t0) fun x=>
 some (x.1,x.2.1,x.2.2.1,x.2.2.2.1,x.2.2.2.2.1,x.2.2.2.2.2)
theorem tablet_Part_ok (t0:Tablet) (from0 to0:List UInt8) (size:Int) (r:List UInt8×Int×List (List UInt8)×Int×Int×Fault) (hF:tablet_Part t0 from0 to0 size=some r):Pe Tryz.prog 41 (.w []) [.agg (c_Tablet t0),.str from0,.str to0,.i size] (.tup [.agg [.row 12 0,.i r.2.1,.row 20012 0,.i r.2.2.2.1,.i r.2.2.2.2.1],.agg (c_Fault r.2.2.2.2.2)]) ⟨[],[],[(12,.o 5 1 0 (r.1.map e_u8)),(20012,.o 22 1 0 (r.2.2.1.map e_L_u8))],[],[]⟩:=by
 refine PT 15 [.cell 8 27,.cell 9 35] [27,35] Tryz.func41 ?_
 intro Q g hfin
 unfold tablet_Part at hF
 refine LR0 ?_
 obtain ⟨x,h0,hF⟩:=oE hF
 have p1:=(Pe.ren (tablet_with_v5_ok t0 size from0 to0 t0 x h0) ⟨[(100000,7),(100001,5),(100002,6),(100003,4)],[(30,12),(20030,20012)],[],[]⟩)
 refine LR [cE [7,5,6,4] [] [] [] p1] (hc p1 .nil) ?_
 cases hF
 exact Wz [] hfin

/- tablet.Part -/
/- cell.Asked -/
noncomputable def cell_Asked (a0:Ask):Fault:=
 if ((decide (a0.Time<0))||(decide (1000000000<a0.Time)))=true then
  lt (cell_fault 3 (-1)) fun x=>
  x
 else
  if ((decide (a0.Many<0))||(decide (1000<a0.Many)))=true then
   lt (cell_fault 3 (-2)) fun x1=>
   x1
  else
   (⟨0,0⟩:Fault)
theorem cell_Asked_ok (a0:Ask) (r:Fault) (hF:cell_Asked a0=r):Pe Tryz.prog 97 S.none [.agg (c_Ask a0)] (.agg (c_Fault r)) S.none:=by
 refine PT 22 [.cell 2 35] [35] Tryz.func97 ?_
 intro Q g hfin
 unfold cell_Asked at hF
 refine LR0 ?_
 refine LR0 ?_
 refine Nif hF ?_ ?_ <;> intro hb hF
 ·obtain ⟨x,h0,hF⟩:=lS hF
  refine LR [.callB (.agg (c_Fault x))] (hc (cell_fault_ok 3 (-1) x h0) .nil) ?_
  cases hF
  exact Wz [] hfin
 ·refine LR0 ?_
  refine Nif hF ?_ ?_ <;> intro hb hF
  ·obtain ⟨x1,h1,hF⟩:=lS hF
   refine LR [.callB (.agg (c_Fault x1))] (hc (cell_fault_ok 3 (-2) x1 h1) .nil) ?_
   cases hF
   exact Wz [] hfin
  ·refine LR0 ?_
   cases hF
   exact Wz [] hfin

/- (*tablet.tab).early -/
noncomputable def tablet_tab_early (time:Int) (box:List UInt8) (box1:Int) (box2:List (List UInt8)) (box3 box4 box5:Int) (row:List Note) (row1:List Cell) (row2:List (List Cell)):Fault:=
 if (decide (time<box4))=true then
  lt (tablet_fault 12 (-1)) fun x=>
  x
 else
  (⟨0,0⟩:Fault)
theorem tablet_tab_early_ok (time:Int) (box:List UInt8) (box1:Int) (box2:List (List UInt8)) (box3 box4 box5:Int) (row:List Note) (row1:List Cell) (row2:List (List Cell)) (rk rc:Nat) (rn:Bool) (rk1 rc1:Nat) (rn1:Bool) (rk2 rc2:Nat) (rn2:Bool) (r:Fault) (hF:tablet_tab_early time box box1 box2 box3 box4 box5 row row1 row2=r):Pe Tryz.prog 98 ⟨[],[(100000,[.sl 1 (box.map e_u8),.i box1,.sl 1 (box2.map e_L_u8),.i box3,.i box4,.row 100000 0,.i box5,.row 100001 0,.row 100002 0])],[(100000,.q 50 2 0 rk rc rn (row.map e_Note)),(100001,.q 53 5 0 rk1 rc1 rn1 (row1.map e_Cell)),(100002,.q 28 1 0 rk2 rc2 rn2 (row2.map e_L_Cell))],[],[]⟩ [.ptr 100000 0,.i time] (.agg (c_Fault r)) ⟨[],[(100000,[.sl 1 (box.map e_u8),.i box1,.sl 1 (box2.map e_L_u8),.i box3,.i box4,.row 100000 0,.i box5,.row 100001 0,.row 100002 0])],[(100000,.q 50 2 0 rk rc rn (row.map e_Note)),(100001,.q 53 5 0 rk1 rc1 rn1 (row1.map e_Cell)),(100002,.q 28 1 0 rk2 rc2 rn2 (row2.map e_L_Cell))],[],[]⟩:=by
 refine PT 14 [.cell 4 35] [35] Tryz.func98 ?_
 intro Q g hfin
 unfold tablet_tab_early at hF
 refine LR0 ?_
 refine LR0 ?_
 refine Nif hF ?_ ?_ <;> intro hb hF
 ·obtain ⟨x,h0,hF⟩:=lS hF
  refine LR [.callB (.agg (c_Fault x))] (hc (tablet_fault_ok 12 (-1) x h0) .nil) ?_
  cases hF
  exact Wz [] hfin
 ·refine LR0 ?_
  cases hF
  exact Wz [] hfin

/- cell.Seen -/
noncomputable def cell_Seen_J1 (v:List Cell):Option (List Cell):=
 some v
noncomputable def cell_Seen_J2 (v1:Ask×List Cell×List UInt8×List UInt8×Bool×Int) (v2:Ask×List Cell×List UInt8×List UInt8×Bool):Option ((Ask×List Cell×List UInt8×List UInt8×Bool×Int)⊕(List Cell)):=
 some (Sum.inl (v2.1,v2.2.1,v2.2.2.1,v2.2.2.2.1,v2.2.2.2.2,w64 (v1.2.2.2.2.2+1)))
noncomputable def cell_Seen_B1 (l:List Cell) (v1:Ask×List Cell×List UInt8×List UInt8×Bool×Int):Option ((Ask×List Cell×List UInt8×List UInt8×Bool×Int)⊕(List Cell)):=
 if (decide (v1.2.2.2.2.2<(l.length:Int)))=true then
  asrt (0≤v1.2.2.2.2.2∧v1.2.2.2.2.2<(l.length:Int)) <|
  if (((Op.bytesLess ((lget l v1.2.2.2.2.2).Row) v1.1.From)||((!decide (v1.1.To=([]:List UInt8)))&&(!Op.bytesLess ((lget l v1.2.2.2.2.2).Row) v1.1.To)))||(decide (v1.1.Time<((lget l v1.2.2.2.2.2).Time))))=true then
   cell_Seen_J2 v1 (v1.1,v1.2.1,v1.2.2.1,v1.2.2.2.1,v1.2.2.2.2.1)
  else
   if ((v1.2.2.2.2.1&&(decide (((lget l v1.2.2.2.2.2).Row)=v1.2.2.1)))&&(decide (((lget l v1.2.2.2.2.2).Col)=v1.2.2.2.1)))=true then
    cell_Seen_J2 v1 (v1.1,v1.2.1,v1.2.2.1,v1.2.2.2.1,v1.2.2.2.2.1)
   else
    if ((lget l v1.2.2.2.2.2).Gone)=true then
     cell_Seen_J2 v1 (v1.1,v1.2.1,(lget l v1.2.2.2.2.2).Row,(lget l v1.2.2.2.2.2).Col,true)
    else
     if (decide ((v1.2.1.length:Int)=v1.1.Many))=true then
      inrO (cell_Seen_J1 v1.2.1)
     else
      asrt (((v1.2.1++[(⟨(lget l v1.2.2.2.2.2).Row,(lget l v1.2.2.2.2.2).Col,(lget l v1.2.2.2.2.2).Time,(lget l v1.2.2.2.2.2).Gone,(lget l v1.2.2.2.2.2).Value⟩:Cell)]).length:Int)*64≤140737488351232) <|
      lt ((v1.2.1++[(⟨(lget l v1.2.2.2.2.2).Row,(lget l v1.2.2.2.2.2).Col,(lget l v1.2.2.2.2.2).Time,(lget l v1.2.2.2.2.2).Gone,(lget l v1.2.2.2.2.2).Value⟩:Cell)])) fun (v3:List Cell)=>
      cell_Seen_J2 v1 (v1.1,v3,(lget l v1.2.2.2.2.2).Row,(lget l v1.2.2.2.2.2).Col,true)
 else
  inrO (cell_Seen_J1 v1.2.1)
noncomputable def cell_Seen_L1 (l:List Cell) (v0:Ask×List Cell×List UInt8×List UInt8×Bool×Int):Option (List Cell):=
 loopO (fun y=>cell_Seen_B1 l y) v0
noncomputable def cell_Seen (l:List Cell) (a0:Ask):Option (List Cell):=
 cell_Seen_L1 l (a0,([]:List Cell),([]:List UInt8),([]:List UInt8),false,0)
theorem cell_Seen_ok (l:List Cell) (a0:Ask) (r:List Cell) (hF:cell_Seen l a0=some r):Pe Tryz.prog 99 (.w []) [.sl 5 (l.map e_Cell),.agg (c_Ask a0)] (.row 68 0) ⟨[],[],[(68,.z 53 5 0 (r.map e_Cell))],[],[]⟩:=by
 refine PT 71 [.tmp 4] [28] Tryz.func99 ?_
 intro Q g hfin
 unfold cell_Seen at hF
 refine LR0 ?_
 refine LR0 ?_
 refine LR0 ?_
 refine VR [.nat (l.length:Int)] [3,5,6,7,8,11,12,13] [3] [] [] [(3,.ptr 3 0),(5,.nils),(6,.str ([]:List UInt8)),(7,.str ([]:List UInt8)),(8,.bool false),(11,.sl 5 (l.map e_Cell)),(12,.i (l.length:Int)),(13,.i 0)] [(3,(c_Ask a0))] [] [] (hc (len_ok e_Cell l) .nil) ?_
 refine NmeetP (fun v:List Cell=>(⟨[(5,.row 68 0)],[],[(68,.z 53 5 0 (v.map e_Cell))],[],[]⟩:S)) (fun v=>cell_Seen_J1 v=some r) ?_ ?_
 ·refine Nblk ?_
  unfold cell_Seen_L1 at hF
  refine Wk_nilrow 5 60000 53 5 rfl rfl rfl ?_
  refine Wk_trim (fs:=[3,5,6,7,8,11,12,13]) (bs:=[3]) (rs:=[60000]) (ms:=[]) (aa:=[]) (nv:=[]) rfl ?_
  refine Wk_ren' ⟨[],[(60000,68)],[],[]⟩ rfl ?_
  refine Nitq (fun v1:Ask×List Cell×List UInt8×List UInt8×Bool×Int=>(⟨[(3,.ptr 3 0),(5,.row 68 0),(6,.str v1.2.2.1),(7,.str v1.2.2.2.1),(8,.bool v1.2.2.2.2.1),(11,.sl 5 (l.map e_Cell)),(12,.i (l.length:Int)),(13,.i v1.2.2.2.2.2)],[(3,(c_Ask v1.1))],[(68,.z 53 5 0 (v1.2.1.map e_Cell))],[],[]⟩:S)) [] hF ?_
  intro n1 v1 y1 hF ih1 dn1
  unfold cell_Seen_B1 at hF
  refine LR0 ?_
  refine Nif hF ?_ ?_ <;> intro hb hF
  ·refine NmeetP (fun v2:Ask×List Cell×List UInt8×List UInt8×Bool=>(⟨[(3,.ptr 3 0),(5,.row 68 0),(6,.str v2.2.2.1),(7,.str v2.2.2.2.1),(8,.bool v2.2.2.2.2),(11,.sl 5 (l.map e_Cell)),(12,.i (l.length:Int)),(13,.i v1.2.2.2.2.2)],[(3,(c_Ask v2.1))],[(68,.z 53 5 0 (v2.2.1.map e_Cell))],[],[]⟩:S)) (fun v2=>cell_Seen_J2 v1 v2=some y1) ?_ ?_
   ·refine Nblk ?_
    obtain ⟨h0,hF⟩:=aE hF
    refine LR [.av (e_Cell (lget l v1.2.2.2.2.2))] (hc (idx_ok e_Cell h0) .nil) ?_
    refine LR0 ?_
    refine Nif hF ?_ ?_ <;> intro hb hF
    ·refine Nexit rfl ?_
     exact metQ (v1.1,v1.2.1,v1.2.2.1,v1.2.2.2.1,v1.2.2.2.2.1) [] hF
    ·refine LR0 ?_
     refine Nif hF ?_ ?_ <;> intro hb hF
     ·refine Nexit rfl ?_
      exact metQ (v1.1,v1.2.1,v1.2.2.1,v1.2.2.2.1,v1.2.2.2.2.1) [] hF
     ·refine LD0 ?_
      refine LR0 ?_
      refine Nif hF ?_ ?_ <;> intro hb hF
      ·refine Nexit rfl ?_
       exact metQ (v1.1,v1.2.1,(lget l v1.2.2.2.2.2).Row,(lget l v1.2.2.2.2.2).Col,true) [] hF
      ·refine LR [.nat (v1.2.1.length:Int)] (hc (len_ok e_Cell v1.2.1) .nil) ?_
       refine Nif hF ?_ ?_ <;> intro hb hF
       ·refine Nexit rfl ?_
        have hF:=inrO_done hF dn1
        exact metQ v1.2.1 [] hF
       ·obtain ⟨h1,hF⟩:=aE hF
        obtain ⟨v3,hv,hF⟩:=lS hF
        refine LR [.sealed,.xs (v3.map e_Cell)] (hc (appN e_Cell hv) (hc (applN e_Cell hv h1) .nil)) ?_
        exact metQ (v1.1,v3,(lget l v1.2.2.2.2.2).Row,(lget l v1.2.2.2.2.2).Col,true) [(68,⟨0,true,true,false⟩)] hF
   ·intro v2 hF
    unfold cell_Seen_J2 at hF
    refine LR0 ?_
    exact Nrnq [] hF ih1
  ·refine Nexit rfl ?_
   have hF:=inrO_done hF dn1
   exact metQ v1.2.1 [] hF
 ·intro v hF
  unfold cell_Seen_J1 at hF
  refine LR0 ?_
  cases hF
  exact Wz [] hfin

/- tablet.Scan -/
noncomputable def tablet_Scan (t0:Tablet) (a0:Ask):Option (List Cell×Fault):=
 ob (tablet_load t0) fun x=>
 sm x (fun (x:Fault)=>
  ob (
   if (decide (x.Code=0))=true then
    lt (cell_Asked a0) fun x1=>
    some (a0,(⟨0,0⟩:Fault),x1)
   else
    some (a0,(⟨0,0⟩:Fault),x)) fun (v:Ask×Fault×Fault)=>
  ob (
   if (decide (v.2.2.Code=0))=true then
    none
   else
    some (v.1,v.2.1,v.2.2)) fun (v1:Ask×Fault×Fault)=>
  if (!decide (v1.2.2.Code=0))=true then
   some (([]:List Cell),v1.2.2)
  else
   none) (fun (x:List UInt8×Int×List (List UInt8)×Int×Int×List Note×Int×List Cell×List (List Cell)×Fault)=>
  ob (
   if (decide (x.2.2.2.2.2.2.2.2.2.Code=0))=true then
    lt (cell_Asked a0) fun x1=>
    some (a0,(⟨0,0⟩:Fault),x1)
   else
    some (a0,(⟨0,0⟩:Fault),x.2.2.2.2.2.2.2.2.2)) fun (v:Ask×Fault×Fault)=>
  ob (
   if (decide (v.2.2.Code=0))=true then
    lt (tablet_tab_early v.1.Time x.1 x.2.1 x.2.2.1 x.2.2.2.1 x.2.2.2.2.1 x.2.2.2.2.2.2.1 x.2.2.2.2.2.1 x.2.2.2.2.2.2.2.1 x.2.2.2.2.2.2.2.2.1) fun x2=>
    some (v.1,v.2.1,x2)
   else
    some (v.1,v.2.1,v.2.2)) fun (v1:Ask×Fault×Fault)=>
  if (!decide (v1.2.2.Code=0))=true then
   some (([]:List Cell),v1.2.2)
  else
   ob (tablet_tab_all x.1 x.2.1 x.2.2.1 x.2.2.2.1 x.2.2.2.2.1 x.2.2.2.2.2.2.1 x.2.2.2.2.2.1 x.2.2.2.2.2.2.2.1 x.2.2.2.2.2.2.2.2.1) fun x3=>
   ob (cell_Seen x3.1 v1.1) fun x4=>
   some (x4,v1.2.2))
theorem tablet_Scan_ok (t0:Tablet) (a0:Ask) (r:List Cell×Fault) (hF:tablet_Scan t0 a0=some r):Pe Tryz.prog 42 (.w []) [.agg (c_Tablet t0),.agg (c_Ask a0)] (.tup [.row 32 0,.agg (c_Fault r.2)]) ⟨[],[],[(32,.z 53 5 0 (r.1.map e_Cell))],[],[]⟩:=by
 refine PT 34 [.tmp 4,.cell 5 35] [28,35] Tryz.func42 ?_
 intro Q g hfin
 unfold tablet_Scan at hF
 refine LR0 ?_
 obtain ⟨x,h0,hF⟩:=oE hF
 rcases x with x | x
 ·have hF:=sm_l hF
  refine LR [.callB (.tup [.nilp,.agg (c_Fault x)])] (hc (tablet_load_okl t0 x h0) .nil) ?_
  refine LR0 ?_
  obtain ⟨v,hv,hF⟩:=oE hF
  refine Nmeet (⟨[(3,.ptr 3 0),(5,.ptr 5 0),(6,.nilp),(7,.ptr 7 0)],[(3,(c_Ask v.1)),(5,(c_Fault v.2.1)),(7,(c_Fault v.2.2))],[],[],[]⟩:S) ?_ ?_
  ·have hF:=hv
   refine Nif hF ?_ ?_ <;> intro hb hF
   ·obtain ⟨x1,h1,hF⟩:=lS hF
    refine LR [.callB (.agg (c_Fault x1))] (hc (cell_Asked_ok a0 x1 h1) .nil) ?_
    cases hF
    exact met' []
   ·cases hF
    exact met' []
  ·refine LR0 ?_
   obtain ⟨v1,hv,hF⟩:=oE hF
   refine Nmeet (⟨[(3,.ptr 3 0),(5,.ptr 5 0),(6,.nilp),(7,.ptr 7 0)],[(3,(c_Ask v1.1)),(5,(c_Fault v1.2.1)),(7,(c_Fault v1.2.2))],[],[],[]⟩:S) ?_ ?_
   ·have hF:=hv
    refine Nif hF ?_ ?_ <;> intro hb hF
    ·cases hF
    ·cases hF
     exact met' []
   ·refine LR0 ?_
    refine Nif hF ?_ ?_ <;> intro hb hF
    ·refine VD [] [4,5] [5] [] [] [(4,.nils),(5,.ptr 5 0)] [(5,(c_Fault v1.2.2))] [] [] .nil ?_
     cases hF
     refine Wk_nilrow 4 60000 53 5 rfl rfl rfl ?_
     refine Wk_ren' ⟨[],[(60000,32)],[],[]⟩ rfl ?_
     exact Wz [] hfin
    ·cases hF
 ·have hF:=sm_r hF
  have p1:=(Pe.ren (tablet_load_okr t0 x h0) ⟨[(49,10)],[(54,10),(143,20010),(149,40010)],[],[]⟩)
  refine LR [cE [] [] [] [] p1] (hc p1 .nil) ?_
  refine LR0 ?_
  obtain ⟨v,hv,hF⟩:=oE hF
  refine Nmeet (⟨[(3,.ptr 3 0),(5,.ptr 5 0),(6,.ptr 10 0),(7,.ptr 7 0)],[(3,(c_Ask v.1)),(5,(c_Fault v.2.1)),(7,(c_Fault v.2.2)),(10,[.sl 1 (x.1.map e_u8),.i x.2.1,.sl 1 (x.2.2.1.map e_L_u8),.i x.2.2.2.1,.i x.2.2.2.2.1,.row 10 0,.i x.2.2.2.2.2.2.1,.row 40010 0,.row 20010 0])],[(10,⟨50,2,0,(x.2.2.2.2.2.1.map e_Note).length,0,true,0,[],(x.2.2.2.2.2.1.map e_Note)⟩),(20010,.z 28 1 0 (x.2.2.2.2.2.2.2.2.1.map e_L_Cell)),(40010,⟨53,5,0,(x.2.2.2.2.2.2.2.1.map e_Cell).length,0,false,0,[],(x.2.2.2.2.2.2.2.1.map e_Cell)⟩)],[],[]⟩:S) ?_ ?_
  ·have hF:=hv
   refine Nif hF ?_ ?_ <;> intro hb hF
   ·obtain ⟨x1,h2,hF⟩:=lS hF
    refine LR [.callB (.agg (c_Fault x1))] (hc (cell_Asked_ok a0 x1 h2) .nil) ?_
    cases hF
    exact met' []
   ·cases hF
    exact met' []
  ·refine LR0 ?_
   obtain ⟨v1,hv,hF⟩:=oE hF
   refine Nmeet (⟨[(3,.ptr 3 0),(5,.ptr 5 0),(6,.ptr 10 0),(7,.ptr 7 0)],[(3,(c_Ask v1.1)),(5,(c_Fault v1.2.1)),(7,(c_Fault v1.2.2)),(10,[.sl 1 (x.1.map e_u8),.i x.2.1,.sl 1 (x.2.2.1.map e_L_u8),.i x.2.2.2.1,.i x.2.2.2.2.1,.row 10 0,.i x.2.2.2.2.2.2.1,.row 40010 0,.row 20010 0])],[(10,⟨50,2,0,(x.2.2.2.2.2.1.map e_Note).length,0,true,0,[],(x.2.2.2.2.2.1.map e_Note)⟩),(20010,.z 28 1 0 (x.2.2.2.2.2.2.2.2.1.map e_L_Cell)),(40010,⟨53,5,0,(x.2.2.2.2.2.2.2.1.map e_Cell).length,0,false,0,[],(x.2.2.2.2.2.2.2.1.map e_Cell)⟩)],[],[]⟩:S) ?_ ?_
   ·have hF:=hv
    refine Nif hF ?_ ?_ <;> intro hb hF
    ·obtain ⟨x2,h3,hF⟩:=lS hF
     refine LR [.callR [10] [10,40010,20010] [] [] (.agg (c_Fault x2))] (hc (Pe.ren (tablet_tab_early_ok v.1.Time x.1 x.2.1 x.2.2.1 x.2.2.2.1 x.2.2.2.2.1 x.2.2.2.2.2.2.1 x.2.2.2.2.2.1 x.2.2.2.2.2.2.2.1 x.2.2.2.2.2.2.2.2.1 ((x.2.2.2.2.2.1.map e_Note).length) 0 true ((x.2.2.2.2.2.2.2.1.map e_Cell).length) 0 false 0 0 true x2 h3) ⟨[(100000,10)],[(100000,10),(100001,40010),(100002,20010)],[],[]⟩) .nil) ?_
     cases hF
     exact met' []
    ·cases hF
     exact met' []
   ·refine LR0 ?_
    refine Nif hF ?_ ?_ <;> intro hb hF
    ·refine VD [] [4,5] [5] [] [] [(4,.nils),(5,.ptr 5 0)] [(5,(c_Fault v1.2.2))] [] [] .nil ?_
     cases hF
     refine Wk_nilrow 4 60001 53 5 rfl rfl rfl ?_
     refine Wk_ren' ⟨[],[(60001,32)],[],[]⟩ rfl ?_
     exact Wz [] hfin
    ·obtain ⟨x3,h4,hF⟩:=oE hF
     have p5:=(Pe.ren (tablet_tab_all_ok x.1 x.2.1 x.2.2.1 x.2.2.2.1 x.2.2.2.2.1 x.2.2.2.2.2.2.1 x.2.2.2.2.2.1 x.2.2.2.2.2.2.2.1 x.2.2.2.2.2.2.2.2.1 ((x.2.2.2.2.2.1.map e_Note).length) 0 true ((x.2.2.2.2.2.2.2.1.map e_Cell).length) 0 false 0 0 true x3 h4) ⟨[(100000,10)],[(100000,10),(100001,40010),(100002,20010),(5,30)],[],[]⟩)
     obtain ⟨x4,h6,hF⟩:=oE hF
     have p7:=(Pe.ren (cell_Seen_ok x3.1 v1.1 x4 h6) ⟨[],[(68,32)],[],[]⟩)
     refine LD [cE [10] [10,40010,20010] [] [] p5,cE [] [] [] [] p7] (hc p5 (hc p7 .nil)) ?_
     cases hF
     exact Wz [] hfin

/- tablet.Scan -/
noncomputable def tablet_Scan_v1 (t0:Tablet) (a0:Ask):Option (List Cell×Fault):=
 ob (tablet_load t0) fun x=>
 sm x (fun (x:Fault)=>
  ob (
   if (decide (x.Code=0))=true then
    lt (cell_Asked a0) fun x1=>
    some (a0,(⟨0,0⟩:Fault),x1)
   else
    some (a0,(⟨0,0⟩:Fault),x)) fun (v:Ask×Fault×Fault)=>
  ob (
   if (decide (v.2.2.Code=0))=true then
    none
   else
    some (v.1,v.2.1,v.2.2)) fun (v1:Ask×Fault×Fault)=>
  if (!decide (v1.2.2.Code=0))=true then
   some (([]:List Cell),v1.2.2)
  else
   none) (fun (x:List UInt8×Int×List (List UInt8)×Int×Int×List Note×Int×List Cell×List (List Cell)×Fault)=>
  ob (
   if (decide (x.2.2.2.2.2.2.2.2.2.Code=0))=true then
    lt (cell_Asked a0) fun x1=>
    some (a0,(⟨0,0⟩:Fault),x1)
   else
    some (a0,(⟨0,0⟩:Fault),x.2.2.2.2.2.2.2.2.2)) fun (v:Ask×Fault×Fault)=>
  ob (
   if (decide (v.2.2.Code=0))=true then
    lt (tablet_tab_early v.1.Time x.1 x.2.1 x.2.2.1 x.2.2.2.1 x.2.2.2.2.1 x.2.2.2.2.2.2.1 x.2.2.2.2.2.1 x.2.2.2.2.2.2.2.1 x.2.2.2.2.2.2.2.2.1) fun x2=>
    some (v.1,v.2.1,x2)
   else
    some (v.1,v.2.1,v.2.2)) fun (v1:Ask×Fault×Fault)=>
  if (!decide (v1.2.2.Code=0))=true then
   some (([]:List Cell),v1.2.2)
  else
   ob (tablet_tab_all x.1 x.2.1 x.2.2.1 x.2.2.2.1 x.2.2.2.2.1 x.2.2.2.2.2.2.1 x.2.2.2.2.2.1 x.2.2.2.2.2.2.2.1 x.2.2.2.2.2.2.2.2.1) fun x3=>
   ob (cell_Seen x3.1 v1.1) fun x4=>
   some (x4,v1.2.2))

/- tabularylaw.TabletHalves -/
noncomputable def law_TabletHalves (t0:Tablet) (row:List UInt8) (size:Int) (a0:Ask):Option Bool:=
 ob (law_tabletBegun) fun x=>
 if (!x)=true then
  some false
 else
  ob (law_vastTablet t0) fun x1=>
  if x1=true then
   some true
  else
   ob (tablet_Halve t0) fun x2=>
   ob (
    if ((decide (x2.2.Code=0))&&(decide (row=([]:List UInt8))))=true then
     some (x2.1,t0,a0,x2.2)
    else
     some (row,t0,a0,x2.2)) fun (v:List UInt8×Tablet×Ask×Fault)=>
   if (decide (v.1=([]:List UInt8)))=true then
    some true
   else
    ob (tablet_Part v.2.1 ([]:List UInt8) v.1 size) fun x3=>
    ob (tablet_Part v.2.1 v.1 ([]:List UInt8) size) fun x4=>
    if ((!decide (x3.2.2.2.2.2.Code=0))||(!decide (x4.2.2.2.2.2.Code=0)))=true then
     some true
    else
     if (((decide (v.2.2.2.Code=0))&&(decide (v.1=x2.1)))&&((!decide ((x3.2.2.1.length:Int)=1))||(!decide ((x4.2.2.1.length:Int)=1))))=true then
      some false
     else
      ob (tablet_Scan v.2.1 (⟨v.2.2.1.From,v.2.2.1.To,v.2.2.1.Time,1000⟩:Ask)) fun x5=>
      ob (tablet_Scan (⟨(⟨x3.1,x3.2.1⟩:Disk),x3.2.2.1,x3.2.2.2.1,x3.2.2.2.2.1⟩:Tablet) (⟨v.2.2.1.From,v.2.2.1.To,v.2.2.1.Time,1000⟩:Ask)) fun x6=>
      ob (tablet_Scan (⟨(⟨x4.1,x4.2.1⟩:Disk),x4.2.2.1,x4.2.2.2.1,x4.2.2.2.2.1⟩:Tablet) (⟨v.2.2.1.From,v.2.2.1.To,v.2.2.1.Time,1000⟩:Ask)) fun x7=>
      if ((!(decide (x5.2.Code=x6.2.Code)&&(decide (x5.2.At=x6.2.At)&&true)))||(!(decide (x5.2.Code=x7.2.Code)&&(decide (x5.2.At=x7.2.At)&&true))))=true then
       some false
      else
       if (!decide (x5.2.Code=0))=true then
        some true
       else
        ob (law_ownCells x6.1) fun x8=>
        asrt (((x8++x7.1).length:Int)*64≤140737488351232) <|
        ob (R_SameCells x5.1 (x8++x7.1)) fun x9=>
        some x9
theorem law_TabletHalves_ok (t0:Tablet) (row:List UInt8) (size:Int) (a0:Ask) (r:Bool) (hF:law_TabletHalves t0 row size a0=some r):Pe Tryz.prog 4 S.none [.agg (c_Tablet t0),.str row,.i size,.agg (c_Ask a0)] (.bool r) S.none:=by
 refine PT 117 [.tmp 8] [4] Tryz.func4 ?_
 intro Q g hfin
 unfold law_TabletHalves at hF
 refine LR0 ?_
 obtain ⟨x,h0,hF⟩:=oE hF
 refine LR [.callB (.bool x)] (hc (law_tabletBegun_ok  x h0) .nil) ?_
 refine Nif hF ?_ ?_ <;> intro hb hF
 ·refine LR0 ?_
  cases hF
  exact Wz [] hfin
 ·obtain ⟨x1,h1,hF⟩:=oE hF
  refine LR [.callB (.bool x1)] (hc (law_vastTablet_ok t0 x1 h1) .nil) ?_
  refine Nif hF ?_ ?_ <;> intro hb hF
  ·refine LR0 ?_
   cases hF
   exact Wz [] hfin
  ·obtain ⟨x2,h2,hF⟩:=oE hF
   refine LR [.callB (.tup [.str x2.1,.agg (c_Fault x2.2)])] (hc (tablet_Halve_ok t0 x2 h2) .nil) ?_
   refine LR0 ?_
   obtain ⟨v,hv,hF⟩:=oE hF
   refine Nmeet (⟨[(1,.str v.1),(2,.i size),(4,.ptr 4 0),(7,.ptr 7 0),(9,.str x2.1),(10,.ptr 10 0)],[(4,(c_Tablet v.2.1)),(7,(c_Ask v.2.2.1)),(10,(c_Fault v.2.2.2))],[],[],[]⟩:S) ?_ ?_
   ·have hF:=hv
    refine Nif hF ?_ ?_ <;> intro hb hF
    ·refine LR0 ?_
     cases hF
     exact met' []
    ·cases hF
     exact met' []
   ·refine LR0 ?_
    refine Nif hF ?_ ?_ <;> intro hb hF
    ·refine LR0 ?_
     cases hF
     exact Wz [] hfin
    ·obtain ⟨x3,h3,hF⟩:=oE hF
     have p4:=(Pe.ren (tablet_Part_ok v.2.1 ([]:List UInt8) v.1 size x3 h3) ⟨[],[(12,41),(20012,20041)],[],[]⟩)
     refine LR [cE [] [] [] [] p4] (hc p4 .nil) ?_
     obtain ⟨x4,h5,hF⟩:=oE hF
     have p6:=(Pe.ren (tablet_Part_ok v.2.1 v.1 ([]:List UInt8) size x4 h5) ⟨[],[(12,48),(20012,20048)],[],[]⟩)
     refine LR [cE [] [] [] [] p6] (hc p6 .nil) ?_
     refine LR0 ?_
     refine Nif hF ?_ ?_ <;> intro hb hF
     ·refine LR0 ?_
      cases hF
      exact Wz [] hfin
     ·refine LR [.nat (x3.2.2.1.length:Int),.nat (x4.2.2.1.length:Int)] (hc (fun (_:((decide (v.2.2.2.Code=0))&&(decide (v.1=x2.1)))=true)=>(len_ok e_L_u8 x3.2.2.1)) (hc (fun (_:(!(!decide ((x3.2.2.1.length:Int)=1)))=true) (_:((decide (v.2.2.2.Code=0))&&(decide (v.1=x2.1)))=true)=>(len_ok e_L_u8 x4.2.2.1)) .nil)) ?_
      refine Nif hF ?_ ?_ <;> intro hb hF
      ·refine LR0 ?_
       cases hF
       exact Wz [] hfin
      ·refine LR0 ?_
       obtain ⟨x5,h7,hF⟩:=oE hF
       have p8:=(Pe.ren (tablet_Scan_ok v.2.1 (⟨v.2.2.1.From,v.2.2.1.To,v.2.2.1.Time,1000⟩:Ask) x5 h7) ⟨[],[(32,83)],[],[]⟩)
       refine LR [cE [] [] [] [] p8] (hc p8 .nil) ?_
       obtain ⟨x6,h9,hF⟩:=oE hF
       have p10:=(Pe.ren (tablet_Scan_ok (⟨(⟨x3.1,x3.2.1⟩:Disk),x3.2.2.1,x3.2.2.2.1,x3.2.2.2.2.1⟩:Tablet) (⟨v.2.2.1.From,v.2.2.1.To,v.2.2.1.Time,1000⟩:Ask) x6 h9) ⟨[],[(32,89)],[],[]⟩)
       refine LR [cE [] [] [] [] p10] (hc p10 .nil) ?_
       obtain ⟨x7,h11,hF⟩:=oE hF
       have p12:=(Pe.ren (tablet_Scan_ok (⟨(⟨x4.1,x4.2.1⟩:Disk),x4.2.2.1,x4.2.2.2.1,x4.2.2.2.2.1⟩:Tablet) (⟨v.2.2.1.From,v.2.2.1.To,v.2.2.1.Time,1000⟩:Ask) x7 h11) ⟨[],[(32,95)],[],[]⟩)
       refine LR [cE [] [] [] [] p12] (hc p12 .nil) ?_
       refine LR0 ?_
       refine Nif hF ?_ ?_ <;> intro hb hF
       ·refine LR0 ?_
        cases hF
        exact Wz [] hfin
       ·cases hk2:(!decide (x5.2.Code=0))
        ·have hF:=ite_f hF hk2
         obtain ⟨x8,h13,hF⟩:=oE hF
         have p14:=(Pe.ren (law_ownCells_ok x6.1 x8 h13) ⟨[],[(4,112)],[],[]⟩)
         obtain ⟨h15,hF⟩:=aE hF
         obtain ⟨x9,h16,hF⟩:=oE hF
         refine NK [(109,false)] [cE [] [] [] [] p14,.xs ((x8++x7.1).map e_Cell),.callB (.bool x9)] [8] [] [] [] ⟨[(8,.bool x9)],[],[],[],[]⟩ (hc hk2 (hc hk2 (hc hk2 (hc p14 (hc hk2 (hc hk2 (hc (app_ok e_Cell x8 x7.1) (hc (appl_ok e_Cell h15) (hc hk2 (hc (R_SameCells_ok x5.1 (x8++x7.1) x9 h16) (hc hk2 .nil))))))))))) ?_
         cases hF
         exact Wz [] hfin
        ·have hF:=ite_t hF hk2
         refine NK [(109,true)] [] [8] [] [] [] ⟨[(8,.bool true)],[],[],[],[]⟩ (hc hk2 (hc hk2 (hc hk2 (hc hk2 (hc hk2 (hc hk2 (hc hk2 .nil))))))) ?_
         cases hF
         exact Wz [] hfin

/- tablet.Check -/
/- slices.BinarySearchFunc[[]api.Cell,api.Cell,api.Cell] -/
/- cell.Newest -/
/- tablet.Get -/
/- tabularyref.SeenCell -/
/- tabularyref.AskFault -/
/- tabularyref.Scanned -/
/- tabularylaw.TabletAsks$1 -/
/- tabularylaw.cellsAs -/
/- tabularyref.RowsOf -/
/- tabularylaw.TabletAsks -/
/- tablet.Compact$1 -/
/- tablet.Compact$1$1 -/
/- slices.IndexFunc[[]api.Cell,api.Cell] -/
/- slices.ContainsFunc[[]api.Cell,api.Cell] -/
/- merge.fault -/
/- merge.lists -/
/- (merge.heap).less -/
/- (merge.heap).down -/
/- merge.joined$1 -/
/- merge.each -/
/- merge.joined -/
/- merge.Join -/
/- merge.Compact -/
/- slices.Clone[[][]byte,[]byte] -/
/- tablet.Compact$1 -/
/- tablet.with -/
/- tablet.Compact -/
/- tablet.Compact -/
/- tabularyref.Compacted -/
/- tabularylaw.TabletMakes$1 -/
/- tabularylaw.tabletAs -/
/- tabularyref.Between -/
/- tabularylaw.TabletMakes$2 -/
/- tabularylaw.tabletAs -/
/- tabularylaw.TabletMakes -/
/- tabularylaw.TabletKeeps$1 -/
/- tabularylaw.cellsAs -/
/- tabularylaw.TabletKeeps -/
end G
end Go.Proofs.YticbfakiihfgmaaGreat
